/-
  Texts of this proof, put together: FwS1, FwS2, FwS3, FwS4, FwRow2, FwS6, FwS7, FwS8, FwRd, FwS5, Bl, FwKl, Ty, Rd, FwIt, ItS, It, D0, D1.
-/
import Derived.Test.YtcidnoghoifmmaaDoorFwT3
import Derived.Test.YtcidnoghoifmmaaDoorFwRow
import Derived.Test.YtcidnoghoifmmaaDoorRows
import Derived.Deep.Slices
import Derived.Deep.DeepHandedRow
import Derived.Lib.LaidTab
import Derived.Lib.Builder
import Derived.Lib.UnsafeStr
import Derived.Test.YtcidnoghoifmmaaDoorProg
import Derived.WalkKit
import Derived.KernelRfl
import Derived.Lib.ItoaMem
import Derived.Shelf.Strconv.Itoa3
import Derived.Shelf.LaysM
set_option linter.unusedSimpArgs false
set_option linter.unusedVariables false
section
namespace Go.Proofs.YtcidnoghoifmmaaDoor.AW
open Go

abbrev PH:=Nat→Option cz
abbrev bU:=PH→Prop
def PH.dj (a b:PH):Prop:= ∀i,a i=none∨b i=none
def PH.or (a b:PH):PH:=fun i=>match a i with | some x=>some x | none=>b i
def eX:List bU→bU
 | [],_=>True
 | P::L,h=> ∃a b:PH,P a∧eX L b∧PH.dj a b∧ ∀i,h i=PH.or a b i
def SH (st:aA) (L:List bU):Prop:=eX L (fun i=>st[i]?)
def pt (id:Nat) (o:cz):bU:=fun h=> ∀i,h i=if i=id then some o else none
def emp:bU:=fun h=> ∀i,h i=none

theorem PH.lB {a b:PH} {i:Nat} {x:cz} (h:a i=some x):PH.or a b i=some x:=by simp only [PH.or,h]
theorem PH.iA {a b:PH} {i:Nat} (h:a i=none):PH.or a b i=b i:=by simp only [PH.or,h]
theorem PH.or_none {a b:PH} {i:Nat}:PH.or a b i=none↔a i=none∧b i=none:=by
 cases h:a i with
 | none=>simp [PH.or,h]
 | some x=>simp [PH.or,h]
theorem PH.dj.symm {a b:PH} (h:PH.dj a b):PH.dj b a:=fun i=>(h i).symm
theorem PH.or_comm {a b:PH} (h:PH.dj a b) (i:Nat):PH.or a b i=PH.or b a i:=by
 rcases h i with e | e
 ·rw [PH.iA e]
  cases h2:b i with
  | none=>exact (PH.or_none.2 ⟨h2,e⟩).symm
  | some x=>exact (PH.lB h2).symm
 rw [PH.iA e]
 cases h2:a i with
 | none=>exact PH.or_none.2 ⟨h2,e⟩
 | some x=>exact PH.lB h2
theorem PH.or_assoc (a b c:PH) (i:Nat):PH.or (PH.or a b) c i=PH.or a (PH.or b c) i:=by
  cases h:a i with
  | none=>
    rw [PH.iA h]
    cases h2:b i with
    | none=>rw [PH.iA (PH.or_none.2 ⟨h,h2⟩),PH.iA h2]
    | some x=>rw [PH.lB (x:=x) (by rw [PH.iA h];exact h2),PH.lB h2]
  | some x=>rw [PH.lB (x:=x) (PH.lB h),PH.lB h]
theorem PH.lP {a b c:PH}:PH.dj a (PH.or b c)↔PH.dj a b∧PH.dj a c:=by
 constructor
 ·intro h
  refine ⟨fun i=>?_,fun i=>?_⟩
  ·rcases h i with e | e
   ·exact .inl e
   exact .inr (PH.or_none.1 e).1
  rcases h i with e | e
  ·exact .inl e
  exact .inr (PH.or_none.1 e).2
 intro ⟨h1,h2⟩ i
 rcases h1 i with e | e
 ·exact .inl e
 rcases h2 i with e' | e'
 ·exact .inl e'
 exact .inr (PH.or_none.2 ⟨e,e'⟩)
theorem gD: ∀ {L:List bU} {h h':PH},(∀i,h i=h' i)→eX L h→eX L h'
 | [],_,_,_,_=>trivial
 | P::L,h,h',e,⟨a,b,h1,h2,h3,h4⟩=>⟨a,b,h1,h2,h3,fun i=>(e i).symm.trans (h4 i)⟩
theorem iu: ∀ {L:List bU} {a b:PH},PH.dj a b→eX L a→eX L (PH.or a b)
  | [],_,_,_,_=>trivial
  | P::L,a,b,hd,⟨p,q,h1,h2,h3,h4⟩=>by
    have hq:PH.dj p b∧PH.dj q b:=by
      refine ⟨fun i=>?_,fun i=>?_⟩
      · rcases hd i with e | e
        · rw [h4 i] at e;exact .inl (PH.or_none.1 e).1
        exact .inr e
      rcases hd i with e | e
      · rw [h4 i] at e;exact .inl (PH.or_none.1 e).2
      exact .inr e
    refine ⟨p,PH.or q b,h1,iu hq.2 h2,PH.lP.2 ⟨h3,hq.1⟩,fun i=>?_⟩
    rw [←PH.or_assoc]
    simp only [PH.or,h4 i]
theorem mH: ∀ {j:Nat} {L:List bU} {h:PH} {P:bU},L[j]? =some P→eX L h→ ∃a b,P a∧eX (L.eraseIdx j) b∧PH.dj a b∧ ∀i,h i=PH.or a b i
  | _,[],_,_,hj,_=>by simp at hj
  | 0,Q::L,h,P,hj,⟨a,b,h1,h2,h3,h4⟩=>by
    simp at hj;subst hj
    exact ⟨a,b,h1,h2,h3,h4⟩
  | j+1,Q::L,h,P,hj,⟨a,b,h1,h2,h3,h4⟩=>by
    simp at hj
    obtain ⟨p,q,k1,k2,k3,k4⟩:=mH hj h2
    have hap:PH.dj a p∧PH.dj a q:=PH.lP.1 (fun i=>by rw [←k4 i];exact h3 i)
    refine ⟨p,PH.or a q,k1,⟨a,q,h1,k2,hap.2,fun i=>rfl⟩,PH.lP.2 ⟨hap.1.symm,k3⟩,fun i=>?_⟩
    rw [h4 i,←PH.or_assoc]
    have e1:PH.or a b i=PH.or a (PH.or p q) i:=by simp only [PH.or,k4 i]
    rw [e1,←PH.or_assoc]
    have e2:=PH.or_comm hap.1 i
    simp only [PH.or] at e2 ⊢
    rw [e2]
theorem qA: ∀ {j:Nat} {L:List bU} {a b:PH} {P:bU},j<L.length→P a→eX (L.eraseIdx j) b→PH.dj a b→eX (L.set j P) (PH.or a b)
  | _,[],_,_,_,hj,_,_,_=>by simp at hj
  | 0,Q::L,a,b,P,_,hp,hl,hd=>⟨a,b,hp,hl,hd,fun _=>rfl⟩
  | j+1,Q::L,a,b,P,hj,hp,⟨p,q,h1,h2,h3,h4⟩,hd=>by
    have hap:PH.dj a p∧PH.dj a q:=PH.lP.1 (fun i=>by rw [←h4 i];exact hd i)
    have hj':j<L.length:=by simpa using hj
    refine ⟨p,PH.or a q,h1,qA hj' hp h2 hap.2,PH.lP.2 ⟨hap.1.symm,h3⟩,fun i=>?_⟩
    have e1:PH.or a b i=PH.or a (PH.or p q) i:=by simp only [PH.or,h4 i]
    rw [e1,←PH.or_assoc,←PH.or_assoc]
    have e2:=PH.or_comm hap.1 i
    simp only [PH.or] at e2 ⊢
    rw [e2]
def bU.T:bU:=fun _=>True
theorem Bb {j:Nat} {L:List bU} {h:PH} (hs:eX L h):eX (L.getD j bU.T::L.eraseIdx j) h:=by
  cases hj:L[j]? with
  | none=>
    have e:L.getD j bU.T=bU.T:=by simp [List.getD,hj]
    rw [e,List.eraseIdx_of_length_le (by simpa using hj)]
    exact ⟨fun _=>none,h,trivial,hs,fun i=>.inl rfl,fun i=>(PH.iA rfl).symm⟩
  | some P=>
    have e:L.getD j bU.T=P:=by simp [List.getD,hj]
    rw [e]
    obtain ⟨a,b,h1,h2,h3,h4⟩:=mH hj hs
    exact ⟨a,b,h1,h2,h3,h4⟩
theorem eG: ∀ {A B:List bU} {h:PH},eX (A++B) h↔ ∃a b,eX A a∧eX B b∧PH.dj a b∧ ∀i,h i=PH.or a b i
  | [],B,h=>⟨fun hs=>⟨fun _=>none,h,trivial,hs,fun i=>.inl rfl,fun i=>(PH.iA rfl).symm⟩,fun ⟨a,b,_,h2,h3,h4⟩=>gD (fun i=>((h4 i).trans (PH.or_comm h3 i)).symm) (iu h3.symm h2)⟩
  | P::A,B,h=>by
    constructor
    · rintro ⟨p,q,h1,h2,h3,h4⟩
      obtain ⟨a,b,k1,k2,k3,k4⟩:=eG.1 h2
      have hp:PH.dj p a∧PH.dj p b:=PH.lP.1 (fun i=>by rw [←k4 i];exact h3 i)
      refine ⟨PH.or p a,b,⟨p,a,h1,k1,hp.1,fun _=>rfl⟩,k2,(PH.lP.2 ⟨hp.2.symm,k3.symm⟩).symm,fun i=>?_⟩
      rw [h4 i,PH.or_assoc]
      simp only [PH.or,k4 i]
    rintro ⟨a,b,⟨p,q,h1,h2,h3,h4⟩,k2,k3,k4⟩
    have hp:PH.dj b p∧PH.dj b q:=PH.lP.1 (fun i=>by rw [←h4 i];exact k3.symm i)
    refine ⟨p,PH.or q b,h1,eG.2 ⟨q,b,h2,k2,hp.2.symm,fun _=>rfl⟩,PH.lP.2 ⟨h3,hp.1.symm⟩,fun i=>?_⟩
    rw [k4 i,←PH.or_assoc]
    simp only [PH.or,h4 i]
section
variable {st st':aA} {L:List bU} {id j:Nat} {o:cz}

theorem SH.nil:SH st []:=trivial
theorem SH.g (hs:SH st L) (j:Nat) (hj:L[j]? =some (pt id o)):st[id]? =some o:=by
 obtain ⟨a,b,h1,h2,h3,h4⟩:=mH hj hs
 have:=h4 id
 rw [this]
 exact PH.lB (by rw [h1 id,if_pos rfl])
theorem SH.gS {P P':bU} (hs:SH st L) (hj:L[j]? =some P) (h: ∀a b:PH,P a→PH.dj a b→(∀i,st[i]? =PH.or a b i)→ ∃a',P' a'∧PH.dj a' b∧ ∀i,st'[i]? =PH.or a' b i):SH st' (L.set j P'):=by
 obtain ⟨a,b,h1,h2,h3,h4⟩:=mH hj hs
 obtain ⟨a',k1,k2,k3⟩:=h a b h1 h3 h4
 exact gD (fun i=>(k3 i).symm) (qA (List.getElem?_eq_some_iff.1 hj).1 k1 h2 k2)
theorem SH.set (hs:SH st L) (hj:L[j]? =some (pt id o)) (o':cz):SH (st.set id o') (L.set j (pt id o')):=by
 have hid:id<st.length:=(List.getElem?_eq_some_iff.1 (hs.g j hj)).1
 refine hs.gS hj fun a b ha hd he=>⟨fun i=>if i=id then some o' else none,fun _=>rfl,fun i=>?_,fun i=>?_⟩
 ·by_cases hi:i=id
  ·right
   rcases hd i with e | e
   ·rw [ha i,if_pos hi] at e;cases e
   exact e
  exact .inl (if_neg hi)
 by_cases hi:i=id
 ·subst hi
  rw [List.getElem?_set_self hid,PH.lB (a:=fun j=>if j=i then some o' else none) (x:=o') (if_pos rfl)]
 rw [List.getElem?_set_ne (Ne.symm hi),he i,PH.iA (a:=fun i=>if i=id then some o' else none) (if_neg hi),PH.iA (by rw [ha i,if_neg hi])]
def jT:List bU→Nat→bU→Option (List bU)
  | [],_,_=>none
  | a::L,j,P=>match j with
    | 0=>some (P::L)
    | j+1=>match jT L j P with
      | some L'=>some (a::L')
      | none=>none
theorem eO: ∀ {L:List bU} {j:Nat} {P:bU} {L':List bU},jT L j P=some L'→L'=L.set j P
  | [],_,_,_,h=>by simp [jT] at h
  | a::L,0,P,L',h=>by simp only [jT] at h;cases h;rfl
  | a::L,j+1,P,L',h=>by
    simp only [jT] at h
    split at h
    · rename_i L2 h2;cases h;rw [List.set_cons_succ,eO h2]
    cases h
def Dr:List bU→Nat→Option (bU × List bU)
  | [],_=>none
  | a::L,j=>match j with
    | 0=>some (a,L)
    | j+1=>match Dr L j with
      | some z=>match z with
        | (P,L')=>some (P,a::L')
      | none=>none
theorem Ci: ∀ {L:List bU} {j:Nat} {P:bU} {L':List bU},Dr L j=some (P,L')→L.getD j bU.T=P∧L.eraseIdx j=L'
  | [],_,_,_,h=>by simp [Dr] at h
  | a::L,0,P,L',h=>by simp only [Dr] at h;cases h;exact ⟨rfl,rfl⟩
  | a::L,j+1,P,L',h=>by
    simp only [Dr] at h
    split at h
    · rename_i z h2
      obtain ⟨P2,L2⟩:=z
      cases h
      obtain ⟨h3,h4⟩:=Ci h2
      exact ⟨h3,by rw [List.eraseIdx_cons_succ,h4]⟩
    cases h
def lg:Nat→List Nat→List bU→Option (List bU)
  | 0,js,L=>match js with
    | []=>some L
    | _::_=>none
  | n+1,js,L=>match js with
    | []=>match L with
      | []=>none
      | _::L=>lg n [] L
    | j::js=>match Dr L j with
      | some z=>match z with
        | (P,L')=>match lg n js L' with
          | some L2=>some (P::L2)
          | none=>none
      | none=>none
theorem SH.new {P:bU} {a:PH} (hs:SH st L) (hp:P a) (hd: ∀i,i<st.length→a i=none) (hg: ∀i,st.length≤i→st'[i]? =a i) (hl: ∀i,i<st.length→st'[i]? =st[i]?):SH st' (P::L):=by
 refine ⟨a,fun i=>st[i]?,hp,hs,fun i=>?_,fun i=>?_⟩
 ·rcases Nat.lt_or_ge i st.length with h | h
  ·exact .inl (hd i h)
  exact .inr (List.getElem?_eq_none h)
 show st'[i]? =_
 rcases Nat.lt_or_ge i st.length with h | h
 ·rw [hl i h,PH.iA (hd i h)]
 rw [hg i h]
 cases e:a i with
 | none=>rw [PH.iA e];exact (List.getElem?_eq_none h).symm
 | some x=>exact (PH.lB e).symm
theorem SH.push (hs:SH st L) (o:cz):SH (st++[o]) (pt st.length o::L):=by
 refine hs.new (a:=fun i=>if i=st.length then some o else none) (fun _=>rfl) (fun i hi=>if_neg (by omega)) (fun i hi=>?_) fun i hi=>?_
 ·by_cases h:i=st.length
  ·subst h;simp
  rw [if_neg h,List.getElem?_eq_none (by simp;omega)]
 rw [List.getElem?_append_left hi]
theorem SH.Ut (hs:SH st L) {P:bU} (hp:P (fun _=>none)):SH st (P::L):=⟨fun _=>none,fun i=>st[i]?,hp,hs,fun i=>.inl rfl,fun i=>(PH.iA rfl).symm⟩
def Vj (n:Nat):Nat→Nat→List bU
 | 0,_=>[]
 | m+1,r=>pt (n+r) .bB::Vj n m (r+1)
theorem SH.bB (hs:SH st L) (n:Nat):SH (st++List.replicate n .bB) (Vj st.length n 0++L):=by
  have key: ∀(m r:Nat) (h:PH),(∀i,h i=if st.length+r≤i∧i<st.length+r+m then some .bB else none)→eX (Vj st.length m r) h:=by
    intro m
    induction m with
    | zero=>intro r h _;trivial
    | succ m ih=>
      intro r h hh
      refine ⟨fun i=>if i=st.length+r then some .bB else none,fun i=>if st.length+(r+1)≤i∧i<st.length+(r+1)+m then some .bB else none,fun _=>rfl,ih (r+1) _ fun _=>rfl,fun i=>?_,fun i=>?_⟩
      · by_cases e:i=st.length+r
        · exact .inr (if_neg (by omega))
        exact .inl (if_neg e)
      rw [hh i]
      by_cases e:i=st.length+r
      · rw [PH.lB (a:=fun i=>if i=st.length+r then some .bB else none) (x:=.bB) (if_pos e),if_pos (by omega)]
      rw [PH.iA (a:=fun i=>if i=st.length+r then some .bB else none) (if_neg e)]
      by_cases e2:st.length+(r+1)≤i∧i<st.length+(r+1)+m
      · rw [if_pos e2,if_pos (by omega)]
      rw [if_neg e2,if_neg (by omega)]
  refine eG.2 ⟨fun i=>if st.length+0≤i∧i<st.length+0+n then some .bB else none,fun i=>st[i]?,key n 0 _ fun _=>rfl,hs,fun i=>?_,fun i=>?_⟩
  · rcases Nat.lt_or_ge i st.length with h | h
    · exact .inl (if_neg (by omega))
    exact .inr (List.getElem?_eq_none h)
  show (st++List.replicate n .bB)[i]? =_
  rcases Nat.lt_or_ge i st.length with h | h
  · rw [PH.iA (a:=fun i=>if st.length+0≤i∧i<st.length+0+n then some .bB else none) (if_neg (by omega)),List.getElem?_append_left h]
  by_cases e:i<st.length+n
  · rw [PH.lB (a:=fun i=>if st.length+0≤i∧i<st.length+0+n then some .bB else none) (x:=.bB) (if_pos (by omega)),List.getElem?_append_right h,List.getElem?_replicate,if_pos (by omega)]
  rw [PH.iA (a:=fun i=>if st.length+0≤i∧i<st.length+0+n then some .bB else none) (if_neg (by omega)),List.getElem?_eq_none (by simp;omega),List.getElem?_eq_none h]
end

theorem gk {P:bU} {L:List bU} {h:PH} (hs:eX (P::L) h):eX L h:=by
 obtain ⟨a,b,_,h2,h3,h4⟩:=hs
 exact gD (fun i=>by rw [h4 i];exact (PH.or_comm h3 i).symm) (iu h3.symm h2)
theorem nL: ∀ {n:Nat} {js:List Nat} {L L':List bU} {h:PH},lg n js L=some L'→eX L h→eX L' h
  | 0,[],L,L',h,hp,hs=>by simp only [lg] at hp;cases hp;exact hs
  | 0,_::_,L,L',h,hp,hs=>by simp [lg] at hp
  | n+1,[],[],L',h,hp,hs=>by simp [lg] at hp
  | n+1,[],_::L,L',h,hp,hs=>by
    simp only [lg] at hp
    exact nL hp (gk hs)
  | n+1,j::js,L,L',h,hp,hs=>by
    simp only [lg] at hp
    split at hp
    · rename_i z hz
      obtain ⟨P,L1⟩:=z
      simp only at hp
      split at hp
      · rename_i L2 h2
        cases hp
        obtain ⟨rfl,rfl⟩:=Ci hz
        obtain ⟨a,b,k1,k2,k3,k4⟩:=Bb (j:=j) hs
        exact ⟨a,b,k1,nL h2 k2,k3,k4⟩
      cases hp
    cases hp
theorem SH.p {st:aA} {L L':List bU} (hs:SH st L) (n:Nat) (js:List Nat) (hp:lg n js L=some L'):SH st L':=nL hp hs
def br {α :Type} (es:Nat) (f: α →AV) (o:Sl α) (id:Nat):AV:=match o with
 | none=>.aP
 | some l=>.sl es (l.map f) (some id)
def dK {α :Type} (id:Nat) (o:Sl α):bU:=match o with
 | none=>emp
 | some l=>pt id (.tail l.length)
theorem cO {α :Type} {es:Nat} {f: α →AV} {o:Sl α} {id:Nat} {v:AV} (h:v=br es f o id):HK es f o v:=by
 subst h
 cases o with
 | none=>exact .inl ⟨rfl,rfl⟩
 | some l=>exact .inr ⟨l,some id,rfl,rfl⟩
theorem Ds {α :Type} {es:Nat} {f: α →AV} (hf: ∀x,DS (f x) (f x)) {o:Sl α} {id:Nat}:(br es f o id).strip=cg es f o:=yu (fun x=>(hf x).2) (cO rfl)
theorem JP {α :Type} {es:Nat} {f: α →AV} (hf: ∀x,DS (f x) (f x)) {o:Sl α} {id:Nat}:(br es f o id).data=true:=Cl (fun x=>(hf x).1) (cO rfl)
theorem Qd {α :Type} {es:Nat} {f: α →AV} (hf: ∀x,DS (f x) (f x)) {o:Sl α} {id:Nat}:DS (br es f o id) (cg es f o):=⟨JP hf,Ds hf⟩
theorem SH.fX {st:aA} {L:List bU} (hs:SH st L) (α :Type):SH st (dK 0 (none:Sl α)::L):=hs.Ut fun _=>rfl
theorem SH.app {st:aA} {L:List bU} {E:bA} {tm:Fr} {x y:AX} {j:Nat} {α :Type} {es bytes:Nat} {f: α →AV} {o:Sl α} {id:Nat} {ys:List α} (hs:SH st L) (hj:L[j]? =some (dK id o)) (hx:tm.x x=br es f o id)
    (hy:dy es st (tm.x y)=some (ys.map f)) (hb:((ls o).length+ys.length)*bytes≤140737488355328):
    ∃id' st',aE E tm st (.app es bytes x y)=some (br es f (bW o ys) id',st')∧SH st' (L.set j (dK id' (bW o ys))):=by
  simp only [Qq,hy,fO,hx]
  cases o with
  | none=>
    cases ys with
    | nil=>
      refine ⟨id,st,rfl,?_⟩
      have:L.set j (dK id (bW (none:Sl α) []))=L:=fD _ _ _ hj
      rw [this];exact hs
    | cons z zs=>
      simp only [Ca,List.length_nil,Nat.zero_add] at hb
      refine ⟨st.length,st++[.tail (z::zs).length],?_,?_⟩
      · simp only [br,QK,List.map_cons]
        rw [if_pos (by simpa using hb)]
        simp [bW,ls]
      refine hs.gS hj fun a b ha hd he=>⟨fun i=>if i=st.length then some (.tail (z::zs).length) else none,fun _=>by simp [bW,ls],fun i=>?_,fun i=>?_⟩
      · by_cases e:i=st.length
        · right
          have:=he i
          rw [List.getElem?_eq_none (by omega)] at this
          exact (PH.or_none.1 this.symm).2
        exact .inl (if_neg e)
      by_cases e:i=st.length
      · rw [PH.lB (a:=fun i=>if i=st.length then some (.tail (z::zs).length) else none) (x:=.tail (z::zs).length) (if_pos e)];subst e;simp
      rw [PH.iA (a:=fun i=>if i=st.length then some (.tail (z::zs).length) else none) (if_neg e)]
      have h1:=he i
      rw [PH.iA (ha i)] at h1
      rw [←h1]
      rcases Nat.lt_or_ge i st.length with h | h
      · rw [List.getElem?_append_left h]
      rw [List.getElem?_eq_none (by simp;omega),List.getElem?_eq_none h]
  | some l=>
    have hg:st[id]? =some (.tail l.length):=hs.g j hj
    refine ⟨id,st.set id (.tail (l.length+ys.length)),?_,?_⟩
    · simp only [br,QK,hg,List.length_map]
      rw [if_pos ⟨trivial,trivial,hb⟩]
      simp [bW,ls]
    have:=SH.set (o':=.tail (l.length+ys.length)) hs hj
    have e:dK id (bW (some l) ys)=pt id (.tail (l.length+ys.length)):=by simp [bW,ls,dK]
    rw [e];exact this
end Go.Proofs.YtcidnoghoifmmaaDoor.AW
end
section
namespace Go.Proofs.YtcidnoghoifmmaaDoor.AW
open Go

inductive KJ where
 | code (c:aC)
 | ops (l:List bZ)
 | blk (id:Nat)
 | lp (b:aC)

def wQ (X:Cx):List KJ→cn→Fr→aA→Prop
 | []=>X.fin
 | .code c::k=>jk (XS X.P X.E X.N X.mu c (wQ X k)) (wQ X k)
 | .ops l::k=>jk (fun tm st=>eY X.P X.E l (wQ X k .normal) tm st) (wQ X k)
 | .blk id::k=>jv id (wQ X k)
 | .lp b::k=>jk (XLoop X.P X.E X.N X.mu b (wQ X k)) (wQ X k)
def W (X:Cx) (k:List KJ) (tm:Fr) (st:aA):Prop:=wQ X k .normal tm st
def WD (X:Cx) (st0:aA) (mr:Nat) (l:List bZ) (r:Nat) (suf:List bZ) (k:List KJ) (tm:Fr) (st:aA):Prop:=
 eP X.P X.E st0 mr l r (EJ X.P X.E suf (wQ X k .normal)) tm st

def mm:List KJ→Nat→Option (List KJ)
 | [],_=>none
 | .blk id::k,i=>bif Nat.beq i id then some k else mm k i
 | _::k,i=>mm k i

def Ao (op:BinOp) (k:IntKind) (x:Int) (k':IntKind) (y:Int):Option AV:=
 match op with
 | .add=>if k=k' then some (.int k (k.wrap (x+y))) else none
 | .sub=>if k=k' then some (.int k (k.wrap (x-y))) else none
 | .mul=>if k=k' then some (.int k (k.wrap (x*y))) else none
 | .and=>if k=k' then some (.int k (kz k x y)) else none
 | .or=>if k=k' then some (.int k (Zr k x y)) else none
 | .xor=>if k=k' then some (.int k (Vy k x y)) else none
 | .andNot=>if k=k' then some (.int k (Bw k x y)) else none
 | .eql=>if k=k' then some (.bool (x==y)) else none
 | .neq=>if k=k' then some (.bool (x != y)) else none
 | .lss=>if k=k' then some (.bool (decide (x<y))) else none
 | .leq=>if k=k' then some (.bool (decide (x≤y))) else none
 | .gtr=>if k=k' then some (.bool (decide (x>y))) else none
 | .geq=>if k=k' then some (.bool (decide (x≥y))) else none
 | _=>none
theorem Di {op:BinOp} {k k':IntKind} {x y:Int} {v:AV} (h:Ao op k x k' y=some v):iX op k x k' y=some v:=by
 cases op<;>simp only [Ao] at h<;>first
  | (cases h;done)
  | simpa only [iX,kz,Zr,Vy,Bw] using h
def Bc (op:BinOp) (x y:List UInt8):Option AV:=
 match op with
 | .eql=>some (.bool (x==y))
 | .neq=>some (.bool (!(x==y)))
 | .lss=>some (.bool (Op.bytesLess x y))
 | .leq=>some (.bool (Op.bytesLess x y||x==y))
 | .gtr=>some (.bool (!(Op.bytesLess x y||x==y)))
 | .geq=>some (.bool (!(Op.bytesLess x y)))
 | _=>none
theorem EI {op:BinOp} {x y:aZ} {v:AV} (h:Bc op x y=some v):qV op x y=some v:=by
 cases op<;>simp only [Bc] at h<;>first
  | (cases h;done)
  | (cases h;rfl)
def yl (i:AI) (tm:Fr):Option AV:=
  match i with
  | .mv x=>some (tm.x x)
  | .vz op x y=>match tm.x x with
    | .int k a=>match tm.x y with
      | .int k' b=>Ao op k a k' b
      | _=>none
    | _=>none
  | .jt op x y=>match tm.x x with
    | .str a=>match tm.x y with
      | .str b=>Bc op a b
      | _=>none
    | _=>none
  | .xM neg x y=>match tm.x x with
    | .bool a=>match tm.x y with
      | .bool b=>some (.bool (bif neg then !(a==b) else (a==b)))
      | _=>none
    | _=>none
  | .un op x=>match op with
    | .neg=>match tm.x x with
      | .int k n=>some (.int k (k.wrap (0-n)))
      | _=>none
    | .xor=>match tm.x x with
      | .int k n=>some (.int k (RJ k n))
      | _=>none
    | .not=>match tm.x x with
      | .bool b=>some (.bool (!b))
      | _=>none
    | _=>none
  | .Ah k x=>match tm.x x with
    | .int _ n=>some (.int k (k.wrap n))
    | _=>none
  | .Me x=>match tm.x x with
    | .str s=>some (.str s)
    | _=>none
  | .nI off x=>match tm.x x with
    | .agg cs=>cs[off]?
    | _=>none
  | .extract x i=>match tm.x x with
    | .bt vs=>vs[i]?
    | _=>none
  | .qt x=>match tm.x x with
    | .str s=>some (.int .i64 s.length)
    | _=>none
  | .Dl n=>some (.int .i64 n)
  | .max l=>match l with
    | [x,y]=>match tm.x x with
      | .int k a=>match tm.x y with
        | .int _ b=>some (.int k (if b>a then b else a))
        | _=>none
      | _=>none
    | _=>none
  | .min l=>match l with
    | [x,y]=>match tm.x x with
      | .int k a=>match tm.x y with
        | .int _ b=>some (.int k (if b<a then b else a))
        | _=>none
      | _=>none
    | _=>none
  | .mZ f caps=>some (.fn f (caps.map tm.x))
  | _=>none

theorem ym {i:AI} {tm:Fr} {v:AV} (h:yl i tm=some v):i.still=true:=by
 cases i<;>simp only [yl] at h<;>first
  | rfl
  | cases h
theorem BO {E:bA} {st:aA} {i:AI} {tm:Fr} {v:AV} (h:yl i tm=some v):aE E tm st i=some (v,st):=by
 cases i<;>simp only [yl] at h<;>try (cases h;done)
 case mv x=>cases h;rfl
 case vz op x y=>
  split at h
  ·split at h
   ·rename_i k a hx _ k' b hy;exact hJ hx hy (Di h)
   cases h
  cases h
 case jt op x y=>
  split at h
  ·split at h
   ·rename_i a hx _ b hy;exact yF hx hy (EI h)
   cases h
  cases h
 case xM neg x y=>
  split at h
  ·split at h
   ·rename_i a hx _ b hy
    cases h
    cases neg
    ·exact Um hx hy
    exact Up hx hy
   cases h
  cases h
 case un op x=>
  split at h
  ·split at h
   ·rename_i hx;cases h;exact Uq hx
   cases h
  ·split at h
   ·rename_i hx;cases h;exact Qp hx
   cases h
  ·split at h
   ·rename_i hx;cases h;exact Ur hx
   cases h
  cases h
 case Ah k x=>
  split at h
  ·rename_i k' n hx;cases h;exact Uk hx
  cases h
 case Me x=>
  split at h
  ·rename_i s hx;cases h;exact Ul hx
  cases h
 case nI off x=>
  split at h
  ·rename_i cs hx;simp only [Df,hx,AT,h,fO]
  cases h
 case extract x n=>
  split at h
  ·rename_i vs hx;exact Dc hx h
  cases h
 case qt x=>
  split at h
  ·rename_i s hx;cases h;exact Qm hx
  cases h
 case Dl n=>cases h;rfl
 case max l=>
  split at h
  ·split at h
   ·split at h
    ·rename_i x y _ k a hx _ k' b hy;cases h;simp [aE,hx,hy,BD]
    cases h
   cases h
  cases h
 case min l=>
  split at h
  ·split at h
   ·split at h
    ·rename_i x y _ k a hx _ k' b hy;cases h;simp [aE,hx,hy,BE]
    cases h
   cases h
  cases h
 case mZ f caps=>cases h;rfl
def aR (tm:Fr):List (Nat × AV)→Fr
 | []=>tm
 | (d,v)::l=>gS (aR tm l) d v
def look:List (Nat × AV)→Nat→Option AV
 | [],_=>none
 | (d,v)::l,i=>bif Nat.beq d i then some v else look l i
theorem look_eq {tm:Fr}: ∀ {l:List (Nat × AV)} {i:Nat} {v:AV},look l i=some v→aR tm l i=v
  | [],i,v,h=>by simp [look] at h
  | (d,w)::l,i,v,h=>by
    simp only [look] at h
    simp only [aR,gS]
    cases e:Nat.beq d i with
    | true=>rw [e] at h;simpa using h
    | false=>rw [e] at h;exact look_eq h
def dH (tm:Fr):List (Nat × AV)→Prop
 | []=>True
 | (d,v)::l=>tm d=v∧dH tm l
theorem dH.eq {tm:Fr}: ∀ {l:List (Nat × AV)},dH tm l→aR tm l=tm
  | [],_=>rfl
  | (d,v)::l,⟨h1,h2⟩=>by
    simp only [aR,dH.eq h2]
    funext i
    unfold gS
    cases e:Nat.beq d i with
    | false=>rfl
    | true=>rw [←Nat.eq_of_beq_eq_true e];exact h1.symm
def fi:List AV→Nat→List (Nat × AV)
 | [],_=>[]
 | a::l,n=>(n,a)::fi l (n+1)
theorem Mq {tm:Fr}: ∀(ds:List AV) (n i:Nat),aR tm (fi ds n) i=if n≤i then (match ds[i-n]? with | some v=>v | none=>tm i) else tm i
  | [],n,i=>by simp [fi,aR]
  | a::l,n,i=>by
    simp only [fi,aR,gS]
    cases e:Nat.beq n i with
    | true=>
      have:=Nat.eq_of_beq_eq_true e
      subst this
      simp
    | false=>
      have hne:n≠i:=fun e'=>by rw [e',Nat.beq_refl] at e;cases e
      rw [cond_false,Mq l (n+1) i]
      by_cases h:n+1≤i
      · rw [if_pos h,if_pos (by omega)]
        have:i-n=(i-(n+1))+1:=by omega
        rw [this,List.getElem?_cons_succ]
      rw [if_neg h,if_neg (by omega)]
theorem wK (ds:List AV):lT ds=aR (fun _=>.bt []) (fi ds 0):=by
 funext i
 rw [Mq]
 simp only [Nat.zero_le,if_true,Nat.sub_zero,lT]
 cases ds[i]? <;>rfl
def uy (fr:List (Nat × AV)):AX→Option AV
 | .t n=>look fr n
 | .c v=>some v
theorem lV {tm:Fr} {fr:List (Nat × AV)} {x:AX} {v:AV} (h:uy fr x=some v):(aR tm fr).x x=v:=by
 cases x with
 | t n=>exact look_eq h
 | c w=>simp only [uy] at h;cases h;rfl
def tn (tm:Fr) (i:AI) (fr:List (Nat × AV)):Option AV:=
  match i with
  | .mv x=>uy fr x
  | .pick c a b=>match uy fr c with
    | some v=>match v with
      | .bool t=>match t with
        | true=>uy fr a
        | false=>uy fr b
      | _=>none
    | none=>none
  | i=>yl i (aR tm fr)
theorem qU {tm:Fr} {i:AI} {fr:List (Nat × AV)} {v:AV} (h:tn tm i fr=some v):i.still=true:=by
 cases i<;>first
  | rfl
  | exact ym (tm:=aR tm fr) h
theorem kW {E:bA} {st:aA} {tm:Fr} {i:AI} {fr:List (Nat × AV)} {v:AV} (h:tn tm i fr=some v):aE E (aR tm fr) st i=some (v,st):=by
 cases i<;>try exact BO (tm:=aR tm fr) h
 case mv x=>exact Un (lV h)
 case pick c a b=>
  simp only [tn] at h
  split at h
  ·rename_i w hw
   split at h
   ·rename_i t
    cases t with
    | true=>exact IL (lV hw) rfl (lV h)
    | false=>exact IK (lV hw) rfl (lV h)
   cases h
  cases h
def oJ (v:Option AV):Option (Option Bool):=
  match v with
  | some w=>match w with
    | .bool t=>match t with
      | true=>some (some true)
      | false=>some (some false)
    | .bt vs=>match vs with
      | []=>some none
      | _::_=>none
    | _=>none
  | none=>none
def nB (w:Bool) (tm:Fr) (o:bZ) (fr:List (Nat × AV)):Option (List (Nat × AV)):=
  match o.dst with
  | none=>none
  | some d=>match o.guard with
    | some (g,b)=>match oJ (look fr g) with
      | some z=>match z with
        | none=>bif w||Nat.beq (fK ⟨some d,none,o.ins⟩) 0 then some ((d,.bt [])::fr) else none
        | some t=>match t==b with
          | true=>match o.ins with
            | .plain i=>match tn tm i fr with
              | some v=>some ((d,v)::fr)
              | none=>none
            | _=>none
          | false=>bif w||Nat.beq (fK ⟨some d,none,o.ins⟩) 0 then some ((d,.bt [])::fr) else none
      | none=>none
    | none=>match o.ins with
      | .plain i=>match tn tm i fr with
        | some v=>some ((d,v)::fr)
        | none=>none
      | _=>none
def runK (tm:Fr):Nat→Nat→List KJ→List (Nat × AV)→Option (List KJ × List (Nat × AV))
  | 0,_,_,_=>none
  | n+1,c,k,fr=>match k with
    | []=>some ([],fr)
    | .lp b::k=>some (.lp b::k,fr)
    | .blk _::k=>runK tm n c k fr
    | .code x::k=>match x with
      | .seq a b=>runK tm n c (.code a:: .code b::k) fr
      | .skip=>runK tm n c k fr
      | .ops l=>runK tm n c (.ops l::k) fr
      | .block i b=>runK tm n c (.code b:: .blk i::k) fr
      | .loop b=>some (.lp b::k,fr)
      | .exit i=>match mm k i with
        | some k'=>runK tm n c k' fr
        | none=>none
      | .cond z a b=>some (.code (.cond z a b)::k,fr)
      | .ret=>some (.code .ret::k,fr)
      | .draw s m b q u=>some (.code (.draw s m b q u)::k,fr)
      | .range z p a b=>some (.code (.range z p a b)::k,fr)
    | .ops l::k=>match l with
      | []=>runK tm n c k fr
      | o::l=>match c with
        | 0=>some (.ops (o::l)::k,fr)
        | c+1=>match nB true tm o fr with
          | some fr'=>runK tm n c (.ops l::k) fr'
          | none=>none

section
variable {X:Cx} {k k':List KJ} {tm tm':Fr} {st:aA}

theorem W.code {c:aC}:W X (.code c::k) tm st↔XS X.P X.E X.N X.mu c (wQ X k) tm st:=by simp only [W,wQ,gQ]
theorem W.ops {l:List bZ}:W X (.ops l::k) tm st↔eY X.P X.E l (wQ X k .normal) tm st:=by simp only [W,wQ,gQ]
theorem W.lp {b:aC}:W X (.lp b::k) tm st↔XLoop X.P X.E X.N X.mu b (wQ X k) tm st:=by simp only [W,wQ,gQ]
theorem W.blk {i:Nat}:W X (.blk i::k) tm st↔W X k tm st:=by simp only [W,wQ,me]
theorem W.exit {i:Nat}: ∀ {k:List KJ},mm k i=some k'→W X k' tm st→wQ X k (.exit i) tm st
  | [],h,_=>by simp [mm] at h
  | .code c::k,h,hn=>by
    simp only [mm] at h
    simp only [wQ,iy];exact W.exit h hn
  | .ops c::k,h,hn=>by
    simp only [mm] at h
    simp only [wQ,iy];exact W.exit h hn
  | .lp c::k,h,hn=>by
    simp only [mm] at h
    simp only [wQ,iy];exact W.exit h hn
  | .blk id::k,h,hn=>by
    simp only [mm] at h
    simp only [wQ,jv]
    by_cases e:i=id
    · subst e
      have:Nat.beq i i=true:=Nat.beq_refl i
      rw [this] at h
      cases h
      rw [if_pos rfl];exact hn
    have:Nat.beq i id=false:=by cases e':Nat.beq i id with
      | false=>rfl
      | true=>exact absurd (Nat.eq_of_beq_eq_true e') e
    rw [this] at h
    rw [if_neg e]
    exact W.exit h hn
theorem qB (tm:Fr) (st:aA): ∀k,wQ X k .ret tm st=X.fin .ret tm st
 | []=>rfl
 | .code c::k=>by simp only [wQ,jl,qB tm st k]
 | .ops c::k=>by simp only [wQ,jl,qB tm st k]
 | .blk id::k=>by simp only [wQ,sF,qB tm st k]
 | .lp b::k=>by simp only [wQ,jl,qB tm st k]
theorem W.po {i:AI} {v:AV} {st':aA} {l:List bZ} {d:Nat} (h:aE X.E tm st i=some (v,st')) (hk:W X (.ops l::k) (gS tm d v) st'):W X (.ops (⟨.some d,.none,.plain i⟩::l)::k) tm st:=by
 rw [W.ops] at hk ⊢
 simp only [uC,h,Bq,dZ];exact hk
theorem W.o0 {i:AI} {v:AV} {st':aA} {l:List bZ} (h:aE X.E tm st i=some (v,st')) (hk:W X (.ops l::k) tm st'):W X (.ops (⟨.none,.none,.plain i⟩::l)::k) tm st:=by
 rw [W.ops] at hk ⊢
 simp only [uC,h,Bq,yq];exact hk
theorem W.Vi {g:Nat} {b:Bool} {i:AK} {l:List bZ} {d:Nat} {vs:List AV} (hg:tm g= .bt vs) (hk:W X (.ops l::k) (gS tm d (.bt [])) st):W X (.ops (⟨.some d,.some (g,b),i⟩::l)::k) tm st:=by
 rw [W.ops] at hk ⊢
 simp only [kX,hg,QG,dZ];exact hk
theorem W.YA {g:Nat} {b t:Bool} {i:AK} {l:List bZ} {d:Nat} (hg:tm g= .bool t) (ht:t= !b) (hk:W X (.ops l::k) (gS tm d (.bt [])) st):W X (.ops (⟨.some d,.some (g,b),i⟩::l)::k) tm st:=by
 subst ht
 rw [W.ops] at hk ⊢
 cases b
 ·simp only [kX,hg,Bool.not_false,UD,dZ];exact hk
 simp only [kX,hg,Bool.not_true,UC,dZ];exact hk
theorem W.on {d:Option Nat} {g:Nat} {b t:Bool} {i:AK} {l:List bZ} (hg:tm g= .bool t) (ht:t=b) (hk:W X (.ops (⟨d,.none,i⟩::l)::k) tm st):W X (.ops (⟨d,.some (g,b),i⟩::l)::k) tm st:=by
 subst ht
 rw [W.ops] at hk ⊢
 simp only [kX,hg,QF];exact hk
variable {fr:List (Nat × AV)}
theorem W.o {i:AI} {v:AV} {st':aA} {l:List bZ} {d:Nat} (h:aE X.E (aR tm fr) st i=some (v,st')) (hk:W X (.ops l::k) (aR tm ((d,v)::fr)) st'):W X (.ops (⟨.some d,.none,.plain i⟩::l)::k) (aR tm fr) st:=W.po h hk
theorem W.off {g:Nat} {b t:Bool} {i:AK} {l:List bZ} {d:Nat} (hg:aR tm fr g= .bool t) (ht:t= !b) (hk:W X (.ops l::k) (aR tm ((d,.bt [])::fr)) st):W X (.ops (⟨.some d,.some (g,b),i⟩::l)::k) (aR tm fr) st:=W.YA hg ht hk
theorem yR {v:Option AV} {t:Bool} (h:oJ v=some (some t)):v=some (.bool t):=by
 unfold oJ at h
 split at h
 ·split at h
  ·rename_i t'
   cases t'<;>simp at h<;>subst h<;>rfl
  ·split at h<;>simp at h
  cases h
 cases h
theorem Ap {v:Option AV} (h:oJ v=some none):v=some (.bt []):=by
 unfold oJ at h
 split at h
 ·split at h
  ·rename_i t'
   cases t'<;>simp at h
  ·split at h
   ·rfl
   cases h
  cases h
 cases h
theorem qS {w:Bool} {tm:Fr} {o:bZ} {fr fr':List (Nat × AV)} (h:nB w tm o fr=some fr'): ∃d v,fr'=(d,v)::fr∧
    ((∃g b i,o=⟨some d,some (g,b),i⟩∧v= .bt []∧(aR tm fr g= .bt []∨aR tm fr g= .bool (!b))∧(w=true∨fK ⟨some d,none,i⟩=0))∨(∃g b i,o=⟨some d,some (g,b),.plain i⟩∧aR tm fr g= .bool b∧tn tm i fr=some v)∨ ∃i,o=⟨some d,none,.plain i⟩∧tn tm i fr=some v):=by
  obtain ⟨d,g,i⟩:=o
  cases d with
  | none=>simp [nB] at h
  | some d=>
    cases g with
    | some gb=>
      obtain ⟨g,b⟩:=gb
      simp only [nB] at h
      split at h
      · rename_i z hw
        cases z with
        | none=>
          simp only [cond_eq_ite] at h
          split at h
          · rename_i hb
            cases h
            exact ⟨d,_,rfl,.inl ⟨g,b,i,rfl,rfl,.inl (look_eq (Ap hw)),by simpa using hb⟩⟩
          cases h
        | some t=>
          have hl:=look_eq (tm:=tm) (yR hw)
          simp only at h
          split at h
          · rename_i e
            have e:t=b:=by simpa using e
            subst e
            cases i with
            | call f xs=>cases h
            | fH f xs=>cases h
            | plain i=>
              simp only at h
              split at h
              · rename_i v hv
                cases h
                exact ⟨d,v,rfl,.inr (.inl ⟨g,t,i,rfl,hl,hv⟩)⟩
              cases h
          rename_i e
          have e:t= !b:=by cases t<;>cases b<;>simp_all
          simp only [cond_eq_ite] at h
          split at h
          · rename_i hb
            cases h
            exact ⟨d,_,rfl,.inl ⟨g,b,i,rfl,rfl,.inr (by rw [hl,e]),by simpa using hb⟩⟩
          cases h
      cases h
    | none=>
      cases i with
      | call f xs=>simp [nB] at h
      | fH f xs=>simp [nB] at h
      | plain i=>
        simp only [nB] at h
        split at h
        · rename_i v hv
          cases h
          exact ⟨d,v,rfl,.inr (.inr ⟨i,rfl,hv⟩)⟩
        cases h
theorem qT {o:bZ} {l:List bZ} {fr fr':List (Nat × AV)} (h:nB true tm o fr=some fr') (hk:W X (.ops l::k) (aR tm fr') st):W X (.ops (o::l)::k) (aR tm fr) st:=by
 obtain ⟨d,v,rfl,hc⟩:=qS h
 rcases hc with ⟨g,b,i,rfl,rfl,hg | hg,_⟩ | ⟨g,b,i,rfl,hg,hv⟩ | ⟨i,rfl,hv⟩
 ·exact W.Vi hg hk
 ·exact W.off hg rfl hk
 ·exact W.on hg rfl (W.o (kW hv) hk)
 exact W.o (kW hv) hk
theorem fB: ∀(n c:Nat) (k:List KJ) (fr:List (Nat × AV)) (k':List KJ) (fr':List (Nat × AV)),runK tm n c k fr=some (k',fr')→W X k' (aR tm fr') st→W X k (aR tm fr) st
  | 0,c,k,fr,k',fr',h,_=>by simp [runK] at h
  | n+1,c,[],fr,k',fr',h,hk=>by simp only [runK] at h;cases h;exact hk
  | n+1,c,.lp b::k,fr,k',fr',h,hk=>by simp only [runK] at h;cases h;exact hk
  | n+1,c,.blk i::k,fr,k',fr',h,hk=>by
    simp only [runK] at h
    exact W.blk.2 (fB n c k fr k' fr' h hk)
  | n+1,c,.code x::k,fr,k',fr',h,hk=>by
    cases x<;>simp only [runK] at h
    case seq a b=>
      have:=fB n c _ fr k' fr' h hk
      rw [W.code] at this ⊢
      exact XS.seq this
    case skip=>
      rw [W.code]
      exact XS.of (by rw [uA];exact fB n c _ fr k' fr' h hk)
    case ops l=>
      have:=fB n c _ fr k' fr' h hk
      rw [W.ops] at this
      rw [W.code]
      exact XS.of (by rw [vM];exact this)
    case block i b=>
      have:=fB n c _ fr k' fr' h hk
      rw [W.code] at this ⊢
      exact XS.block this
    case loop b=>
      cases h
      rw [W.lp] at hk
      rw [W.code]
      exact XS.of (by rw [Bf];exact hk)
    case exit i=>
      split at h
      · rename_i k2 h2
        rw [W.code]
        exact XS.of (by rw [tw];exact W.exit h2 (fB n c k2 fr k' fr' h hk))
      cases h
    case cond z a b=>cases h;exact hk
    case ret=>cases h;exact hk
    case draw s m b q u=>cases h;exact hk
    case range z p a b=>cases h;exact hk
  | n+1,c,.ops []::k,fr,k',fr',h,hk=>by
    simp only [runK] at h
    rw [W.ops,uB]
    exact fB n c k fr k' fr' h hk
  | n+1,0,.ops (o::l)::k,fr,k',fr',h,hk=>by simp only [runK] at h;cases h;exact hk
  | n+1,c+1,.ops (o::l)::k,fr,k',fr',h,hk=>by
    simp only [runK] at h
    split at h
    · rename_i fr2 h2
      exact qT h2 (fB n c _ _ k' fr' h hk)
    cases h
theorem rn (c:Nat) {fr':List (Nat × AV)} (h:runK tm 400 c k fr=some (k',fr')) (hk:W X k' (aR tm fr') st):W X k (aR tm fr) st:=fB 400 c k fr k' fr' h hk
def xy:Nat→List KJ→Option (List KJ)
  | 0,k=>some k
  | m+1,k=>match k with
    | .blk _::k=>xy m k
    | .ops l::k=>match l with
      | []=>xy m k
      | _::_=>none
    | .code x::k=>match x with
      | .seq a b=>xy m (.code a:: .code b::k)
      | .skip=>xy m k
      | .ops l=>xy m (.ops l::k)
      | .block i b=>xy m (.code b:: .blk i::k)
      | .exit i=>match mm k i with
        | some k'=>xy m k'
        | none=>none
      | _=>none
    | _=>none
theorem fR: ∀(m:Nat) (k:List KJ) (k':List KJ),xy m k=some k'→W X k' tm st→W X k tm st
  | 0,k,k',h,hk=>by simp only [xy] at h;cases h;exact hk
  | m+1,[],k',h,hk=>by simp [xy] at h
  | m+1,.lp b::k,k',h,hk=>by simp [xy] at h
  | m+1,.blk i::k,k',h,hk=>by
    simp only [xy] at h
    exact W.blk.2 (fR m k k' h hk)
  | m+1,.ops []::k,k',h,hk=>by
    simp only [xy] at h
    rw [W.ops,uB]
    exact fR m k k' h hk
  | m+1,.ops (_::_)::k,k',h,hk=>by simp [xy] at h
  | m+1,.code x::k,k',h,hk=>by
    cases x<;>simp only [xy] at h
    case seq a b=>
      have:=fR m _ k' h hk
      rw [W.code] at this ⊢
      exact XS.seq this
    case skip=>
      rw [W.code]
      exact XS.of (by rw [uA];exact fR m _ k' h hk)
    case ops l=>
      have:=fR m _ k' h hk
      rw [W.ops] at this
      rw [W.code]
      exact XS.of (by rw [vM];exact this)
    case block i b=>
      have:=fR m _ k' h hk
      rw [W.code] at this ⊢
      exact XS.block this
    case exit i=>
      split at h
      · rename_i k2 h2
        rw [W.code]
        exact XS.of (by rw [tw];exact W.exit h2 (fR m k2 k' h hk))
      cases h
    all_goals cases h
def yz (tm:Fr) (m:Nat):Nat→Nat→List KJ→List (Nat × AV)→Option (List KJ × List (Nat × AV))
  | 0,_,_,_=>none
  | n+1,c,k,fr=>match c with
    | 0=>match xy m k with
      | some k'=>some (k',fr)
      | none=>none
    | c+1=>match k with
      | .ops l::k=>match l with
        | []=>yz tm m n (c+1) k fr
        | o::l=>match nB true tm o fr with
          | some fr'=>yz tm m n c (.ops l::k) fr'
          | none=>none
      | k=>match xy 1 k with
        | some k'=>yz tm m n (c+1) k' fr
        | none=>none
theorem kO {m:Nat}: ∀(n c:Nat) (k:List KJ) (fr:List (Nat × AV)) (k':List KJ) (fr':List (Nat × AV)),yz tm m n c k fr=some (k',fr')→W X k' (aR tm fr') st→W X k (aR tm fr) st
  | 0,c,k,fr,k',fr',h,_=>by simp [yz] at h
  | n+1,0,k,fr,k',fr',h,hk=>by
    simp only [yz] at h
    split at h
    · rename_i k2 h2;cases h;exact fR m k _ h2 hk
    cases h
  | n+1,c+1,k,fr,k',fr',h,hk=>by
    simp only [yz] at h
    split at h
    · rename_i k0 l k2
      cases l with
      | nil=>
        rw [W.ops,uB]
        exact kO n (c+1) _ fr k' fr' h hk
      | cons o l=>
        simp only at h
        split at h
        · rename_i fr2 h2
          exact qT h2 (kO n c _ _ k' fr' h hk)
        cases h
    split at h
    · rename_i k2 h2
      exact fR 1 _ k2 h2 (kO n (c+1) k2 fr k' fr' h hk)
    cases h
theorem rj (c m:Nat) {fr':List (Nat × AV)} (h:yz tm m 400 c k fr=some (k',fr')) (hk:W X k' (aR tm fr') st):W X k (aR tm fr) st:=kO 400 c k fr k' fr' h hk
theorem cd {z:AX} {x y:aC} {t:Bool} (hz:tm.x z= .bool t) (h1:t=true→W X (.code x::k) tm st) (h2:t=false→W X (.code y::k) tm st):W X (.code (.cond z x y)::k) tm st:=by
 simp only [W.code] at h1 h2 ⊢
 exact XS.cond hz h1 h2
theorem ct {z:AX} {x y:aC} {t:Bool} (hz:tm.x z= .bool t) (ht:t=true) (h1:W X (.code x::k) tm st):W X (.code (.cond z x y)::k) tm st:=cd hz (fun _=>h1) fun e=>by rw [ht] at e;cases e
theorem cf {z:AX} {x y:aC} {t:Bool} (hz:tm.x z= .bool t) (ht:t=false) (h1:W X (.code y::k) tm st):W X (.code (.cond z x y)::k) tm st:=cd hz (fun e=>by rw [ht] at e;cases e) fun _=>h1
theorem lp {b:aC} (h:W X (.code b:: .lp b::k) tm st):W X (.lp b::k) tm st:=by
 rw [W.code] at h
 rw [W.lp]
 exact XLoop.once h
theorem Vm (h:X.fin .ret tm st):W X (.code .ret::k) tm st:=by
 rw [W.code]
 exact XS.of (by rw [EM,qB];exact h)
theorem rt {P:Program} {E:bA} {N:Nat} {mu:Nat→Bool} {res:List RA} {K:AV→aA→Prop} {vs:List AV} (h:fh E tm st res=some vs) (hk:K (pack vs) st):W ⟨P,E,N,mu,res,K,lR E res K⟩ (.code .ret::k) tm st:=
 Vm (by show lR E res K .ret tm st;rw [IP,h,Br];exact hk)
theorem re {P:Program} {E:bA} {N:Nat} {mu:Nat→Bool} {res:List RA} {K:AV→aA→Prop} {vs:List AV} (h:fh E tm st res=some vs) (hk:K (pack vs) st):W ⟨P,E,N,mu,res,K,lR E res K⟩ [] tm st:=by
 simp only [W,wQ,yI,h,Br];exact hk
theorem en {l:List (Nat × AV)} (hf:dH tm l) (h:W X k (aR tm l) st):W X k tm st:=by rw [dH.eq hf] at h;exact h
theorem wkc (hw:xW tm tm') {c:aC} (h:W X (.code c::k) tm' st):W X (.code c::k) tm st:=by
 rw [W.code] at h ⊢;exact XS.weak hw h
theorem Ru (hw:xW tm tm') {c:aC} (h:W X (.lp c::k) tm' st):W X (.lp c::k) tm st:=by
 rw [W.lp] at h ⊢;exact XLoop.weak hw h
end
end Go.Proofs.YtcidnoghoifmmaaDoor.AW
end
section
namespace Go.Proofs.YtcidnoghoifmmaaDoor.AW
open Go

class iQ (v:AV):Prop where h:DS v v
class gT (cs:List AV):Prop where h:uE cs cs
class qz {α :Type} (f: α →AV):Prop where h: ∀x,DS (f x) (f x)
instance (k:IntKind) (n:Int):iQ (.int k n):=⟨Ug⟩
instance (b:Bool):iQ (.bool b):=⟨Uf⟩
instance (s:aZ):iQ (.str s):=⟨Uh⟩
instance:iQ .aP:=⟨⟨rfl,rfl⟩⟩
instance:iQ .iF:=⟨⟨rfl,rfl⟩⟩
instance (cs:List AV) [h:gT cs]:iQ (.agg cs):=⟨gK h.h⟩
instance (cs:List AV) [h:gT cs]:iQ (.bt cs):=⟨Qe h.h⟩
instance:gT []:=⟨kC⟩
instance (v:AV) (l:List AV) [h:iQ v] [hl:gT l]:gT (v::l):=⟨lQ h.h hl.h⟩
instance (a b:List AV) [h:gT a] [hl:gT b]:gT (a++b):=⟨jH h.h hl.h⟩
instance (k:IntKind) (n:Int):gT (cI k n):=⟨Hr k n⟩
instance (b:Bool):gT (cB b):=⟨UX b⟩
instance (s:aZ):gT (cS s):=⟨UY s⟩
instance (k:IntKind):qz (AV.int k):=⟨fun _=>Ug⟩
instance:qz AV.bool:=⟨fun _=>Uf⟩
instance:qz AV.str:=⟨fun _=>Uh⟩
instance {α :Type} (es:Nat) (f: α →AV) [h:qz f]:qz (cg es f):=⟨fun o=>IF h.h⟩
instance {α :Type} (es:Nat) (f: α →AV) (o:Sl α) [h:qz f]:iQ (cg es f o):=⟨IF h.h⟩
theorem xL {α :Type} {es:Nat} {f: α →AV} {o:Sl α} {id:Nat} [h:qz f]:DS (br es f o id) (cg es f o):=Qd h.h
section
variable {E:bA} {tm:Fr} {st:aA} {x y i a:AX}
theorem l1 {id off:Nat} {cs:List AV} {v:AV} (hp:tm.x a= .ptr id off) (ho:st[id]? =some (.cells cs)) (hc:cs[off]? =some v):aE E tm st (.kg a)=some (v,st):=by
 simp only [oB,hp,cq,ho]
 have:=(List.getElem?_eq_some_iff.1 hc).1
 rw [if_pos (by omega)]
 simp only [fO]
 rw [List.headD_eq_head?_getD,List.head?_take,if_neg (by decide),List.head?_drop,hc];rfl
theorem lN {id off n:Nat} {cs s:List AV} (hp:tm.x a= .ptr id off) (ho:st[id]? =some (.cells cs)) (hb:Nat.ble (off+n) cs.length=true) (hc:(cs.drop off).take n=s):aE E tm st (.mo n a)=some (.agg s,st):=by
 simp only [oC,hp,cq,ho]
 rw [if_pos (Nat.le_of_ble_eq_true hb),hc];rfl
theorem dW {cs:List AV} {v:AV} (hp:tm.x a= .aQ cs) (hc:cs[0]? =some v):aE E tm st (.kg a)=some (v,st):=by
 cases cs with
 | nil=>simp at hc
 | cons z q=>simp at hc;subst hc;simp [oB,hp,cq,gW]
theorem uD {n:Nat} {cs s:List AV} (hp:tm.x a= .aQ cs) (hb:Nat.ble n cs.length=true) (hc:cs.take n=s):aE E tm st (.mo n a)=some (.agg s,st):=by
 simp only [oC,hp,cq]
 rw [if_pos (Nat.le_of_ble_eq_true hb),hc];rfl
theorem bd {z cs:List AV} {ps:List (Nat × Nat × AX)} {l:List (Nat × List AV)} (h:bY z.length ps tm=some l) (hf:av z l=cs):aE E tm st (.build z ps)=some (.agg cs,st):=dY h hf
theorem pk {total off size:Nat} {x:AX} {cs:List AV} {rest:List (Nat × Nat × AX)} {l:List (Nat × List AV)} (hc:(tm.x x).cells=cs) (hl:Nat.beq cs.length size=true) (ho:Nat.ble (off+size) total=true) (h:bY total rest tm=some l):bY total ((off,size,x)::rest) tm=some ((off,cs)::l):=
 bO rfl hc (Nat.eq_of_beq_eq_true hl) (Nat.le_of_ble_eq_true ho) h
def An (total:Nat):List (Nat × Nat × AX)→Fr→Bool
 | [],_=>true
 | (off,size,x)::rest,tm=>Nat.beq (tm.x x).cells.length size&&(Nat.ble (off+size) total&&An total rest tm)
def mI:List (Nat × Nat × AX)→Fr→List (Nat × List AV)
 | [],_=>[]
 | (off,_,x)::rest,tm=>(off,(tm.x x).cells)::mI rest tm
theorem oF {total:Nat}: ∀ {ps:List (Nat × Nat × AX)},An total ps tm=true→bY total ps tm=some (mI ps tm)
  | [],_=>rfl
  | (off,size,x)::rest,h=>by
    simp only [An,Bool.and_eq_true] at h
    simp only [bY,mI,oF h.2.2]
    rw [if_pos ⟨Nat.eq_of_beq_eq_true h.1,Nat.le_of_ble_eq_true h.2.1⟩];rfl
theorem bR {z cs:List AV} {ps:List (Nat × Nat × AX)} (h:An z.length ps tm=true) (hf:av z (mI ps tm)=cs):aE E tm st (.build z ps)=some (.agg cs,st):=dY (oF h) hf
end

section
variable {X:Cx} {k:List KJ} {tm:Fr} {fr:List (Nat × AV)} {st:aA} {l suf:List bZ} {d:Nat} {st0:aA} {mr r:Nat} {x y i a:AX} {L L0 L' L0':List bU}

theorem al {z cs:List AV} (hs:SH st L) (h:z=cs) (hk: ∀st id,SH st (pt id (.cells cs)::L)→W X (.ops l::k) (aR tm ((d,(.ptr id 0))::fr)) st):W X (.ops (⟨.some d,.none,.plain (.alloc z)⟩::l)::k) (aR tm fr) st:=
 W.po (LD z cs h) (hk _ _ (hs.push _))
theorem bx {n:Nat} {cs:List AV} (hs:SH st L) (hx:((aR tm fr).x x).cells=cs) (hn:Nat.beq cs.length n=true) (hk: ∀st id,SH st (pt id (.cells cs)::L)→W X (.ops l::k) (aR tm ((d,(.ptr id 0))::fr)) st):W X (.ops (⟨.some d,.none,.plain (.box n x)⟩::l)::k) (aR tm fr) st:=
 W.po (Uj hx (Nat.eq_of_beq_eq_true hn)) (hk _ _ (hs.push _))
def Jl (cs:List AV) (off n:Nat) (v:AV):Bool:=Nat.beq v.cells.length n&&(Nat.ble (off+n) cs.length&&v.cells.all AV.one)
theorem sr {id off n:Nat} {cs cs':List AV} (hs:SH st L) (j:Nat) (hp:(aR tm fr).x a= .ptr id off) (hj:L[j]? =some (pt id (.cells cs))) (hk1:Jl cs off n ((aR tm fr).x x)=true) (hc:cs.take off++((aR tm fr).x x).cells++cs.drop (off+n)=cs')
  (hL:jT L j (pt id (.cells cs'))=some L') (hk: ∀st,SH st L'→W X (.ops l::k) (aR tm fr) st):W X (.ops (⟨.none,.none,.plain (.store n a x)⟩::l)::k) (aR tm fr) st:=by
 simp only [Jl,Bool.and_eq_true] at hk1
 subst hc
 refine W.o0 (v:=.bt []) ?_ (hk _ (eO hL▸hs.set hj _))
 have ho:=hs.g j hj
 simp only [yM,hp,xd,ho,HZ]
 rw [if_pos ⟨Nat.eq_of_beq_eq_true hk1.1,Nat.le_of_ble_eq_true hk1.2.1,hk1.2.2⟩]
theorem sl {id off n:Nat} {cs s s' cs':List AV} (hs:SH st L) (j:Nat) (hp:(aR tm fr).x a= .ptr id off) (hj:L[j]? =some (pt id (.cells cs))) (hl:LR cs off s s' cs') (hn:s.length=n) (hx:((aR tm fr).x x).cells=s') (hn':s'.length=n) (h1:s'.all AV.one=true)
  (hL:jT L j (pt id (.cells cs'))=some L') (hk: ∀st,SH st L'→W X (.ops l::k) (aR tm fr) st):W X (.ops (⟨.none,.none,.plain (.store n a x)⟩::l)::k) (aR tm fr) st:=
 W.o0 (CM hp (hs.g j hj) hl hn hx hn' h1) (hk _ (eO hL▸hs.set hj _))
theorem ap {α :Type} {es bytes:Nat} {f: α →AV} {o:Sl α} {id:Nat} {ys:List α} (hs:SH st L) (j:Nat) (hj:L[j]? =some (dK id o)) (hx:(aR tm fr).x x=br es f o id) (hy:dy es st ((aR tm fr).x y)=some (ys.map f)) (hb:((ls o).length+ys.length)*bytes≤140737488355328)
  {L':Nat→List bU} (hL: ∀id,jT L j (dK id (bW o ys))=some (L' id)) (hk: ∀st id,SH st (L' id)→W X (.ops l::k) (aR tm ((d,(br es f (bW o ys) id))::fr)) st):W X (.ops (⟨.some d,.none,.plain (.app es bytes x y)⟩::l)::k) (aR tm fr) st:=by
 obtain ⟨id',st',h1,h2⟩:=hs.app (E:=X.E) (bytes:=bytes) hj hx hy hb
 exact W.po h1 (hk _ _ (eO (hL id')▸h2))
theorem bs {α :Type} {f: α →AV} {es len:Nat} {ag:Bool} {zero:List AV} {parts:List (Nat × Nat × AX)} (m:List α) (hs:SH st L) (hp:An (len*es) parts (aR tm fr)=true) (hf:(chunks es len (av (cJ zero len) (mI parts (aR tm fr)))).map (cC ag)=m.map f)
  (h1:(av (cJ zero len) (mI parts (aR tm fr))).all AV.one=true) (hl:Nat.beq m.length len=true) (hk: ∀st id,SH st (dK id (some m)::L)→W X (.ops l::k) (aR tm ((d,(br es f (some m) id))::fr)) st):W X (.ops (⟨.some d,.none,.plain (.bE es len ag zero parts false)⟩::l)::k) (aR tm fr) st:=
 W.po (IG (oF hp) hf h1 (Nat.eq_of_beq_eq_true hl)) (hk _ _ (hs.push _))
theorem cb {α :Type} {es:Nat} {f: α →AV} {m:List α} {id:Nat} (hs:SH st L) (j:Nat) (hj:L[j]? =some (dK id (some m))) (hx:(aR tm fr).x x=br es f (some m) id) (hk:W X (.ops l::k) (aR tm ((d,(br es f (some m) id))::fr)) st):W X (.ops (⟨.some d,.none,.plain (.CI x)⟩::l)::k) (aR tm fr) st:=
 W.po (by simp only [aE,hx,br,hs.g j hj,List.length_map,if_true]) hk
theorem df {f:FuncId} {xs:List AX} {ds:List AV} {v:AV} (h:DFun X.P X.E f ds v) [hd:gT ds] (ha:xs.map (aR tm fr).x=ds) (hk:W X (.ops l::k) (aR tm ((d,v)::fr)) st):W X (.ops (⟨.some d,.none,.call f xs⟩::l)::k) (aR tm fr) st:=by
 rw [W.ops] at hk ⊢
 simp only [vN]
 exact Jr h (by rw [ha];exact hd.h.1) (by rw [ha];exact hd.h.2) (by rw [dZ];exact hk)
theorem dw {l l':List AV} (h:l=l'):KD l l':=fun _ _ hr=>h▸hr
theorem cl {f:FuncId} {xs:List AX} {ds:List AV} (ha:KD (xs.map (aR tm fr).x) ds) (h:XCall X.P X.E f ds st fun v st=>W X (.ops l::k) (aR tm ((d,v)::fr)) st):W X (.ops (⟨.some d,.none,.call f xs⟩::l)::k) (aR tm fr) st:=by
 rw [W.ops]
 simp only [vN,XC,dZ]
 exact vP ha (h.mono fun v st' hw=>W.ops.1 hw)
theorem cv {f:AX} {g:FuncId} {caps:List AV} {xs:List AX} {ds:List AV} (hf:(aR tm fr).x f= .fn g caps) (hc:eH X.P g=true) (ha:KD (xs.map (aR tm fr).x++caps) ds) (h:XCall X.P X.E g ds st fun v st=>W X (.ops l::k) (aR tm ((d,v)::fr)) st):W X (.ops (⟨.some d,.none,.fH f xs⟩::l)::k) (aR tm fr) st:=by
 rw [W.ops,nP,hf]
 refine ⟨hc,vP ha (h.mono fun v st' hw=>?_)⟩
 rw [dZ];exact W.ops.1 hw
theorem Vb {α :Type} (f: α →AV) (hs:SH st L) (hk: ∀st id,SH st (pt id (.map none (mS f Mp.empty) (Mp.empty:Mp aZ α).n)::L)→W X (.ops l::k) (aR tm ((d,(.mp id))::fr)) st):W X (.ops (⟨.some d,.none,.plain (.fI none)⟩::l)::k) (aR tm fr) st:=
 W.po (v:=.mp st.length) (st':=st++[.map none (mS f Mp.empty) 0]) (by simp only [aE,JF]) (hk _ _ (hs.push _))
theorem Lf {m q:AX} {α :Type} {f: α →AV} {id:Nat} {key:aZ} (v: α) {M:Mp aZ α} (hs:SH st L) (j:Nat) (hm:(aR tm fr).x m= .mp id) (hj:L[j]? =some (pt id (.map none (mS f M) M.n))) (hq:(aR tm fr).x q= .str key) (hx:(aR tm fr).x x=f v)
  (hL:jT L j (pt id (.map none (mS f (M.put key v)) (M.put key v).n))=some L') (hk: ∀st,SH st L'→W X (.ops l::k) (aR tm fr) st):W X (.ops (⟨.none,.none,.plain (.cu none m q x)⟩::l)::k) (aR tm fr) st:=by
 have ho:=hs.g j hj
 refine W.o0 (st':=st.set id (.map none (mS f (M.put key v)) (M.put key v).n)) (v:=.bt []) ?_ (hk _ (eO hL▸hs.set hj _))
 simp only [aE,hm,hq,keyOf,ho,if_true,hx,RG]
 have:(mS f M (.s key)).isNone=(M.get key).isNone:=by simp only [mS,Option.isNone_map]
 simp only [this,Mp.put]
theorem qq {mr:Nat} {q suf:List bZ} (h:WD X st mr q 0 suf k (aR tm fr) st):W X (.code (.draw [] mr 0 q suf)::k) (aR tm fr) st:=by
 rw [W.code]
 exact XS.of (by rw [nO];simpa [jf,WD,EJ] using h)
theorem Ai {mr nb:Nat} {q suf:List bZ} (hs:SH st L) (h: ∀s0 st':aA,SH s0 L→SH st' (Vj s0.length nb 0++L)→WD X s0 mr q 0 suf k (aR tm fr) st'):W X (.code (.draw [] mr nb q suf)::k) (aR tm fr) st:=by
 rw [W.code]
 exact XS.of (by rw [nO];simpa [jf,WD,EJ] using h _ _ hs (hs.bB nb))
theorem dr1 {mr nb:Nat} {q suf:List bZ} {id off:Nat} {o:List AV} (hs:SH st L) (j:Nat) (ha:(aR tm fr).x a= .ptr id off) (hj:L[j]? =some (pt id (.cells o))) (hL:jT L j (pt id .hid)=some L0')
  (h: ∀s0 st':aA,SH s0 L0'→SH st' (Vj s0.length nb 0++L)→WD X s0 mr q 0 suf k (aR tm fr) st'):W X (.code (.draw [a] mr nb q suf)::k) (aR tm fr) st:=by
 rw [W.code]
 have:=h (st.set id .hid) (st++List.replicate nb .bB) (eO hL▸hs.set hj _) (by rw [List.length_set];exact hs.bB nb)
 have hc:vr st id=true:=by unfold vr;rw [hs.g j hj]
 exact XS.of (by rw [nO];simpa [jf,WD,EJ,ha,hc] using this)
theorem dz (h:W X (.ops suf::k) (aR tm fr) st):WD X st0 mr [] r suf k (aR tm fr) st:=by
 rw [W.ops] at h
 simp only [WD,Iy,Jn];exact h
theorem de {i:AI} {v:AV} (hs:i.still=true) (h:aE X.E (aR tm fr) st0 i=some (v,st0)) (hk:WD X st0 mr l r suf k (aR tm ((d,v)::fr)) st):WD X st0 mr (⟨.some d,.none,.plain i⟩::l) r suf k (aR tm fr) st:=by
 simp only [WD,Ax _ _ _ _ hs,h,Kk,dZ];exact hk
theorem gu {d:Option Nat} {g:Nat} {b t:Bool} {i:AK} (hg:(aR tm fr) g= .bool t) (ht:t=b) (hk:WD X st0 mr (⟨d,.none,i⟩::l) r suf k (aR tm fr) st):WD X st0 mr (⟨d,.some (g,b),i⟩::l) r suf k (aR tm fr) st:=by
 subst ht
 simp only [WD,kH,hg,Kh];exact hk
theorem Xj {g:Nat} {b t:Bool} {i:AK} (hg:(aR tm fr) g= .bool t) (ht:t= !b) (hb:fK ⟨.some d,.none,i⟩=0) (hk:WD X st0 mr l r suf k (aR tm ((d,(.bt []))::fr)) st):WD X st0 mr (⟨.some d,.some (g,b),i⟩::l) r suf k (aR tm fr) st:=by
 subst ht
 cases b
 ·simp only [WD,kH,hg,Bool.not_false,QE,dZ,hb,Nat.add_zero];exact hk
 simp only [WD,kH,hg,Bool.not_true,QD,dZ,hb,Nat.add_zero];exact hk
theorem Ue {g:Nat} {b:Bool} {i:AK} (hg:(aR tm fr) g= .bt []) (hb:fK ⟨.some d,.none,i⟩=0) (hk:WD X st0 mr l r suf k (aR tm ((d,(.bt []))::fr)) st):WD X st0 mr (⟨.some d,.some (g,b),i⟩::l) r suf k (aR tm fr) st:=by
 simp only [WD,kH,hg,Ki,dZ,hb,Nat.add_zero];exact hk
def Dv (tm:Fr):Nat→List bZ→List (Nat × AV)→Option (List bZ × List (Nat × AV))
  | 0,l,fr=>some (l,fr)
  | n+1,l,fr=>match l with
    | []=>none
    | o::l=>match nB false tm o fr with
      | some fr'=>Dv tm n l fr'
      | none=>none
theorem tf: ∀(n:Nat) (l:List bZ) (fr:List (Nat × AV)) (l':List bZ) (fr':List (Nat × AV)),Dv tm n l fr=some (l',fr')→WD X st0 mr l' r suf k (aR tm fr') st→WD X st0 mr l r suf k (aR tm fr) st
  | 0,l,fr,l',fr',h,hk=>by simp only [Dv] at h;cases h;exact hk
  | n+1,[],fr,l',fr',h,hk=>by simp [Dv] at h
  | n+1,o::l,fr,l',fr',h,hk=>by
    simp only [Dv] at h
    split at h
    · rename_i fr2 h2
      have hw:=tf n _ _ l' fr' h hk
      obtain ⟨d,v,rfl,hc⟩:=qS h2
      rcases hc with ⟨g,b,i,rfl,rfl,hg | hg,hb⟩ | ⟨g,b,i,rfl,hg,hv⟩ | ⟨i,rfl,hv⟩
      · exact Ue hg (by simpa using hb) hw
      · exact Xj hg rfl (by simpa using hb) hw
      · exact gu hg rfl (de (qU hv) (kW hv) hw)
      exact de (qU hv) (kW hv) hw
    cases h
theorem dn {l':List bZ} {fr':List (Nat × AV)} (n:Nat) (h:Dv tm n l fr=some (l',fr')) (hk:WD X st0 mr l' r suf k (aR tm fr') st):WD X st0 mr l r suf k (aR tm fr) st:=tf n l fr l' fr' h hk
theorem xK {f:FuncId} {xs:List AX} {ds:List AV} {v:AV} (h:DFun X.P X.E f ds v) [hd:gT ds] (ha:xs.map (aR tm fr).x=ds) (hk:WD X st0 mr l r suf k (aR tm ((d,v)::fr)) st):WD X st0 mr (⟨.some d,.none,.call f xs⟩::l) r suf k (aR tm fr) st:=by
 simp only [WD,uu]
 exact Lv h (by rw [ha];exact hd.h.1) (by rw [ha];exact hd.h.2) (by rw [dZ];exact hk)
theorem IC {z cs:List AV} (hs:SH st L) (j:Nat) (h:z=cs) (hj:L[j]? =some (pt (st0.length+r) .bB))
  (hL:jT L j (pt (st0.length+r) (.cells cs))=some L') (hk: ∀st,SH st L'→WD X st0 mr l (r+1) suf k (aR tm ((d,(.ptr (st0.length+r) 0))::fr)) st):WD X st0 mr (⟨.some d,.none,.plain (.alloc z)⟩::l) r suf k (aR tm fr) st:=by
 subst h
 have hu:=hs.g j hj
 simp only [WD,Aw,cY.app,cY.id,hu,cY.gS,Option.map_some,ru,dZ]
 exact hk _ (eO hL▸hs.set hj _)
theorem CJ {α :Type} {f: α →AV} {es len:Nat} {ag:Bool} {zero:List AV} {parts:List (Nat × Nat × AX)} (m:List α) (hs:SH st L) (j:Nat) (hp:An (len*es) parts (aR tm fr)=true) (hf:(chunks es len (av (cJ zero len) (mI parts (aR tm fr)))).map (cC ag)=m.map f)
  (h1:(av (cJ zero len) (mI parts (aR tm fr))).all AV.one=true) (hl:Nat.beq m.length len=true) (hj:L[j]? =some (pt (st0.length+r) .bB))
  (hL:jT L j (dK (st0.length+r) (some m))=some L') (hk: ∀st,SH st L'→WD X st0 mr l (r+1) suf k (aR tm ((d,(br es f (some m) (st0.length+r)))::fr)) st):WD X st0 mr (⟨.some d,.none,.plain (.bE es len ag zero parts false)⟩::l) r suf k (aR tm fr) st:=by
 have hu:=hs.g j hj
 have hl':=Nat.eq_of_beq_eq_true hl
 simp only [WD,yY,oF hp,HQ,h1,true_and,cY.app,cY.id,hu,cY.gS,Option.map_some,ru,dZ,hf]
 have h2:SH _ (L.set j (dK (st0.length+r) (some m))):=hs.set hj (.tail m.length)
 have:=hk _ (eO hL▸h2)
 rw [hl'] at this
 exact this
theorem dst {id off n:Nat} {cs s1 s2 cs':List AV} (h0:SH st0 L0) (j0:Nat) (hs:SH st L) (j:Nat) (hp:(aR tm fr).x a= .ptr id off) (hj0:L0[j0]? =some (pt id .hid)) (hj:L[j]? =some (pt id (.cells cs))) (hl:LR cs off s1 s2 cs') (hn:s1.length=n) (hc:((aR tm fr).x x).cells=s2) (hn':s2.length=n) (h1:s2.all AV.one=true)
  (hL:jT L j (pt id (.cells cs'))=some L') (hk: ∀st,SH st L'→WD X st0 mr l r suf k (aR tm fr) st):WD X st0 mr (⟨.none,.none,.plain (.store n a x)⟩::l) r suf k (aR tm fr) st:=by
 have hg:=hl.get hn
 have hpt:=hl.put hn
 have hd:=h0.g j0 hj0
 have ho:=hs.g j hj
 simp only [WD,Ay,hp,Kj,hd,true_and,cY.app,cY.id,ho,cY.gS,hc]
 rw [if_pos ⟨hn',hg.1,h1⟩]
 simp only [Option.map_some,ru,yq,hpt]
 exact hk _ (eO hL▸hs.set hj _)
theorem mY {cs s:List AV} (off n:Nat) (s':List AV) (hb:Nat.ble (off+n) cs.length=true) (hc:(cs.drop off).take n=s):LR cs off s s' (cs.take off++s'++cs.drop (off+n)):=
 ⟨cs.take off,cs.drop (off+n),by
  subst hc
  rw [List.append_assoc,←List.drop_drop,List.take_append_drop,List.take_append_drop],rfl,by
  have:=Nat.le_of_ble_eq_true hb
  simp;omega⟩
theorem Ui {id off n:Nat} {cs cs':List AV} (h0:SH st0 L0) (j0:Nat) (hs:SH st L) (j:Nat) (hp:(aR tm fr).x a= .ptr id off) (hj0:L0[j0]? =some (pt id .hid)) (hj:L[j]? =some (pt id (.cells cs))) (hk1:Jl cs off n ((aR tm fr).x x)=true) (hc:cs.take off++((aR tm fr).x x).cells++cs.drop (off+n)=cs')
  (hL:jT L j (pt id (.cells cs'))=some L') (hk: ∀st,SH st L'→WD X st0 mr l r suf k (aR tm fr) st):WD X st0 mr (⟨.none,.none,.plain (.store n a x)⟩::l) r suf k (aR tm fr) st:=by
 simp only [Jl,Bool.and_eq_true] at hk1
 subst hc
 have hb:=Nat.le_of_ble_eq_true hk1.2.1
 exact dst h0 j0 hs j hp hj0 hj (mY off n _ hk1.2.1 rfl) (by simp;omega) rfl (Nat.eq_of_beq_eq_true hk1.1) hk1.2.2 hL hk
end

def cD (P:Program) (E:bA) (N:Nat) (res:List RA) (r:AV) (mu:List Nat:=[]):Cx:=⟨P,E,N,dQ mu,res,Wa (fun x=>x=r),lR E res (Wa (fun x=>x=r))⟩
def cK (P:Program) (E:bA) (N:Nat) (res:List RA) (K:AV→aA→Prop) (mu:List Nat:=[]):Cx:=⟨P,E,N,dQ mu,res,K,lR E res K⟩
theorem W.xs {P:Program} {E:bA} {N:Nat} {mu:Nat→Bool} {res:List RA} {K:AV→aA→Prop} {c:aC} {tm:Fr} {st:aA} (h:W ⟨P,E,N,mu,res,K,lR E res K⟩ [.code c] tm st):At ⟨P,E,N,mu,res,K,lR E res K⟩ c [] tm st:=W.code.1 h
theorem bD {mu:List Nat} {P:Program} {E:bA} {f:FuncId} {n:Nat} {c:aC} {res:List RA} {ds:List AV} {r:AV} (hf:au P (dQ mu) f=some ⟨n,c,res⟩) (hl:Nat.ble ds.length n=true) (h:W (cD P E n res r mu) [.code c] (aR (fun _=>.bt []) (fi ds 0)) []):DFun P E f ds r:=
 LC hf (Nat.le_of_ble_eq_true hl) (by rw [wK];exact h.xs)
theorem bS {mu:List Nat} {P:Program} {E:bA} {f:FuncId} {n:Nat} {c:aC} {res:List RA} {ds:List AV} {st:aA} {K:AV→aA→Prop} (hf:au P (dQ mu) f=some ⟨n,c,res⟩) (hl:Nat.ble ds.length n=true) (h:W (cK P E n res (uL K) mu) [.code c] (aR (fun _=>.bt []) (fi ds 0)) st):XCall P E f ds st K:=
 vO hf (Nat.le_of_ble_eq_true hl) (by rw [wK];exact h.xs)
section
variable {P:Program} {E:bA} {N:Nat} {res:List RA} {k:List KJ} {tm:Fr} {st:aA} {r v:AV} {vs:List AV} {mu:List Nat}
theorem rD [hd:iQ r] (h:fh E tm st res=some vs) (hr:pack vs=r):W (cD P E N res r mu) (.code .ret::k) tm st:=rt h (by rw [hr];exact hd.h)
theorem eD [hd:iQ r] (h:fh E tm st res=some vs) (hr:pack vs=r):W (cD P E N res r mu) [] tm st:=re h (by rw [hr];exact hd.h)
theorem Zv (h:fh E tm st res=some vs) (hr:DS (pack vs) r):W (cD P E N res r mu) (.code .ret::k) tm st:=rt h hr
theorem rS {K:AV→aA→Prop} [hd:iQ v] (h:fh E tm st res=some vs) (hk:K v st) (hr:pack vs=v):W (cK P E N res (uL K) mu) (.code .ret::k) tm st:=rt h (Wb (by rw [hr];exact hd.h) hk)
theorem eS {K:AV→aA→Prop} [hd:iQ v] (h:fh E tm st res=some vs) (hk:K v st) (hr:pack vs=v):W (cK P E N res (uL K) mu) [] tm st:=re h (Wb (by rw [hr];exact hd.h) hk)
theorem Zw {K:AV→aA→Prop} (h:fh E tm st res=some vs) (hk:K v st) (hr:DS (pack vs) v):W (cK P E N res (uL K) mu) (.code .ret::k) tm st:=rt h (Wb hr hk)
theorem bG:fh E tm st []=some []:=rfl
theorem ah {t:Nat} {vs:List AV} {rs:List RA} (hl:fh E tm st rs=some vs):fh E tm st (.tmp t::rs)=some (tm t::vs):=RM rfl hl
end
end Go.Proofs.YtcidnoghoifmmaaDoor.AW
end
section
namespace Go.Proofs.YtcidnoghoifmmaaDoor.AW
open Go
instance (n:Nat):OfNat AX n:=⟨.t n⟩
abbrev q (d:Nat) (i:AI):bZ:=⟨.some d,.none,.plain i⟩
abbrev q0 (i:AI):bZ:=⟨.none,.none,.plain i⟩
abbrev qc (d:Nat) (f:Nat) (l:List AX):bZ:=⟨.some d,.none,.call f l⟩
abbrev qf (d:Nat) (f:AX) (l:List AX):bZ:=⟨.some d,.none,.fH f l⟩
abbrev bZ.y (o:bZ) (g:Nat):bZ:=⟨o.dst,.some (g,true),o.ins⟩
abbrev bZ.n (o:bZ) (g:Nat):bZ:=⟨o.dst,.some (g,false),o.ins⟩
abbrev ki (n:Int):AX:=.c (.int .i64 n)
abbrev ku (n:Int):AX:=.c (.int .u8 n)
abbrev aC.s (a b:aC):aC:=.seq a b
abbrev qm (d:Nat) (x:AX):bZ:=q d (.mv x)
abbrev ql (d:Nat) (x:AX):bZ:=q d (.kg x)
abbrev qa (d o:Nat) (x:AX):bZ:=q d (.jK o x)
abbrev qn (d n:Nat) (x:AX):bZ:=q d (.mo n x)
abbrev qb (d:Nat) (o:BinOp) (x y:AX):bZ:=q d (.vz o x y)
abbrev qs (n:Nat) (x y:AX):bZ:=q0 (.store n x y)
abbrev qp (d:Nat) (x y z:AX):bZ:=q d (.pick x y z)
abbrev qi (d e:Nat) (x y:AX):bZ:=q d (.kG e x y)
abbrev qh (d:Nat) (x:AX):bZ:=q d (.len x)
abbrev qe (d:Nat) (x:AX) (i:Nat):bZ:=q d (.extract x i)
abbrev qk (d:Nat) (x:AX):bZ:=q d (.jg x)
abbrev qx (d n:Nat) (x:AX):bZ:=q d (.DW n x)
abbrev aC.o (l:List bZ) (b:aC):aC:=.seq (.ops l) b
abbrev zi:AV:=.int .i64 0
abbrev zu:AV:=.int .u64 0
abbrev zb:AV:=.int .u8 0
abbrev kt:AX:=.c (.bool true)
abbrev kf:AX:=.c (.bool false)
theorem z {α :Type} {a: α}:a=a:=rfl
theorem Wj {a0:AV}:a0=a0∧True:=⟨rfl,trivial⟩
theorem Ra {a0 a1:AV}:a0=a0∧a1=a1∧True:=⟨rfl,rfl,trivial⟩
theorem hG {a0 a1 a2:AV}:a0=a0∧a1=a1∧a2=a2∧True:=⟨rfl,rfl,rfl,trivial⟩
theorem iG {a0 a1 a2 a3:AV}:a0=a0∧a1=a1∧a2=a2∧a3=a3∧True:=⟨rfl,rfl,rfl,rfl,trivial⟩
theorem kj {a0 a1 a2 a3 a4:AV}:a0=a0∧a1=a1∧a2=a2∧a3=a3∧a4=a4∧True:=⟨rfl,rfl,rfl,rfl,rfl,trivial⟩
theorem lD {a0 a1 a2 a3 a4 a5:AV}:a0=a0∧a1=a1∧a2=a2∧a3=a3∧a4=a4∧a5=a5∧True:=⟨rfl,rfl,rfl,rfl,rfl,rfl,trivial⟩
theorem Cw {a0 a1 a2 a3 a4 a5 a6:AV}:a0=a0∧a1=a1∧a2=a2∧a3=a3∧a4=a4∧a5=a5∧a6=a6∧True:=⟨rfl,rfl,rfl,rfl,rfl,rfl,rfl,trivial⟩
theorem uV {a0 a1 a2 a3 a4 a5 a6 a7:AV}:a0=a0∧a1=a1∧a2=a2∧a3=a3∧a4=a4∧a5=a5∧a6=a6∧a7=a7∧True:=⟨rfl,rfl,rfl,rfl,rfl,rfl,rfl,rfl,trivial⟩
theorem qZ {a0 a1 a2 a3 a4 a5 a6 a7 a8:AV}:a0=a0∧a1=a1∧a2=a2∧a3=a3∧a4=a4∧a5=a5∧a6=a6∧a7=a7∧a8=a8∧True:=⟨rfl,rfl,rfl,rfl,rfl,rfl,rfl,rfl,rfl,trivial⟩
theorem qC {a0 a1 a2 a3 a4 a5 a6 a7 a8 a9:AV}:a0=a0∧a1=a1∧a2=a2∧a3=a3∧a4=a4∧a5=a5∧a6=a6∧a7=a7∧a8=a8∧a9=a9∧True:=⟨rfl,rfl,rfl,rfl,rfl,rfl,rfl,rfl,rfl,rfl,trivial⟩
theorem EN {a0 a1 a2 a3 a4 a5 a6 a7 a8 a9 a10 a11:AV}:a0=a0∧a1=a1∧a2=a2∧a3=a3∧a4=a4∧a5=a5∧a6=a6∧a7=a7∧a8=a8∧a9=a9∧a10=a10∧a11=a11∧True:=⟨rfl,rfl,rfl,rfl,rfl,rfl,rfl,rfl,rfl,rfl,rfl,rfl,trivial⟩
theorem RZ {a0 a1 a2 a3 a4 a5 a6 a7 a8 a9 a10 a11 a12:AV}:a0=a0∧a1=a1∧a2=a2∧a3=a3∧a4=a4∧a5=a5∧a6=a6∧a7=a7∧a8=a8∧a9=a9∧a10=a10∧a11=a11∧a12=a12∧True:=⟨rfl,rfl,rfl,rfl,rfl,rfl,rfl,rfl,rfl,rfl,rfl,rfl,rfl,trivial⟩
theorem ci {X:Cx} {k:List KJ} {tm:Fr} {st:aA} {z:AX} {x y:aC} {t:Bool} {α :Type} {A B:Option α} {r: α} (hF:(if t=true then A else B)=some r) (hz:tm.x z= .bool t) (h1:t=true→A=some r→W X (.code x::k) tm st) (h2:t=false→B=some r→W X (.code y::k) tm st):W X (.code (.cond z x y)::k) tm st:=
 cd hz (fun c=>h1 c (NM c hF)) (fun c=>h2 c (NL c hF))
theorem bi {b:Bool} {p:Prop} {α :Type} {A B:Option α} {r: α} (hF:(if b=true then A else B)=some r) (h1:b=true→A=some r→p) (h2:b=false→B=some r→p):p:=
 QV (fun c=>h1 c (NM c hF)) (fun c=>h2 c (NL c hF))
theorem gM {α β :Type} {x: α} {f: α →Option β} {r: β} (h:(some x>>=f)=some r): ∃v,x=v∧f v=some r:=⟨x,rfl,h⟩
theorem zN {tm:Fr} {fr:List (Nat × AV)} (g:Nat) {v w:AV} (hg:aR tm fr g=v) (hw:v=w):aR tm ((g,w)::fr)=aR tm fr:=by
 subst hw
 funext i
 show gS (aR tm fr) g v i=aR tm fr i
 unfold gS
 cases e:Nat.beq g i with
 | false=>rfl
 | true=>rw [←Nat.eq_of_beq_eq_true e];exact hg.symm
theorem bL {X:Cx} {k:List KJ} {tm:Fr} {fr:List (Nat × AV)} {st:aA} (g:Nat) {b t:Bool} (hg:aR tm fr g= .bool b) (hb:b=t) (hk:W X k (aR tm ((g,.bool t)::fr)) st):W X k (aR tm fr) st:=by
 rw [zN g hg (by rw [hb])] at hk;exact hk
theorem qL {X:Cx} {k:List KJ} {tm:Fr} {fr:List (Nat × AV)} {st st0:aA} {mr r:Nat} {l suf:List bZ} (g:Nat) {b t:Bool} (hg:aR tm fr g= .bool b) (hb:b=t) (hk:WD X st0 mr l r suf k (aR tm ((g,.bool t)::fr)) st):WD X st0 mr l r suf k (aR tm fr) st:=by
 rw [zN g hg (by rw [hb])] at hk;exact hk
def cF {α :Type} (c: α →List AV) (z: α) (l:List α):Nat→Nat→List AV
 | 0,_=>[]
 | n+1,i=>c (l.getD i z)++cF c z l n (i+1)
theorem CF {α :Type} (c: α →List AV) (z: α) (l:List α): ∀n i:Nat,l.length=i+n→cF c z l n i=(l.drop i).flatMap c
  | 0,i,h=>by simp [cF,List.drop_of_length_le (show l.length≤i by omega)]
  | n+1,i,h=>by
    have hi:i<l.length:=by omega
    rw [cF,CF c z l n (i+1) (by omega),List.drop_eq_getElem_cons hi,List.flatMap_cons]
    simp [List.getD,hi]
theorem DY {n:Nat} {α :Type} (c: α →List AV) (z: α) (a:an n α):cF c z a.l n 0=cA c a:=by rw [CF c z a.l n 0 (by rw [a.h];omega)];rfl
instance {α :Type} (c: α →List AV) (z: α) (l:List α) (n i:Nat) [h: ∀x,gT (c x)]:gT (cF c z l n i):=by
 induction n generalizing i with
 | zero=>exact ⟨kC⟩
 | succ n ih=>exact ⟨jH (h _).h (ih _).h⟩
theorem kI {n:Nat} {α :Type} {c: α →List AV} {z: α} {es:Nat} (hc: ∀x,(c x).length=es) {a:an n α} {i:Int} {x: α} (h:ix a.l i=some x):LR (cF c z a.l n 0) (i.toNat*es) (c x) (c x) (cF c z a.l n 0):=by
 rw [DY];exact wV hc h
theorem wU {n:Nat} {α :Type} {c: α →List AV} {z: α} {es:Nat} (hc: ∀x,(c x).length=es) {a:an n α} {i:Int} {x: α} (h:ix a.l i=some x) (y: α):LR (cF c z a.l n 0) (i.toNat*es) (c x) (c y) (cF c z (iz a i y).l n 0):=by
 rw [DY,DY];exact BB hc h y
theorem Uv {n:Nat} {α :Type} [DecidableEq α] {ks ks':List LK} {c: α →List AV} {z: α} (hc:MM ks c) (e:ks'=uO ks n):MM ks' (fun a:an n α =>cF c z a.l n 0):=fun x y=>by
 simp only [DY];exact Uu hc e x y
def fF {α :Type} (es:Nat) (f: α →AV) (o:Sl α):List AV:=[cg es f o]
theorem aN {α :Type} {es:Nat} {f: α →AV} {o:Sl α}:(cg es f o).cells=fF es f o:=by cases o<;>rfl
theorem aO {α :Type} {es:Nat} {f: α →AV} (o:Sl α):(fF es f o).length=1:=rfl
theorem jF {α :Type} {es:Nat} {f: α →AV} (o:Sl α):(fF es f o).all AV.one=true:=by cases o<;>rfl
instance {α :Type} (es:Nat) (f: α →AV) (o:Sl α) [h:qz f]:gT (fF es f o):=⟨lQ (IF h.h) kC⟩
def RK (k:IntKind) (n:Int):Prop:=(Lit.int k n).wf=true
def Kr {α :Type} (_: α):Nat:=1
def Ks {α :Type} (bk: α →Nat) (o:Sl α):Nat:=((ls o).map bk).sum+1
end Go.Proofs.YtcidnoghoifmmaaDoor.AW
end
section
namespace Go.Proofs.YtcidnoghoifmmaaDoor.AW
open Go Go.RowKit Go.WideShapes Go.ChangeShapes Go.Deep

theorem RT {E:bA} {W:World} (hE:nC E (G0 W)):aG E (G0 W) [] W:=
 let h:=RS W
 ⟨h.len,h.obj,h.apart,h.mem,h.one,h.jU,hE⟩
theorem Av {P:Program} {E:bA} {f:FuncId} {ds:List AV} {vs:List Value} {W:World} (hE:nC E (G0 W)) (h:DFun P E f ds (.bool true)) (hr:aW (G0 W) ds vs):
  Calls P f vs.toArray W fun e W'=>e= .returned (.bool true)∧Below W.heap.size W W':=by
 refine (h (G0 W) W vs hr (RT hE)).mono fun e W' ⟨u,r,st',G',he,hr',hs',hext,hd,hk⟩=>?_
 have hrr:=fU (G:=G') (G':=G') (fun _ _ _ h=>h) hd hr'
 have e1:r.strip= .bool true:=hk
 rw [e1] at hrr
 simp only [aU] at hrr
 subst hrr
 exact ⟨he,hext.os,hext.tape,hext.output,hext.size,fun k hk=>hext.block k hk fun s hs=>by simp [G0] at hs⟩
theorem CX {P:Program} {W:World}: ∀ {laid:List (String × DataW Unit)} {ps:List MemPlace},DataW.LaidVars P W laid ps→ ∀(i:Nat) {name:String} {d:DataW Unit},laid[i]? =some (name,d)→
    ∃g t cs fuel p,P.globalNamed name=some g∧(P.globals[g]?).map (·.type)=some t∧W.var? P name=some cs∧DataW.trod (fun _=>()) P W 0 (fun _=>true) false fuel t cs.toList=some (d,p)
  | [],_,_,i,_,_,hi=>by simp at hi
  | (n,d0)::r,ps,h,0,name,d,hi=>by
    simp at hi
    obtain ⟨rfl,rfl⟩:=hi
    obtain ⟨g,t,cs,fuel,p,q,h1,h2,h3,h4,_,_⟩:=h
    exact ⟨g,t,cs,fuel,p,h1,h2,h3,h4⟩
  | (n,d0)::r,ps,h,i+1,name,d,hi=>by
    obtain ⟨g,t,cs,fuel,p,q,_,_,_,_,h5,_⟩:=h
    exact CX h5 i (by simpa using hi)
theorem LM {P:Program} {W:World} {laid:List (String × DataW Unit)} (h:laidMet P laid W) (i:Nat) {name:String} {d:DataW Unit} (hi:laid[i]? =some (name,d)) {g:Nat} {t:TypeId} (hg:P.globalNamed name=some g) (ht:(P.globals[g]?).map (·.type)=some t) {cells:List AV}
  (hcs: ∀(cs:List Value) (fuel:Nat) (p:List MemPlace),DataW.trod (fun _=>()) P W 0 (fun _=>true) false fuel t cs=some (d,p)→aW {slots:=[],M:=M0 W} cells cs∧ ∀u∈cs,u.oneCell'=true):
  ∃us,aW {slots:=[],M:=(G0 W).M} cells us∧(∀j v,us[j]? =some v→(G0 W).M g j=some v)∧ ∃e,(G0 W).sh g=some (e,us.length):=by
 obtain ⟨ps,hl,_,_⟩:=h
 obtain ⟨g',t',cs,fuel,p,h1,h2,h3,h4⟩:=CX hl i hi
 obtain rfl:=Option.some.inj (hg.symm.trans h1)
 obtain rfl:=Option.some.inj (ht.symm.trans h2)
 obtain ⟨k1,k2⟩:=hcs cs.toList fuel p h4
 have h5:=h3
 unfold World.var? at h5
 rw [hg] at h5
 simp only [Option.bind_some] at h5
 split at h5
 ·rename_i arr e fz hb
  cases h5
  refine ⟨cs.toList,k1,fun j v hv=>?_,e,?_⟩
  ·have hc:W.cell? ⟨g,j,none⟩=some v:=by simp only [World.cell?,hb,Option.isSome_none,Bool.false_eq_true,if_false];simpa using hv
   exact Bp hc (k2 v (List.mem_of_getElem? hv))
  simp only [G0,YG,hb,Array.length_toList]
 cases h5
theorem Ad {P:Program} {W:World} {t e:TypeId} {n:Nat} {k:IntKind} {zs:List Int} (ht:P.underlying t=some (.array n e)) (he:P.underlying e=some (.int k)) (hce:P.cellsOf e=1) (hct:P.cellsOf t=n):
  ∀(cs:List Value) (fuel:Nat) (p:List MemPlace),DataW.trod (fun _=>()) P W 0 (fun _=>true) false fuel t cs=some ((.agg (zs.map fun z=>.lit (.int k z)):DataW Unit),p)→aW {slots:=[],M:=M0 W} (zs.flatMap (cI k)) cs∧ ∀u∈cs,u.oneCell'=true:=by
 intro cs fuel p h
 have hcs:=Lib.cells_of_tab (zs:=zs) ht he hce hct h
 subst hcs
 constructor
 ·clear h
  induction zs with
  | nil=>exact jj
  | cons z zs ih=>exact iM (tY k z) ih
 intro u hu
 obtain ⟨z,_,rfl⟩:=List.mem_map.1 hu
 rfl
structure HJ {H:Type} {α :Type} (enc:TypeId × Value→H) (P:Program) (W:World) (base:Nat) (t:TypeId) (c: α →List AV) (ok: α →Prop) (bk: α →Nat):Prop where
 rd: ∀ {fuel:Nat} {cs:List Value} {x:DataW H × List MemPlace},DataW.trod enc P W base (fun _=>true) true fuel t cs=some x→
  ∃a,aW (G0 W) (c a) cs∧(∀u∈cs,u.oneCell'=true)∧ok a∧bk a≤Rows.uptoBulk x.1
section
variable {H:Type} {enc:TypeId × Value→H} {P:Program} {W:World} {base:Nat} {t:TypeId}
theorem rdI {k:IntKind} (ht:P.underlying t=some (.int k)):HJ enc P W base t (cI k) (RK k) Kr:=⟨fun h=>by
 obtain ⟨n,rfl,rfl,hw⟩:=DataW.trod_int ht h
 exact ⟨n,iM (tY k n) jj,by simp [Value.oneCell'],hw,by simp [Kr,Rows.uptoBulk]⟩⟩
theorem CP {α :Type} {Q:Nat→ α →Prop}: ∀n:Nat,(∀i,i<n→ ∃x,Q i x)→ ∃l:List α,l.length=n∧ ∀(i:Nat) x,l[i]? =some x→Q i x
  | 0,_=>⟨[],rfl,fun i x h=>by simp at h⟩
  | n+1,h=>by
    obtain ⟨l,hl,hq⟩:=CP n fun i hi=>h i (by omega)
    obtain ⟨x,hx⟩:=h n (by omega)
    refine ⟨l++[x],by simp [hl],fun i y hy=>?_⟩
    rw [List.getElem?_append] at hy
    split at hy
    · exact hq i y hy
    have:i=n:=by
      have:=aD hy
      simp at this;omega
    subst this
    simp [hl] at hy
    subst hy;exact hx
theorem vI {α :Type} {es b:Nat} {f: α →AV}: ∀(l:List α) (o:Nat),(∀(i:Nat) x,l[i]? =some x→ ∃u:Value,aU (G0 W) (f x) u∧u.cells.size=es∧ ∀j y,u.cells[j]? =some y→M0 W b (o+i*es+j)=some y)→dI (G0 W) es b o (l.map f)
  | [],_,_=>by simp only [List.map_nil,dI]
  | x::l,o,h=>by
    simp only [List.map_cons,dI]
    obtain ⟨u,h1,h2,h3⟩:=h 0 x rfl
    refine ⟨⟨u,h1,h2,fun j y hy=>by
      have:=h3 j y hy
      show M0 W b (o+j)=some y
      simpa using this⟩,vI l (o+es) fun i y hy=>?_⟩
    obtain ⟨u,k1,k2,k3⟩:=h (i+1) y (by simpa using hy)
    refine ⟨u,k1,k2,fun j z hz=>?_⟩
    have:=k3 j z hz
    rw [Nat.add_mul,Nat.one_mul] at this
    rwa [show o+es+i*es+j=o+(i*es+es)+j by omega]
theorem Jo {α :Type} {bk: α →Nat} {D:Nat→DataW H}: ∀(l:List α) (k:Nat),(∀(i:Nat) x,l[i]? =some x→bk x≤Rows.uptoBulk (D (k+i)))→(l.map bk).sum≤Rows.uptoBulkAll ((List.range l.length).map fun i=>D (k+i))
  | [],k,_=>by simp
  | x::l,k,h=>by
    have h0:=h 0 x rfl
    have ih:=Jo l (k+1) fun i y hy=>by
      have:=h (i+1) y (by simpa using hy)
      rwa [show k+1+i=k+(i+1) by omega]
    have e:(List.range (x::l).length).map (fun i=>D (k+i))=D (k+0)::(List.range l.length).map fun i=>D (k+1+i):=by
      rw [List.length_cons,List.range_succ_eq_map,List.map_cons,List.map_map]
      congr 1
      apply List.map_congr_left
      intro i _
      simp only [Function.comp]
      rw [show k+(i+1)=k+1+i by omega]
    rw [e]
    simp only [List.map_cons,List.sum_cons,Rows.uptoBulkAll]
    omega
theorem Kl {α :Type} {c: α →List AV} {es:Nat}: ∀(a: α) (us:List Value),aW (G0 W) (c a) us→us.length=es→ ∃u:Value,aU (G0 W) (.agg (c a)) u∧u.cells.toList=us:=fun a us h _=>
 ⟨.agg us.toArray,by simp only [aU];exact ⟨us,h,rfl⟩,by simp [Value.cells]⟩
end
end Go.Proofs.YtcidnoghoifmmaaDoor.AW
end
section
namespace Go.Proofs.YtcidnoghoifmmaaDoor.AW
open Go

structure Rw (α :Type) where
 l:List α
 n:Nat
theorem lJ {α :Type} {c: α →List AV} {f: α →AV} {es:Nat} {ag:Bool} (hc: ∀x,(c x).length=es) (hf: ∀x,cC ag (c x)=f x): ∀l:List α,(chunks es l.length (l.flatMap c)).map (cC ag)=l.map f
  | []=>rfl
  | x::l=>by
    simp only [List.length_cons,List.flatMap_cons,chunks,List.map_cons]
    rw [List.take_left' (hc x),List.drop_left' (hc x),hf,lJ hc hf l]
section
variable {E:bA} {tm:Fr} {st:aA} {x i:AX}
theorem IJ {id n es:Nat} {cs:List AV} {k:IntKind} {j:Int} (hp:tm.x x= .row id es 0 n) (ho:st[id]? =some (.cells cs)) (hi:tm.x i= .int k j) (h:0≤j∧j<(n:Int)):aE E tm st (.kG es x i)=some (.ptr id (j.toNat*es),st):=by
 simp only [um,hi,jr,hp,Dd,lG ho]
 rw [if_pos ⟨trivial,trivial,h.1,h.2⟩,Nat.zero_add]
theorem Ql {id n es:Nat} {cs:List AV} (hp:tm.x x= .row id es 0 n) (ho:st[id]? =some (.cells cs)):aE E tm st (.len x)=some (.int .i64 n,st):=by
 simp only [wJ,hp,Ix,lG ho,if_true]
end
section
variable {X:Cx} {k:List KJ} {tm:Fr} {fr:List (Nat × AV)} {st:aA} {l:List bZ} {d:Nat} {L L1:List bU} {x y:AX}
end
def Vh (es:Nat):Nat→List (List AV)→List (Nat × List AV)
 | _,[]=>[]
 | o,c::l=>(o,c)::Vh es (o+es) l
theorem yN {es:Nat} {zero:List AV} (hz:zero.length=es): ∀(l:List (List AV)) (pre:List AV),(∀c∈l,c.length=es)→av (pre++cJ zero l.length) (Vh es pre.length l)=pre++l.flatten
  | [],pre,_=>by simp [Vh,av,cJ]
  | c::l,pre,h=>by
    have hc:=h c (by simp)
    have ih:=yN hz l (pre++c) fun d hd=>h d (by simp [hd])
    simp only [Vh,av,List.length_cons,cJ]
    rw [List.take_left,hc]
    have e:(pre++(zero++cJ zero l.length)).drop (pre.length+es)=cJ zero l.length:=by
      rw [←List.append_assoc]
      exact List.drop_left' (by simp [hz])
    rw [e]
    rw [List.length_append,hc] at ih
    rw [ih]
    simp
end Go.Proofs.YtcidnoghoifmmaaDoor.AW
end
section
namespace Go.Proofs.YtcidnoghoifmmaaDoor.AW
open Go

def fC {α :Type} (es:Nat) (o:Sl α) (id:Nat):AV:=match o with
 | none=>.aP
 | some l=>.row id es 0 l.length
def RP {α :Type} (c: α →List AV) (o:Sl α):List AV:=(ls o).flatMap c
def lC {α :Type} (c: α →List AV) (id:Nat) (o:Sl α):bU:=match o with
 | none=>emp
 | some l=>pt id (.cells (l.flatMap c))
def dF {α :Type} (o:Sl α) (i:Int) (x: α):Sl α :=o.map (fun l=>l.set i.toNat x)

theorem wv {α :Type} {o:Sl α} {i:Int} {x: α} (h:ix (ls o) i=some x): ∃l,o=some l:=by
 cases o with
 | none=>have:=gx h;simp [ls] at this
 | some l=>exact ⟨l,rfl⟩
theorem SH.zA {st:aA} {L:List bU} (hs:SH st L) {α :Type} (c: α →List AV):SH st (lC c 0 (none:Sl α)::L):=hs.Ut fun _=>rfl
theorem mQ {α :Type} {c: α →List AV} {es:Nat} (hc: ∀x,(c x).length=es) {o:Sl α} {i:Int} {x: α} (h:ix (ls o) i=some x):LR (RP c o) (i.toNat*es) (c x) (c x) (RP c o):=by
 have:=oN hc (ls o) i.toNat x x (gx h).2.1
 rw [fD _ _ _ (gx h).2.1] at this
 exact this
theorem rG {α :Type} (o:Sl α) (i:Int) (x: α):ls (dF o i x)=(ls o).set i.toNat x:=by cases o<;>rfl
theorem fl {α :Type} {c: α →List AV} {es:Nat} (hc: ∀x,(c x).length=es) {o:Sl α} {i:Int} {x: α} (h:ix (ls o) i=some x) (y: α):LR (RP c o) (i.toNat*es) (c x) (c y) (RP c (dF o i y)):=by
 have:=oN hc (ls o) i.toNat x y (gx h).2.1
 rw [←rG] at this
 exact this
theorem eA {α :Type} (es:Nat) (o:Sl α) (i:Int) (x: α) (id:Nat):fC es (dF o i x) id=fC es o id:=by cases o<;>simp [fC,dF]
theorem vE {α :Type} (c: α →List AV) (z: α): ∀n,cJ (c z) n=(List.replicate n z).flatMap c
 | 0=>rfl
 | n+1=>by simp [cJ,List.replicate_succ,vE c z n]
theorem SH.YD {st:aA} {P:bU} {L:List bU} (hs:SH st (P::L)) (j:Nat) (hj:j<L.length):SH st (L.set j P):=by
 obtain ⟨a,b,h1,h2,h3,h4⟩:=hs
 obtain ⟨p,q,k1,k2,k3,k4⟩:=mH (List.getElem?_eq_getElem hj) h2
 have hap:PH.dj a p∧PH.dj a q:=PH.lP.1 (fun i=>by rw [←k4 i];exact h3 i)
 have h5:=qA hj h1 k2 hap.2
 have h6:PH.dj (PH.or a q) p:=(PH.lP.2 ⟨hap.1.symm,k3⟩).symm
 refine gD (fun i=>?_) (iu h6 h5)
 have h7:st[i]? =PH.or a b i:=h4 i
 show _=st[i]?
 rw [h7,PH.or_assoc]
 have h8:=PH.or_comm k3 i
 simp only [PH.or,k4 i] at h8 ⊢
 rw [h8]
section
variable {E:bA} {tm:Fr} {st:aA} {x i:AX} {L:List bU}
theorem SH.gv {α :Type} {c: α →List AV} {o:Sl α} {id:Nat} {n:Int} {y: α} (hs:SH st L) (j:Nat) (hj:L[j]? =some (lC c id o)) (h:ix (ls o) n=some y):st[id]? =some (.cells (RP c o)):=by
 obtain ⟨l,rfl⟩:=wv h
 exact hs.g j hj
theorem gL {α :Type} {es:Nat} {c: α →List AV} {o:Sl α} {id:Nat} (hs:SH st L) (j:Nat) (hj:L[j]? =some (lC c id o)) (hx:tm.x x=fC es o id):aE E tm st (.len x)=some (.int .i64 (ls o).length,st):=by
 cases o with
 | none=>simp only [wJ,hx,fC];rfl
 | some l=>exact Ql hx (hs.g j hj)
theorem dJ {α :Type} {es:Nat} {c: α →List AV} {o:Sl α} {id:Nat} {k:IntKind} {n:Int} {y: α} (hs:SH st L) (j:Nat) (hj:L[j]? =some (lC c id o)) (hx:tm.x x=fC es o id) (hi:tm.x i= .int k n) (h:ix (ls o) n=some y):aE E tm st (.kG es x i)=some (.ptr id (n.toNat*es),st):=by
 obtain ⟨l,rfl⟩:=wv h
 have h2:=gx h
 exact IJ hx (hs.g j hj) hi ⟨h2.1,by simpa [ls] using h2.2.2⟩
end

section
variable {X:Cx} {k:List KJ} {tm:Fr} {fr:List (Nat × AV)} {st:aA} {l:List bZ} {d:Nat} {L L' L1:List bU} {x y a:AX}
theorem Xz {α :Type} {es bytes:Nat} {c: α →List AV} (z: α) {z0:List AV} {xl xc:AX} {kd kd':IntKind} {n m:Int} (hs:SH st L) (hz:z0=c z) (hl:(aR tm fr).x xl= .int kd n) (hc:(aR tm fr).x xc= .int kd' m) (hb:0≤n∧m=n∧(bytes:Int)*n≤281474976710656)
  (hk: ∀st id,SH st (lC c id (some (List.replicate n.toNat z))::L)→W X (.ops l::k) (aR tm ((d,(fC es (some (List.replicate n.toNat z)) id))::fr)) st):W X (.ops (⟨.some d,.none,.plain (.jM es bytes z0 xl xc true)⟩::l)::k) (aR tm fr) st:=by
 subst hz
 have h3:=hs.push (.cells ((List.replicate n.toNat z).flatMap c))
 refine W.po (v:=fC es (some (List.replicate n.toNat z)) st.length) (st':=st++[.cells ((List.replicate n.toNat z).flatMap c)]) ?_ (hk _ _ h3)
 simp only [aE,hl,hc,if_true]
 rw [if_pos hb,vE]
 simp [fC]
theorem QJ {α :Type} {es bytes:Nat} {f: α →AV} {c: α →List AV} {o:Sl α} {id:Nat} {ys:List α} (hs:SH st L) (j:Nat) (hj:L[j]? =some (lC c id o)) (hx:(aR tm fr).x x=fC es o id) (hy:dy es st ((aR tm fr).x y)=some (ys.map f))
    (hb:((ls o).length+ys.length)*bytes≤140737488355328) (hc: ∀x,(c x).length=es) (hf: ∀x,(f x).cells=c x)
    {L':Nat→List bU} (hL: ∀id,jT L j (lC c id (bW o ys))=some (L' id))
    (hk: ∀st id,SH st (L' id)→W X (.ops l::k) (aR tm ((d,(fC es (bW o ys) id))::fr)) st):W X (.ops (⟨.some d,.none,.plain (.ng es bytes x y)⟩::l)::k) (aR tm fr) st:=by
  have hcells:(ys.map f).flatMap AV.cells=ys.flatMap c:=by
    rw [List.flatMap_map];congr 1;funext z;exact hf z
  cases o with
  | none=>
    simp only [ls,Option.getD_none,List.length_nil,Nat.zero_add] at hb
    cases ys with
    | nil=>
      refine W.po (v:=.aP) (st':=st) ?_ (hk st id ?_)
      · simp only [aE,hy,hx,fC,List.map_nil]
      have:L.set j (lC c id (bW (none:Sl α) []))=L:=fD _ _ _ hj
      rw [eO (hL id),this];exact hs
    | cons z zs=>
      have e1:lC c st.length (bW (none:Sl α) (z::zs))=pt st.length (.cells ((z::zs).flatMap c)):=by simp [bW,ls,lC]
      refine W.po (v:=fC es (bW none (z::zs)) st.length) (st':=st++[.cells ((z::zs).flatMap c)]) ?_ (hk _ st.length ?_)
      · simp only [aE,hy,hx,fC,List.map_cons]
        rw [if_pos (by simpa using hb),←List.map_cons,hcells]
        simp [bW,ls]
      rw [eO (hL _),e1]
      refine hs.gS hj fun a b ha hd he=>⟨fun i=>if i=st.length then some (.cells ((z::zs).flatMap c)) else none,fun _=>rfl,fun i=>?_,fun i=>?_⟩
      · by_cases e:i=st.length
        · right
          have:=he i
          rw [List.getElem?_eq_none (by omega)] at this
          exact (PH.or_none.1 this.symm).2
        exact .inl (if_neg e)
      by_cases e:i=st.length
      · rw [PH.lB (a:=fun i=>if i=st.length then some (.cells ((z::zs).flatMap c)) else none) (x:=.cells ((z::zs).flatMap c)) (if_pos e)];subst e;simp
      rw [PH.iA (a:=fun i=>if i=st.length then some (.cells ((z::zs).flatMap c)) else none) (if_neg e)]
      have h1:=he i
      rw [PH.iA (ha i)] at h1
      rw [←h1]
      rcases Nat.lt_or_ge i st.length with h | h
      · rw [List.getElem?_append_left h]
      rw [List.getElem?_eq_none (by simp;omega),List.getElem?_eq_none h]
  | some m=>
    have hg:st[id]? =some (.cells (m.flatMap c)):=hs.g j hj
    have hid:=(List.getElem?_eq_some_iff.1 hg).1
    have hml:(m.flatMap c).length=m.length*es:=by
      clear hg hs hk hb hj hL hx
      induction m with
      | nil=>simp
      | cons z m ih=>simp [hc,ih,Nat.add_mul,Nat.add_comm]
    refine W.po (v:=fC es (bW (some m) ys) st.length) (st':=st.set id .dead++[.cells (m.flatMap c++ys.flatMap c)]) ?_ (hk _ st.length ?_)
    · simp only [aE,hy,hx,fC,hg]
      rw [if_pos ⟨trivial,trivial,hml,by simpa [ls] using hb⟩,hcells]
      simp [bW,ls]
    rw [eO (hL _)]
    have e1:lC c st.length (bW (some m) ys)=pt st.length (.cells (m.flatMap c++ys.flatMap c)):=by simp [bW,ls,lC]
    rw [e1]
    have h2:=(SH.set (o':=.dead) hs hj).push (.cells (m.flatMap c++ys.flatMap c))
    rw [List.length_set] at h2
    have hjl:j<L.length:=(List.getElem?_eq_some_iff.1 hj).1
    have h3:=h2.YD j (by simpa using hjl)
    rwa [List.set_set] at h3
theorem Xg {α :Type} {es:Nat} {c: α →List AV} {o o':Sl α} {id:Nat} {kd:IntKind} {n:Int} (hs:SH st L) (j:Nat) (hj:L[j]? =some (lC c id o)) (hx:(aR tm fr).x x=fC es o id) (hy:(aR tm fr).x y= .int kd n) (hw:mG o 0 n=some o') (hc: ∀x,(c x).length=es)
    (hL:jT L j (lC c id o')=some L') (hk: ∀st,SH st L'→W X (.ops l::k) (aR tm ((d,(fC es o' id))::fr)) st):W X (.ops (⟨.some d,.none,.plain (.RR es x none (some y))⟩::l)::k) (aR tm fr) st:=by
  cases o with
  | none=>
    simp only [mG] at hw
    split at hw
    · rename_i h
      cases hw
      refine W.po (v:=.aP) (st':=st) ?_ (hk st ?_)
      · simp only [aE,hx,fC,Option.map_some,hy,bound]
        rw [if_pos (by omega),h.2];rfl
      have:L.set j (lC c id (none:Sl α))=L:=fD _ _ _ hj
      rw [eO hL,this];exact hs
    cases hw
  | some m=>
    simp only [mG] at hw
    split at hw
    · rename_i h
      cases hw
      have hg:st[id]? =some (.cells (m.flatMap c)):=hs.g j hj
      have hml: ∀m:List α,(m.flatMap c).length=m.length*es:=by
        intro m
        induction m with
        | nil=>simp
        | cons z m ih=>simp [hc,ih,Nat.add_mul,Nat.add_comm]
      have htk: ∀(m:List α) (q:Nat),(m.flatMap c).take (q*es)=(m.take q).flatMap c:=by
        intro m
        induction m with
        | nil=>intro q;simp
        | cons z m ih=>
          intro q
          cases q with
          | zero=>simp
          | succ q=>
            rw [List.flatMap_cons,List.take_succ_cons,List.flatMap_cons,Nat.add_mul,Nat.one_mul,Nat.add_comm,List.take_append,List.take_of_length_le (by rw [hc];omega),hc]
            congr 1
            rw [Nat.add_sub_cancel_left,ih]
      refine W.po (v:=fC es (some ((m.take n.toNat).drop (0:Int).toNat)) id) (st':=st.set id (.cells ((m.take n.toNat).flatMap c))) ?_ (hk _ ?_)
      · simp only [aE,hx,fC,Option.map_some,hy,bound,hg]
        rw [if_pos (by omega)]
        simp only
        rw [if_pos ⟨trivial,trivial,hml m,by omega⟩,htk]
        simp [Nat.min_eq_left (show n.toNat≤m.length by omega)]
      rw [eO hL]
      have h2:=SH.set (o':=.cells ((m.take n.toNat).flatMap c)) hs hj
      have e:lC c id (some ((m.take n.toNat).drop (0:Int).toNat))=pt id (.cells ((m.take n.toNat).flatMap c)):=by simp [lC]
      rw [e];exact h2
    cases hw
theorem EU {α :Type} {c: α →List AV} {o o':Sl α} {u:Int} {v v': α} {id off n:Nat} {s s':List AV} (hs:SH st L) (j:Nat) (hp:(aR tm fr).x a= .ptr id off) (hj:L[j]? =some (lC c id o)) (hix:ix (ls o) u=some v) (ho':o'=dF o u v') (hl:LR (RP c o) off s s' (RP c o')) (hn:s.length=n) (hx:((aR tm fr).x x).cells=s') (hn':s'.length=n) (h1:s'.all AV.one=true)
  (hL:jT L j (lC c id o')=some L') (hk: ∀st,SH st L'→W X (.ops l::k) (aR tm fr) st):W X (.ops (⟨.none,.none,.plain (.store n a x)⟩::l)::k) (aR tm fr) st:=by
 obtain ⟨m,rfl⟩:=wv hix
 subst ho'
 exact W.o0 (CM hp (hs.g j hj) hl hn hx hn' h1) (hk _ (eO hL▸hs.set hj _))
end

section
variable {E:bA} {tm:Fr} {st:aA} {x i:AX} {L:List bU}
end
section
variable {X:Cx} {k:List KJ} {tm:Fr} {fr:List (Nat × AV)} {st:aA} {l:List bZ} {d:Nat} {L L' L1:List bU} {x y a:AX}
end
end Go.Proofs.YtcidnoghoifmmaaDoor.AW
end
section
namespace Go.Proofs.YtcidnoghoifmmaaDoor.AW
open Go

def sG (l:List bU):bU:=eX l
theorem SH.qX {st:aA} {l L:List bU} (h:SH st (sG l::L)):SH st (l++L):=eG.2 h
theorem SH.sG {st:aA} {l L:List bU} (h:SH st (l++L)):SH st (sG l::L):=eG.1 h
theorem SH.tail {st:aA} {P:bU} {L:List bU} (h:SH st (P::L)):SH st L:=by
 obtain ⟨a,b,h1,h2,h3,h4⟩:=h
 refine gD (fun i=>?_) (iu h3.symm h2)
 exact ((h4 i).trans (PH.or_comm h3 i)).symm
theorem SH.kill {st:aA} {id:Nat} {o:cz} {L:List bU} (h:SH st (pt id o::L)):SH (st.set id .dead) L:=(SH.set h (j:=0) rfl .dead).tail
theorem SH.Lm {st:aA} {id:Nat} {o:cz} {L:List bU} (h:SH st (pt id o::L)) (o':cz):SH (st.set id o') (pt id o'::L):=SH.set h (j:=0) rfl o'
theorem SH.Rl {st:aA} {id:Nat} {o:cz} {L:List bU} (h:SH st (pt id o::L)):st[id]? =some o:=SH.g h 0 rfl
def Rm (A:Nat→List bU):bU:=fun h=> ∃j,eX (A j) h
def Xd (A:Nat→Nat→List bU):bU:=fun h=> ∃j k,eX (A j k) h
theorem SH.fm {st:aA} {A:Nat→List bU} {L:List bU} (h:SH st (Rm A::L)): ∃j,SH st (A j++L):=by
 obtain ⟨a,b,⟨j,h1⟩,h2,h3,h4⟩:=h
 exact ⟨j,eG.2 ⟨a,b,h1,h2,h3,h4⟩⟩
theorem SH.UW {st:aA} {A:Nat→Nat→List bU} {L:List bU} (h:SH st (Xd A::L)): ∃j k,SH st (A j k++L):=by
 obtain ⟨a,b,⟨j,k,h1⟩,h2,h3,h4⟩:=h
 exact ⟨j,k,eG.2 ⟨a,b,h1,h2,h3,h4⟩⟩
theorem SH.eE {st:aA} {A:Nat→List bU} {L:List bU} (j:Nat) (h:SH st (A j++L)):SH st (Rm A::L):=by
 obtain ⟨a,b,h1,h2,h3,h4⟩:=eG.1 h
 exact ⟨a,b,⟨j,h1⟩,h2,h3,h4⟩
theorem SH.qo {st:aA} {A:Nat→Nat→List bU} {L:List bU} (j k:Nat) (h:SH st (A j k++L)):SH st (Xd A::L):=by
 obtain ⟨a,b,h1,h2,h3,h4⟩:=eG.1 h
 exact ⟨a,b,⟨j,k,h1⟩,h2,h3,h4⟩
theorem SH.sK {st:aA} {id:Nat} {cs:List AV} {L L':List bU} (hs:SH st L) (j:Nat) (hj:L[j]? =some (pt id (.cells cs))) {cs':List AV} (h:cs=cs') (hL:jT L j (pt id (.cells cs'))=some L'):SH st L':=by
 subst h
 have e:=eO hL
 have e2:L.set j (pt id (.cells cs))=L:=by
  refine List.ext_getElem? fun i=>?_
  by_cases e3:j=i
  ·subst e3;rw [List.getElem?_set_self (List.getElem?_eq_some_iff.1 hj).1,hj]
  rw [List.getElem?_set_ne e3]
 rw [e,e2];exact hs
def wm (tm:Fr):List Nat→List AV→Fr
 | [],_=>tm
 | _::_,[]=>tm
 | p::ps,v::vs=>wm (gS tm p v) ps vs

theorem yp {G:Gh} {N:Nat}: ∀ {ps:List Nat} {ds:List AV} {vs:List Value} {tm:Fr} {T:Array Value},(∀p∈ps,p<N)→aW G ds vs→T.size=N→(∀t,aU G (tm t) (T.getD t undef))→
    ((ps.zip vs).foldl (fun tmps (t,a)=>tmps.setIfInBounds t a) T).size=N∧ ∀t,aU G (wm tm ps ds t) (((ps.zip vs).foldl (fun tmps (t,a)=>tmps.setIfInBounds t a) T).getD t undef)
  | [],ds,vs,tm,T,_,_,hT,h=>⟨by simpa using hT,fun t=>by simpa [wm] using h t⟩
  | p::ps,[],vs,tm,T,_,hr,hT,h=>by
    simp only [aW] at hr
    subst hr
    exact ⟨by simpa using hT,fun t=>by simpa [wm] using h t⟩
  | p::ps,d::ds,vs,tm,T,hp,hr,hT,h=>by
    simp only [aW] at hr
    obtain ⟨u,us,rfl,h1,h2⟩:=hr
    simp only [List.zip_cons_cons,List.foldl_cons,wm]
    refine yp (fun q hq=>hp q (List.mem_cons_of_mem _ hq)) h2 (by simpa using hT) fun t=>?_
    have hlt:=hp p List.mem_cons_self
    by_cases e:p=t
    · subst e
      have e1:gS tm p d p=d:=by simp [gS]
      have e2:(T.setIfInBounds p u).getD p undef=u:=by simp [hT,hlt]
      rw [e1,e2];exact h1
    have e0:Nat.beq p t=false:=by cases h':Nat.beq p t with
      | false=>rfl
      | true=>exact absurd (Nat.eq_of_beq_eq_true h') e
    have e1:gS tm p d t=tm t:=by simp [gS,e0]
    have e2:(T.setIfInBounds p u).getD t undef=T.getD t undef:=by simp [Array.getElem?_setIfInBounds_ne e]
    rw [e1,e2];exact h t
def Xy:cn→LoopState
 | .normal=>.ready
 | _=>.done
def Xx:cn→Option Code
 | .normal=>none
 | .ret=>some .ret
 | .exit i=>some (.exit i)
def Xs:cn→Bool
 | .normal=>true
 | _=>false

def Wd (id N:Nat) (ps:List Nat) (ca cb:Code) (tm0:Fr) (K:AV→aA→Prop):cn→Fr→aA→Prop:=fun e _ st=>
 st[id]? =some (.loop N ps ca cb tm0 .busy none)∧K (.bool (Xs e)) (st.set id (.loop N ps ca cb tm0 (Xy e) (Xx e)))
def YC (P:Program) (E:bA) (id N:Nat) (mu:Nat→Bool) (ps:List Nat) (ca cb:Code) (tm0:Fr) (b:aC) (K:AV→aA→Prop):cn→Fr→aA→Prop
 | .normal,tm,st=>st[id]? =some (.loop N ps ca cb tm0 .ready none)∧XS P E N mu b (Wd id N ps ca cb tm0 K) tm (st.set id (.loop N ps ca cb tm0 .busy none))
 | _,_,_=>False

theorem RY {P:Program} {E:bA} {id N:Nat} {mu:Nat→Bool} {ps:List Nat} {ca cb:Code} {a b:aC} {tm0:Fr} {ds:List AV} {st:aA} {K:AV→aA→Prop}
  (hin:NJ mu=true) (hst:st[id]? =some (.loop N ps ca cb tm0 .ready none)) (hl:ds.length=ps.length) (hp: ∀p∈ps,p<N) (h1:bp P N mu ca=some a) (h2:bp P N mu cb=some b)
  (h:XS P E N mu a (YC P E id N mu ps ca cb tm0 b K) (wm tm0 ps ds) st):XYield P E id ds st K:=by
 intro G w vs hr hs
 have hid:id<G.slots.length:=by rw [hs.len];exact aD hst
 have hsl:G.slots[id]? =some G.slots[id]:=by simp [hid]
 have hob:=hs.obj id _ _ hst hsl
 generalize G.slots[id]=s at hob hsl
 cases s<;>simp only [bl] at hob
 rename_i l
 obtain ⟨⟨fn,T,D,k1,k2,k3⟩,k4⟩:=hob
 refine ⟨l,_,hsl,k1,by simp [aj hr,hl],?_⟩
 obtain ⟨q1,q2⟩:=yp hp hr k2 k3
 have hfold:((ps.toArray.zip vs.toArray).foldl (fun tmps (t,a)=>tmps.setIfInBounds t a) T)=(ps.zip vs).foldl (fun tmps (t,a)=>tmps.setIfInBounds t a) T:=by simp
 have noR:NJ mu=false→some l=none:=fun e=>by rw [hin] at e;cases e
 have hrel:Rel 0 N E G (wm tm0 ps ds) st {tmps:=(ps.toArray.zip vs.toArray).foldl (fun tmps (t,a)=>tmps.setIfInBounds t a) T,defers:=[]} w:=by
  rw [hfold]
  exact ⟨q1,Marks.nil G (Nat.zero_le _),q2,hs⟩
 refine roundIn_of_wpIn (F:=Fence.wide) trivial ?_
 refine wpIn_mono (F:=jW (some l)) (h ca h1 0 (some l) G _ w noR hrel) fun e a' w' ⟨x,tm',st',G',he,hr',hext,hq⟩=>?_
 rcases he.cases with ⟨rfl,rfl⟩ | ⟨i,rfl,rfl⟩ | ⟨rfl,rfl⟩
 ·obtain ⟨hst',hb⟩:=hq
  have hb':G'.slots[id]? =some (.box l):=by
   rcases hext.g.box _ _ hsl with h' | h'
   ·exact h'
   exact absurd (hr'.st.obj _ _ _ hst' h') (by simp [bl])
  obtain ⟨r,m1,m2,m3,m4,m5,m6,m7,m8,s1,e1⟩:=si (s':=.busy) (p':=none) hr'.st hst' hb'
  have erun:=run_beginRound (P:=P) m1 m2
  have ew:w'.putObj l (.loop {r with state:=.busy})=w'.putObj l (.loop {r with state:=.busy,pending:=none}):=by rw [←m3]
  refine ⟨_,erun,?_⟩
  rw [ew]
  have hrel2:Rel 0 N E _ tm' (st'.set id (.loop N ps ca cb tm0 .busy none)) a' (w'.putObj l (.loop {r with state:=.busy,pending:=none})):=⟨hr'.size,hr'.defers.ext e1,hr'.fr.mono e1.g,s1⟩
  refine wpIn_mono (F:=jW (some l)) (hb cb h2 0 (some l) _ a' _ noR hrel2) fun e2 a2 w2 ⟨x2,tm2,st2,G2,he2,hr2,hext2,hst2,hK⟩=>?_
  have hsl1:(G'.slots.set id (.box l))[id]? =some (.box l):=List.getElem?_set_self (aD hb')
  have hb2:G2.slots[id]? =some (.box l):=by
   rcases hext2.g.box _ _ hsl1 with h' | h'
   ·exact h'
   exact absurd (hr2.st.obj _ _ _ hst2 h') (by simp [bl])
  have fin: ∀(j:Option Code) (s:LoopState),s=(if j.isNone then LoopState.ready else .done)→K (.bool j.isNone) (st2.set id (.loop N ps ca cb tm0 s j))→
    ∃v w3,(Instr.endRound l j).run P w2= .ok v w3∧ ∃u x st' G',Ending.returned v= .returned u∧aU G' x u∧aG E G' st' w3∧Ext G w G' w3∧K x st':=by
   intro j s hs' hK'
   obtain ⟨r2,n1,n2,n3,n4,n5,n6,n7,n8,s3,e3⟩:=si (s':=s) (p':=j) hr2.st hst2 hb2
   subst hs'
   exact ⟨_,_,run_endRound j n1,_,_,_,_,rfl,by simp only [aU],s3,hext.trans (e1.trans (hext2.trans e3)),hK'⟩
  rcases he2.cases with ⟨rfl,rfl⟩ | ⟨i,rfl,rfl⟩ | ⟨rfl,rfl⟩
  ·exact fin none .ready rfl hK
  ·exact fin (some (.exit i)) .done rfl hK
  exact fin (some .ret) .done rfl hK
 ·exact hq.elim
 exact hq.elim
def cR (P:Program) (E:bA) (N:Nat) (mu:List Nat) (fin:cn→Fr→aA→Prop):Cx:=⟨P,E,N,mW (dQ mu),[],fun _ _=>True,fin⟩
theorem WV {P:Program} {E:bA} {id N:Nat} {mu:List Nat} {ps:List Nat} {ca cb:Code} {a b:aC} {tm0:Fr} {ds:List AV} {st:aA} {L:List bU} {K:AV→aA→Prop}
  (h1:bp P N (mW (dQ mu)) ca=some a) (h2:bp P N (mW (dQ mu)) cb=some b) (hs:SH st (pt id (.loop N ps ca cb tm0 .ready none)::L)) (hl:Nat.beq ds.length ps.length=true) (hp:ps.all (fun p=>Nat.blt p N)=true)
  (ha: ∀st,SH st (pt id (.loop N ps ca cb tm0 .busy none)::L)→True)
  (h:W (cR P E N mu (YC P E id N (mW (dQ mu)) ps ca cb tm0 b K)) [.code a] (wm tm0 ps ds) st):XYield P E id ds st K:=by
 refine RY (LO _) hs.Rl (Nat.eq_of_beq_eq_true hl) (fun p hp'=>?_) h1 h2 (W.code.1 h)
 have:=List.all_eq_true.1 hp p hp'
 exact Nat.le_of_ble_eq_true this
theorem We {P:Program} {E:bA} {id N:Nat} {mu:List Nat} {ps:List Nat} {ca cb:Code} {b:aC} {tm tm0:Fr} {st:aA} {L:List bU} {K:AV→aA→Prop}
  (hs:SH st (pt id (.loop N ps ca cb tm0 .ready none)::L))
  (h: ∀st,SH st (pt id (.loop N ps ca cb tm0 .busy none)::L)→W (cR P E N mu (Wd id N ps ca cb tm0 K)) [.code b] tm st):W (cR P E N mu (YC P E id N (mW (dQ mu)) ps ca cb tm0 b K)) [] tm st:=
 ⟨hs.Rl,W.code.1 (h _ (hs.Lm _))⟩
theorem Lh {P:Program} {E:bA} {id N:Nat} {mu:List Nat} {ps:List Nat} {ca cb:Code} {tm tm0:Fr} {st:aA} {L:List bU} {K:AV→aA→Prop}
  (hs:SH st (pt id (.loop N ps ca cb tm0 .busy none)::L)) (hK: ∀st,SH st (pt id (.loop N ps ca cb tm0 .ready none)::L)→K (.bool true) st):W (cR P E N mu (Wd id N ps ca cb tm0 K)) [] tm st:=
 ⟨hs.Rl,hK _ (hs.Lm _)⟩
theorem Zx {P:Program} {E:bA} {id N:Nat} {mu:List Nat} {ps:List Nat} {ca cb:Code} {tm tm0:Fr} {st:aA} {L:List bU} {K:AV→aA→Prop} {k:List KJ}
  (hs:SH st (pt id (.loop N ps ca cb tm0 .busy none)::L)) (hK: ∀st,SH st (pt id (.loop N ps ca cb tm0 .done (some .ret))::L)→K (.bool false) st):W (cR P E N mu (Wd id N ps ca cb tm0 K)) (.code .ret::k) tm st:=
 Vm ⟨hs.Rl,hK _ (hs.Lm _)⟩
instance (cs:List AV) [h:gT cs]:iQ (.aQ cs):=⟨⟨by simp only [AV.data];exact h.h.1,by simp only [AV.strip];rw [h.h.2]⟩⟩
instance (f:FuncId) (cs:List AV) [h:gT cs]:iQ (.fn f cs):=⟨⟨by simp only [AV.data];exact h.h.1,by simp only [AV.strip];rw [h.h.2]⟩⟩
instance:iQ .cQ:=⟨⟨rfl,rfl⟩⟩
def rF:Nat→LoopState
 | 0=>.ready
 | _+1=>.done
def qu:List Code→Nat→Option Code
 | _,0=>none
 | [],_+1=>none
 | c::_,1=>some c
 | _::l,n+2=>qu l (n+1)
theorem ni {p:Prop} [Decidable p] {α :Type} {A B:Option α} {r: α} {Q:Prop} (hF:(if p then A else B)=some r) (h1:p→A=some r→Q) (h2: ¬p→B=some r→Q):Q:=by
 by_cases h:p
 ·rw [if_pos h] at hF;exact h1 h hF
 rw [if_neg h] at hF;exact h2 h hF
theorem Cj {tm:Fr} {l:List (Nat × AV)} (hf:dH tm l) (p:Nat) (v:AV):wm tm [p] [v]=aR tm ((p,v)::l):=by
 show gS tm p v=gS (aR tm l) p v
 rw [dH.eq hf]
section
variable {X:Cx} {k:List KJ} {tm:Fr} {fr:List (Nat × AV)} {st:aA} {l:List bZ} {d:Nat} {x y i a:AX} {L L':List bU}

def XM (X:Cx) (k:List KJ) (tm:Fr) (id:Nat) (ps:List Nat) (ca cb:Code) (st:aA):Prop:=
 ∃s p,st[id]? =some (.loop X.N ps ca cb tm s p)∧s≠ .busy∧(match p with
  | none=>wQ X k .normal tm (st.set id .dead)
  | some .ret=>wQ X k .ret tm (st.set id .dead)
  | some (.exit i)=>wQ X k (.exit i) tm (st.set id .dead)
  | _=>False)
theorem Wg {id:Nat} {ps:List Nat} {ca cb:Code} {s:LoopState} (hs:SH st (pt id (.loop X.N ps ca cb tm s none)::L)) (hb:s≠ .busy) (h: ∀st,SH st L→W X k tm st):XM X k tm id ps ca cb st:=⟨s,none,hs.Rl,hb,h _ hs.kill⟩
theorem rgR {id:Nat} {ps:List Nat} {ca cb:Code} {s:LoopState} (hX: ∀tm st,X.fin .normal tm st=X.fin .ret tm st) (hs:SH st (pt id (.loop X.N ps ca cb tm s (some .ret))::L)) (hb:s≠ .busy) (h: ∀st,SH st L→W X [] tm st):XM X k tm id ps ca cb st:=
 ⟨s,some .ret,hs.Rl,hb,by
  show wQ X k .ret tm _
  rw [qB,←hX]
  exact h _ hs.kill⟩
theorem rg {N:Nat} {z:AX} {ps:List Nat} {a b:aC} {f:FuncId} {caps:List AV} (hN:X.N=N) (hs:SH st L) (hz:(aR tm fr).x z= .fn f caps) (hc:eH X.P f=true)
  (h: ∀(ca cb:Code) (st:aA) (id:Nat),bp X.P X.N (mW X.mu) ca=some a→bp X.P X.N (mW X.mu) cb=some b→SH st (pt id (.loop N ps ca cb (aR tm fr) .ready none)::L)→XCall X.P X.E f (.nR id::caps) st fun _ st=>XM X k (aR tm fr) id ps ca cb st):W X (.code (.range z ps a b)::k) (aR tm fr) st:=by
 subst hN
 rw [W.code]
 refine XS.of ?_
 simp only [eL,hz]
 refine ⟨hc,fun ca cb h1 h2=>(h ca cb _ _ h1 h2 (hs.push _)).mono fun v st' ⟨s,p,q1,q2,q3⟩=>⟨s,p,q1,q2,?_⟩⟩
 cases p with
 | none=>exact q3
 | some c=>cases c<;>exact q3
theorem so {id off:Nat} {cs cs':List AV} {v:AV} (hs:SH st L) (j:Nat) (hp:(aR tm fr).x a= .ptr id off) (hj:L[j]? =some (pt id (.cells cs))) (hx:(aR tm fr).x x=v) (hv:v.cells=[v]∧v.one=true) (hb:Nat.ble (off+1) cs.length=true) (hc:cs.take off++[v]++cs.drop (off+1)=cs')
  (hL:jT L j (pt id (.cells cs'))=some L') (hk: ∀st,SH st L'→W X (.ops l::k) (aR tm fr) st):W X (.ops (⟨.none,.none,.plain (.store 1 a x)⟩::l)::k) (aR tm fr) st:=by
 refine sr hs j hp hj ?_ (by rw [hx,hv.1];exact hc) hL hk
 rw [hx]
 simp only [Jl,hv.1,List.all_cons,hv.2,List.all_nil,Bool.and_true,hb]
 rfl
theorem Cn {α :Type} {es:Nat} {o:Sl α} {id:Nat}:(fC es o id).cells=[fC es o id]∧(fC es o id).one=true:=by cases o<;>exact ⟨rfl,rfl⟩
theorem tH {α :Type} {es:Nat} {f: α →AV} {o:Sl α} {id:Nat}:(br es f o id).cells=[br es f o id]∧(br es f o id).one=true:=by cases o<;>exact ⟨rfl,rfl⟩
theorem cy {f:AX} {id:Nat} {xs:List AX} {ds:List AV} (hf:(aR tm fr).x f= .nR id) (ha:xs.map (aR tm fr).x=ds) (h:XYield X.P X.E id ds st fun v st=>W X (.ops l::k) (aR tm ((d,v)::fr)) st):W X (.ops (⟨.some d,.none,.fH f xs⟩::l)::k) (aR tm fr) st:=by
 subst ha
 rw [W.ops,nP,hf,Kg]
 refine h.mono fun v st' hw=>?_
 rw [dZ];exact W.ops.1 hw
theorem WX {f:AX} {g:FuncId} {caps:List AV} {xs:List AX} {ds:List AV} {v:AV} (hf:(aR tm fr).x f= .fn g caps) (hc:eH X.P g=true) (h:DFun X.P X.E g ds v) [hd:gT ds] (ha:xs.map (aR tm fr).x++caps=ds) (hk:W X (.ops l::k) (aR tm ((d,v)::fr)) st):W X (.ops (⟨.some d,.none,.fH f xs⟩::l)::k) (aR tm fr) st:=by
 rw [W.ops] at hk ⊢
 rw [nP,hf,QC]
 exact ⟨hc,Jr h (by rw [ha];exact hd.h.1) (by rw [ha];exact hd.h.2) (by rw [dZ];exact hk)⟩
theorem aY {E:bA} {n:Nat} {cs:List AV} (h:(tm.x x).cells=cs) (hn:Nat.beq cs.length n=true) (h1:cs.all AV.one=true):aE E tm st (.DW n x)=some (.aQ cs,st):=by
 subst h
 simp only [aE]
 rw [if_pos ⟨Nat.eq_of_beq_eq_true hn,h1⟩]
end

theorem wG {α :Type} {E:bA} {tm:Fr} {st:aA} {es len:Nat} {ag:Bool} {zero:List AV} {parts:List (Nat × Nat × AX)} {ps:List (Nat × List AV)} {f: α →AV} {c: α →List AV} (m:List α)
  (hp:bY (len*es) parts tm=some ps) (hps:ps=Vh es 0 (m.map c)) (hz:zero.length=es) (hc: ∀x,(c x).length=es) (h1: ∀x,(c x).all AV.one=true) (hf: ∀x,cC ag (c x)=f x) (hl:m.length=len):aE E tm st (.uJ es len ag zero parts)=some (cg es f (some m),st):=by
 subst hl
 have e1:av (cJ zero m.length) ps=m.flatMap c:=by
  have:=yN hz (m.map c) [] (by intro y hy;obtain ⟨x,_,rfl⟩:=List.mem_map.1 hy;exact hc x)
  rw [List.length_map] at this
  rw [hps]
  simpa [List.flatMap_def] using this
 simp only [aE,hp]
 have e2:(m.flatMap c).all AV.one=true:=by
  simp only [List.all_flatMap]
  exact List.all_eq_true.2 fun z _=>h1 z
 rw [e1,if_pos e2,lJ hc hf m]
 rfl
theorem IX {E:bA} {G:Gh} {st:aA} {w:World} {id1 id2 off es:Nat} {cs:List AV} {α :Type} {c: α →List AV} {g: α →AV} {l:List α} (hs:aG E G st w) (h1:st[id1]? =some (.cells cs)) (hk:cs[off]? =some (.row id2 es 0 l.length)) (h2:st[id2]? =some (.cells (l.flatMap c)))
  (hes:0<es) (hc: ∀x,(c x).length=es) (ha: ∀x,(c x).all AV.one=true) (hf: ∀x,cC (!(es==1)) (c x)=g x) (hg: ∀x,DS (g x) (g x)) (hne:id1≠id2):
  ∃G',aG E G' ((st.set id2 cz.dead++[cz.tail l.length]).set id1 (.cells (cs.set off (cg es g (some l))))) w∧Ext G w G' w:=by
 have hid1:id1<G.slots.length:=by rw [hs.len];exact aD h1
 have hsl:G.slots[id1]? =some G.slots[id1]:=by simp [hid1]
 have hob:=hs.obj id1 _ _ h1 hsl
 generalize G.slots[id1]=s at hob hsl
 cases s<;>simp only [bl] at hob
 rename_i b
 obtain ⟨⟨arr,e,fz,p1,p2,p3,p4⟩,p5⟩:=hob
 obtain ⟨u,hu,hru⟩:=fP p3 off _ hk
 have hl:(l.flatMap c).length=l.length*es:=sU hc l
 have hall:(l.flatMap c).all AV.one=true:=by
  simp only [List.all_flatMap];exact List.all_eq_true.2 fun z _=>ha z
 obtain ⟨G2,s2,x2,r2⟩:=sV hs hru h2 hl hes hall
 have e2:(chunks es l.length (l.flatMap c)).map (cC (!(es==1)))=l.map g:=lJ hc hf l
 rw [e2] at r2
 have hd:DS (.sl es (l.map g) (some st.length)) (cg es g (some l)):=Ml hg (.inr ⟨l,some st.length,rfl,rfl⟩)
 have r3:=fU (G:=G2) (G':=G2) (fun _ _ _ h=>h) hd.1 r2
 rw [hd.2] at r3
 have hst1:(st.set id2 cz.dead++[cz.tail l.length])[id1]? =some (.cells cs):=by
  rw [List.getElem?_append_left (by rw [List.length_set];exact aD h1),List.getElem?_set_ne hne.symm];exact h1
 have hb2:G2.slots[id1]? =some (.box b):=by
  rcases x2.g.box _ _ hsl with h' | h'
  ·exact h'
  exact absurd (s2.obj _ _ _ hst1 h') (by simp [bl])
 refine ⟨G2,JX s2 hb2 ?_,x2⟩
 obtain ⟨⟨arr',e',fz',q1,q2,q3,q4⟩,q5⟩:=s2.obj _ _ _ hst1 hb2
 rw [p1] at q1;cases q1
 refine ⟨⟨arr,e,fz,p1,by simpa using p2,?_,p4⟩,q5⟩
 have:=JY off q3 r3
 rw [List.length_set]
 have e3:(arr.toList.take cs.length).set off u=arr.toList.take cs.length:=by
  refine List.ext_getElem? fun i=>?_
  by_cases e:off=i
  ·subst e;rw [List.getElem?_set_self (aD hu),hu]
  rw [List.getElem?_set_ne e]
 rw [e3] at this;exact this
theorem XS.same {P:Program} {E:bA} {N:Nat} {mu:Nat→Bool} {b:aC} {Q:cn→Fr→aA→Prop} {tm:Fr} {st st':aA} (hs: ∀G w,aG E G st w→ ∃G',aG E G' st' w∧Ext G w G' w) (h:XS P E N mu b Q tm st'):XS P E N mu b Q tm st:=fun c hc B ro G a w hro hr=>by
 obtain ⟨G',s',x'⟩:=hs G w hr.st
 exact wpIn_mono (h c hc B ro G' a w hro (hr.ext x' s')) fun e a' w' ⟨x,tm',st2,G2,q1,q2,q3,q4⟩=>⟨x,tm',st2,G2,q1,q2,x'.trans q3,q4⟩
theorem Xo {X:Cx} {k:List KJ} {tm:Fr} {st:aA} {x:aC} {L:List bU} {id1 id2 off es:Nat} {cs cs':List AV} {α :Type} {c: α →List AV} {g: α →AV} [hg:qz g] {o:Sl α} (hs:SH st (pt id1 (.cells cs)::lC c id2 o::L)) (hk:cs[off]? =some (fC es o id2)) (hc':cs.set off (cg es g o)=cs')
    (hes:Nat.ble 1 es=true) (hc: ∀x,(c x).length=es) (h1: ∀x,(c x).all AV.one=true) (hf: ∀x,cC (!(es==1)) (c x)=g x) (h: ∀st,SH st (pt id1 (.cells cs')::L)→W X (.code x::k) tm st):W X (.code x::k) tm st:=by
  subst hc'
  cases o with
  | none=>
    refine h st ?_
    have e:cs.set off (cg es g none)=cs:=by
      refine List.ext_getElem? fun i=>?_
      by_cases e:off=i
      · subst e;rw [List.getElem?_set_self (aD hk),hk];rfl
      rw [List.getElem?_set_ne e]
    rw [e]
    obtain ⟨a,b,q1,⟨a',b',q2,q3,q4,q5⟩,q6,q7⟩:=hs
    refine ⟨a,b,q1,?_,q6,q7⟩
    refine gD (fun i=>?_) q3
    rw [q5 i,PH.iA (q2 i)]
  | some l=>
    have hne:id1≠id2:=by
      obtain ⟨a,b,q1,⟨a',b',q2,q3,q4,q5⟩,q6,q7⟩:=hs
      intro e
      subst e
      have e1:a id1=some (.cells cs):=by rw [q1 id1,if_pos rfl]
      have e2:b id1=some (.cells (l.flatMap c)):=by rw [q5 id1];exact PH.lB (by rw [q2 id1,if_pos rfl])
      rcases q6 id1 with e3 | e3
      · rw [e1] at e3;cases e3
      rw [e2] at e3;cases e3
    have g1:st[id1]? =some (.cells cs):=hs.g 0 rfl
    have g2:st[id2]? =some (.cells (l.flatMap c)):=hs.g 1 rfl
    have hlt1:=aD g1
    have h3:SH (st.set id2 cz.dead) (pt id1 (.cells cs)::L):=by
      have:=SH.set hs (j:=1) (id:=id2) rfl .dead
      exact this.p 2 [0] rfl
    have h4:SH (st.set id2 cz.dead++[cz.tail l.length]) (pt id1 (.cells cs)::L):=(h3.push (.tail l.length)).tail
    have h5:=h4.Lm (.cells (cs.set off (cg es g (some l))))
    have h6:=h _ h5
    rw [W.code] at h6 ⊢
    exact XS.same (fun G w hr=>IX hr g1 hk g2 (Nat.le_of_ble_eq_true hes) hc h1 hf hg.h hne) h6
theorem yE {E:bA} {tm:Fr} {st:aA} {x:AX} {id o off:Nat} (hp:tm.x x= .ptr id o) (ho:st[id]? =some .hid):aE E tm st (.jK off x)=some (.ptr id (o+off),st):=by
 simp only [aE,hp,alive,ho,if_true]
theorem oA {E:bA} {tm:Fr} {st:aA} {x i:AX} {len:Nat} {k:IntKind} {n:Int} {m:Nat} {cs:List AV} {v:AV} (hx:tm.x x= .agg cs) (hi:tm.x i= .int k n) (hn:n=(m:Int)) (hm:Nat.blt m len=true) (hc:cs[m]? =some v):aE E tm st (.Aq len 1 x i)=some (v,st):=by
 subst hn
 refine Qk hx hi ⟨Int.natCast_nonneg _,by exact_mod_cast Nat.le_of_ble_eq_true hm⟩ ?_
 have hlt:=(List.getElem?_eq_some_iff.1 hc).1
 refine ⟨cs.take m,cs.drop (m+1),?_,?_,by simp;omega⟩<;>
 ·have e:cs[m]=v:=(List.getElem?_eq_some_iff.1 hc).2
  rw [←e]
  simp
end Go.Proofs.YtcidnoghoifmmaaDoor.AW
end
section
namespace Go.Proofs.YtcidnoghoifmmaaDoor.AW
open Go Go.RowKit Go.WideShapes Go.ChangeShapes Go.Deep
structure vj {H:Type} {α :Type} (n:Nat) (enc:TypeId × Value→H) (P:Program) (W:World) (base:Nat) (t:TypeId) (c: α →List AV) (ok: α →Prop) (bk: α →Nat):Prop where
 rd: ∀ {fuel:Nat} {cs:List Value} {x:DataW H × List MemPlace},fuel≤n→DataW.trod enc P W base (fun _=>true) true fuel t cs=some x→
  ∃a,aW (G0 W) (c a) cs∧(∀u∈cs,u.oneCell'=true)∧ok a∧bk a≤Rows.uptoBulk x.1
section
variable {H:Type} {enc:TypeId × Value→H} {P:Program} {W:World} {base:Nat} {t:TypeId} {n:Nat}
theorem vj.all {α :Type} {c: α →List AV} {ok: α →Prop} {bk: α →Nat} (h: ∀n,vj n enc P W base t c ok bk):HJ enc P W base t c ok bk:=⟨fun {fuel cs x} e=>(h fuel).rd (Nat.le_refl _) e⟩
theorem HJ.fu {α :Type} {c: α →List AV} {ok: α →Prop} {bk: α →Nat} (h:HJ enc P W base t c ok bk):vj n enc P W base t c ok bk:=⟨fun _ e=>h.rd e⟩
theorem Wf {k:IntKind} (ht:P.underlying t=some (.int k)):vj n enc P W base t (cI k) (RK k) Kr:=(rdI ht).fu
def Zq {n:Nat} (k:IntKind) (a:an n Int):Prop:= ∀y∈a.l,RK k y
theorem Hg (d:DataW H):1≤Rows.uptoBulk d:=by
 cases d with
 | lit l=>cases l<;>simp [Rows.uptoBulk]
 | nil=>simp [Rows.uptoBulk]
 | ptr d=>simp [Rows.uptoBulk]
 | slice elems spare=>simp [Rows.uptoBulk]
 | agg parts=>simp [Rows.uptoBulk]
 | iface t d=>simp [Rows.uptoBulk]
 | map entries=>simp [Rows.uptoBulk]
 | held h=>simp [Rows.uptoBulk]
theorem rfA {e:TypeId} {m:Nat} {k:IntKind} {c:an m Int→List AV} (hc': ∀a,c a=cA (cI k) a) (ht:P.underlying t=some (.array m e)) (he:P.underlying e=some (.int k)) (hc:P.cellsOf e=1) (hct:P.cellsOf t=m):vj n enc P W base t c (Zq k) Kr:=⟨fun {fuel cs x} _ h=>by
 obtain ⟨l,hl,rfl,hw⟩:=JM ht he hc hct h
 refine ⟨⟨l,hl⟩,?_,?_,hw,Hg _⟩
 ·rw [hc'];exact vH k l
 intro u hu
 obtain ⟨z,_,rfl⟩:=List.mem_map.1 hu
 rfl⟩
theorem YF {α :Type} {e:TypeId} {es:Nat} {c: α →List AV} {ok: α →Prop} {bk: α →Nat} {f: α →AV} (ht:P.underlying t=some (.slice e)) (hc:P.cellsOf e=es) (hes:0<es)
  (re:vj n enc P W base e c ok bk) (hf: ∀a us,aW (G0 W) (c a) us→us.length=es→ ∃u:Value,aU (G0 W) (f a) u∧u.cells.toList=us):vj (n+1) enc P W base t (fF es f) (fun o=> ∀x∈ls o,ok x) (Ks bk):=⟨fun {fuel cs x} hle hfu=>by
 rcases DataW.trod_slice ht hfu with ⟨hcs,hx⟩ | ⟨a,len,cap,elems,rest,n0,hfuel,hcs,hd,hb,hl,hcm,hlen,hel,hsp0,_⟩
 ·subst hcs
  cases hx
  exact ⟨none,by simp only [fF,cg,aW,aU];exact ⟨_,_,rfl,rfl,rfl⟩,by simp [Value.oneCell'],fun _ h=>by simp [ls] at h,by simp [Ks,ls,Rows.uptoBulk]⟩
 subst hcs
 cases hd
 obtain ⟨b,off,spot⟩:=a
 have hspot:spot=none∨cap=0:=by
  by_cases hcap:cap=0
  ·exact .inr hcap
  left
  have h0: ∃y,(W.cells? base ((⟨b,off,spot⟩:Addr).add (0*P.cellsOf e)) (P.cellsOf e)).bind (DataW.trod enc P W base (fun _=>true) true n0 e)=some y:=by
   by_cases hl0:0<len
   ·have:=hel 0 hl0
    rw [this]
    exact ⟨elems[0]'(by omega),by simp⟩
   obtain ⟨hr1,hr2⟩:=hsp0 rfl
   have:=hr2 0 (by omega)
   have e0:len+0=0:=by omega
   rw [e0] at this
   rw [this]
   exact ⟨rest[0]'(by omega),by simp⟩
  obtain ⟨y,hy⟩:=h0
  obtain ⟨cs',h1,_⟩:=Option.bind_eq_some_iff.1 hy
  obtain ⟨_,hlen',hce⟩:=World.cells?_some h1
  have:=hce 0 (by omega)
  have h2:(((⟨b,off,spot⟩:Addr).add (0*P.cellsOf e)).add 0)=⟨b,off,spot⟩:=by simp [Addr.add]
  rw [h2] at this
  have h3:cs'[0]? =some (cs'[0]'(by omega)):=by simp
  rw [h3] at this
  exact World.cell?_spot this
 obtain ⟨l,hll,hq⟩:=CP (Q:=fun i (y: α)=> ∃us:List Value,aW (G0 W) (c y) us∧us.length=es∧(∀j z,us[j]? =some z→M0 W b (off+i*es+j)=some z)∧ok y∧bk y≤Rows.uptoBulk ((elems.getD i (.nil,[])).1)) len fun i hi=>by
  have hcap: ¬cap=0:=by omega
  obtain rfl:spot=none:=hspot.resolve_right hcap
  have h0:=hel i hi
  have h3:elems[i]? =some (elems[i]'(by omega)):=by simp
  rw [h3] at h0
  obtain ⟨cs',h1,h2⟩:=Option.bind_eq_some_iff.1 h0
  rw [hc] at h1
  obtain ⟨_,hlen',hce⟩:=World.cells?_some h1
  obtain ⟨y,y1,y2,y3,y4⟩:=re.rd (by omega) h2
  refine ⟨y,cs',y1,hlen',fun j z hz=>?_,y3,by simpa [List.getD,h3] using y4⟩
  have hj:j<es:=by have:=aD hz;omega
  have:=hce j hj
  rw [hz] at this
  have e2:((⟨b,off,none⟩:Addr).add (i*es)).add j=⟨b,off+i*es+j,none⟩:=by rw [fG,fG]
  rw [e2] at this
  exact Bp this (y2 z (List.mem_of_getElem? hz))
 refine ⟨some l,?_,by simp [Value.oneCell'],?_,?_⟩
 ·have hr:aU (G0 W) (cg es f (some l)) (.slice (some ⟨b,off,spot⟩) len cap):=by
   simp only [cg,aU]
   refine ⟨b,off,cap,vI l off fun i y hy=>?_,by simp;omega,trivial,spot,hspot.imp_right fun h=>⟨h,trivial⟩,by simp;omega⟩
   obtain ⟨us,u1,u2,u3,_,_⟩:=hq i y hy
   obtain ⟨u,w1,w2⟩:=hf y us u1 u2
   refine ⟨u,w1,by have:=congrArg List.length w2;simpa [u2] using this,fun j z hz=>u3 j z ?_⟩
   rw [←w2];simpa using hz
  simp only [fF]
  exact iM hr jj
 ·intro y hy
  obtain ⟨i,hi⟩:=List.getElem?_of_mem hy
  obtain ⟨_,_,_,_,h4,_⟩:=hq i y hi
  exact h4
 have:=Jo (bk:=bk) (D:=fun i=>(elems.getD i (.nil,[])).1) l 0 fun i y hy=>by
  obtain ⟨_,_,_,_,_,h5⟩:=hq i y hy
  simpa using h5
 have e3:(List.range l.length).map (fun i=>(elems.getD (0+i) (.nil,[])).1)=elems.map (·.1):=by
  apply List.ext_getElem?
  intro i
  simp only [List.getElem?_map,hll,Nat.zero_add]
  by_cases hi:i<len
  ·rw [List.getElem?_range hi]
   have h3:elems[i]? =some (elems[i]'(by omega)):=by simp
   simp [List.getD,h3]
  rw [List.getElem?_eq_none (by simp;omega),List.getElem?_eq_none (by omega)]
  rfl
 rw [e3] at this
 simp only [Ks,ls,Option.getD_some,Rows.uptoBulk]
 omega⟩
structure WO {γ :Type} (n:Nat) (enc:TypeId × Value→H) (P:Program) (W:World) (base:Nat) (fs:Array Field) (i o m:Nat) (c: γ →List AV) (ok: γ →Prop) (bk: γ →Nat):Prop where
 rd: ∀ {n0:Nat} {cs:List Value} {xs:List (DataW H × List MemPlace)},n0≤n→cs.length=m→xs.length=fs.size→(∀(i:Nat) (f:Field),fs[i]? =some f→DataW.trod enc P W base (fun _=>true) true n0 f.type ((cs.drop f.offset).take (P.cellsOf f.type))=xs[i]?)→
  ∃a,aW (G0 W) (c a) (cs.drop o)∧(∀u∈cs.drop o,u.oneCell'=true)∧ok a∧bk a≤Rows.uptoBulkAll ((xs.drop i).map (·.1))
theorem Vn {fs:Array Field} {m i:Nat}:WO n enc P W base fs i m m (fun _:Unit=>[]) (fun _=>True) (fun _=>0):=⟨fun _ hl _ _=>⟨(),by rw [List.drop_of_length_le (by omega)];exact jj,by rw [List.drop_of_length_le (by omega)];simp,trivial,Nat.zero_le _⟩⟩
theorem pn {fs:Array Field} {m i o o':Nat} {f:Field} {α γ :Type} {c: α →List AV} {ok: α →Prop} {bk: α →Nat} {c': γ →List AV} {ok': γ →Prop} {bk': γ →Nat} (hf:fs[i]? =some f) (ho:f.offset=o) (ho':o+P.cellsOf f.type=o')
  (h:vj n enc P W base f.type c ok bk) (h':WO n enc P W base fs (i+1) o' m c' ok' bk'):WO n enc P W base fs i o m (fun a: α × γ =>c a.1++c' a.2) (fun a=>ok a.1∧ok' a.2) (fun a=>bk a.1+bk' a.2):=⟨fun {n0 cs xs} hn hl hx each=>by
 have hi:i<fs.size:=(Array.getElem?_eq_some_iff.1 hf).1
 have h0:=each i f hf
 have hxi:xs[i]? =some (xs[i]'(by omega)):=by simp
 rw [hxi,ho] at h0
 obtain ⟨a,a1,a2,a3,a4⟩:=h.rd hn h0
 obtain ⟨b,b1,b2,b3,b4⟩:=h'.rd hn hl hx each
 have e:cs.drop o=(cs.drop o).take (P.cellsOf f.type)++cs.drop o':=by
  rw [←ho',←List.drop_drop,List.take_append_drop]
 refine ⟨(a,b),?_,?_,⟨a3,b3⟩,?_⟩
 ·rw [e];exact dX a1 b1
 ·intro u hu
  rw [e] at hu
  rcases List.mem_append.1 hu with k | k
  ·exact a2 u k
  exact b2 u k
 have e2:xs.drop i=xs[i]'(by omega)::xs.drop (i+1):=List.drop_eq_getElem_cons (by omega)
 rw [e2,List.map_cons,Rows.uptoBulkAll]
 exact Nat.add_le_add a4 b4⟩
theorem rfT {fs:Array Field} {m:Nat} {γ δ :Type} {c: γ →List AV} {ok: γ →Prop} {bk: γ →Nat} {c': δ →List AV} {ok': δ →Prop} {bk': δ →Nat} (mk: γ → δ) (ht:P.underlying t=some (.struct fs)) (hm:P.cellsOf t=m) (h:WO n enc P W base fs 0 0 m c ok bk)
  (hc: ∀a,c' (mk a)=c a) (hok: ∀a,ok a→ok' (mk a)) (hbk: ∀a,bk' (mk a)≤bk a+1):vj (n+1) enc P W base t c' ok' bk':=⟨fun {fuel cs x} hle hfu=>by
 obtain ⟨xs,n0,hfuel,rfl,hlen,hxl,each⟩:=DataW.trod_struct ht hfu
 obtain ⟨a,a1,a2,a3,a4⟩:=h.rd (by omega) (by omega) hxl each
 rw [List.drop_zero] at a1 a2
 rw [List.drop_zero] at a4
 refine ⟨mk a,by rw [hc];exact a1,a2,hok a a3,?_⟩
 have:=hbk a
 simp only [Rows.uptoBulk]
 omega⟩
theorem vj.mono {α :Type} {c: α →List AV} {ok: α →Prop} {bk: α →Nat} {m:Nat} (h:vj n enc P W base t c ok bk) (hm:m≤n):vj m enc P W base t c ok bk:=⟨fun hle e=>h.rd (Nat.le_trans hle hm) e⟩
theorem Bx {α :Type} {c: α →List AV} {ok: α →Prop} {bk: α →Nat} {v:Value} {d:DataW H} {ps:List MemPlace} (hv: ∃cs,v= .agg cs) (re:HJ enc P W base t c ok bk) (h:DataW.Trod enc P W base (fun _=>true) true t v d ps):
  ∃a,aU (G0 W) (.agg (c a)) v∧ok a∧bk a≤Rows.uptoBulk d:=by
 obtain ⟨cs,rfl⟩:=hv
 obtain ⟨fuel,hfu⟩:=h
 obtain ⟨a,h1,h2,h3,h4⟩:=re.rd hfu
 refine ⟨a,?_,h3,h4⟩
 simp only [aU]
 exact ⟨cs.toList,h1,by simp⟩
theorem vB {t:TypeId} {fs:Array Field} {r:Reach} {b0:Nat} {v:Value} (ht:P.underlying t=some (.struct fs)) (hval:Value.okWide P W r b0 t v): ∃cs,v= .agg cs:=by
 simp only [Value.okWide,ht] at hval
 obtain ⟨cs,h,_⟩:=hval
 exact ⟨cs,h⟩
end
end Go.Proofs.YtcidnoghoifmmaaDoor.AW
end
section
namespace Go.Proofs.YtcidnoghoifmmaaDoor.AW
open Go Go.RowKit

def nK (T id:Nat) (o:Sl Int):bU:=match o with
 | none=>emp
 | some l=>pt id (.tail l.length (some T))
def bo (s:aZ):Sl Int:=match s with
 | []=>none
 | b::s=>some (ig (b::s))
theorem Va (s:aZ):ls (bo s)=ig s:=by cases s<;>rfl
theorem Lj (s t:aZ):bW (bo s) (ig t)=bo (s++t):=by
 cases s with
 | nil=>cases t<;>rfl
 | cons b s=>simp [bo,bW,ls,ig]
def uH (id:Nat) (s:aZ) (idt:Nat):List AV:=[.ptr id 0,br 1 (AV.int .u8) (bo s) idt]
def uI (T id:Nat) (s:aZ):bU:=fun h=> ∃idt,eX [pt id (.cells (uH id s idt)),nK T idt (bo s)] h
def iT (TB T id:Nat) (s:aZ):bU:=fun h=>(s=[]∧pt id (.cells [.pS id TB 2,.aP]) h)∨uI T id s h

theorem SH.open_ {st:aA} {L:List bU} {ι :Type} {Q: ι →List bU} (hs:SH st ((fun h=> ∃i,eX (Q i) h)::L)): ∃i,SH st (Q i++L):=by
 obtain ⟨a,b,⟨i,h1⟩,h2,h3,h4⟩:=hs
 exact ⟨i,eG.2 ⟨a,b,h1,h2,h3,h4⟩⟩
theorem SH.close_ {st:aA} {L:List bU} {ι :Type} {Q: ι →List bU} {i: ι} (hs:SH st (Q i++L)):SH st ((fun h=> ∃i,eX (Q i) h)::L):=by
 obtain ⟨a,b,h1,h2,h3,h4⟩:=eG.1 hs
 exact ⟨a,b,⟨i,h1⟩,h2,h3,h4⟩
theorem SH.zP {st:aA} {L:List bU} {T id:Nat} {s:aZ} (hs:SH st (uI T id s::L)): ∃idt,SH st (pt id (.cells (uH id s idt))::nK T idt (bo s)::L):=hs.open_ (Q:=fun idt=>[pt id (.cells (uH id s idt)),nK T idt (bo s)])
theorem SH.Ns {st:aA} {L:List bU} {T id:Nat} {s:aZ} {idt:Nat} (hs:SH st (pt id (.cells (uH id s idt))::nK T idt (bo s)::L)):SH st (uI T id s::L):=SH.close_ (Q:=fun idt=>[pt id (.cells (uH id s idt)),nK T idt (bo s)]) (i:=idt) hs
theorem SH.Nr {st:aA} {L:List bU} {TB T id:Nat} {s:aZ} (hs:SH st (uI T id s::L)):SH st (iT TB T id s::L):=by
 obtain ⟨a,b,h1,h2,h3,h4⟩:=hs
 exact ⟨a,b,.inr h1,h2,h3,h4⟩
theorem SH.QS {st:aA} {L:List bU} {TB T id:Nat} {s:aZ} (hs:SH st (iT TB T id s::L)):(s=[]∧SH st (pt id (.cells [.pS id TB 2,.aP])::L))∨SH st (uI T id s::L):=by
 obtain ⟨a,b,h1,h2,h3,h4⟩:=hs
 rcases h1 with ⟨rfl,h1⟩ | h1
 ·exact .inl ⟨rfl,a,b,h1,h2,h3,h4⟩
 exact .inr ⟨a,b,h1,h2,h3,h4⟩
theorem SH.qj {st:aA} {L:List bU} {E:bA} {tm:Fr} {x y:AX} {j T id bytes:Nat} {o:Sl Int} {ys:List Int} (hs:SH st L) (hj:L[j]? =some (nK T id o)) (hx:tm.x x=br 1 (AV.int .u8) o id)
    (hy:dy 1 st (tm.x y)=some (ys.map (AV.int .u8))) (hb:((ls o).length+ys.length)*bytes≤140737488355328):
    ∃id' st',aE E tm st (.qj T 1 bytes x y)=some (br 1 (AV.int .u8) (bW o ys) id',st')∧SH st' (L.set j (nK T id' (bW o ys))):=by
  cases o with
  | none=>
    cases ys with
    | nil=>
      refine ⟨id,st,?_,?_⟩
      · simp only [aE,hy,hx];rfl
      have:L.set j (nK T id (bW (none:Sl Int) []))=L:=fD _ _ _ hj
      rw [this];exact hs
    | cons z zs=>
      simp only [Ca,List.length_nil,Nat.zero_add] at hb
      refine ⟨st.length,st++[.tail (z::zs).length (some T)],?_,?_⟩
      · simp only [aE,hy,hx,br,List.map_cons]
        rw [if_pos (by simpa using hb)]
        simp [bW,ls]
      refine hs.gS hj fun a b ha hd he=>⟨fun i=>if i=st.length then some (.tail (z::zs).length (some T)) else none,fun _=>by simp [bW,ls],fun i=>?_,fun i=>?_⟩
      · by_cases e:i=st.length
        · right
          have:=he i
          rw [List.getElem?_eq_none (by omega)] at this
          exact (PH.or_none.1 this.symm).2
        exact .inl (if_neg e)
      by_cases e:i=st.length
      · rw [PH.lB (a:=fun i=>if i=st.length then some (.tail (z::zs).length (some T)) else none) (x:=.tail (z::zs).length (some T)) (if_pos e)];subst e;simp
      rw [PH.iA (a:=fun i=>if i=st.length then some (.tail (z::zs).length (some T)) else none) (if_neg e)]
      have h1:=he i
      rw [PH.iA (ha i)] at h1
      rw [←h1]
      rcases Nat.lt_or_ge i st.length with h | h
      · rw [List.getElem?_append_left h]
      rw [List.getElem?_eq_none (by simp;omega),List.getElem?_eq_none h]
  | some l=>
    have hg:st[id]? =some (.tail l.length (some T)):=hs.g j hj
    refine ⟨id,st.set id (.tail (l.length+ys.length) (some T)),?_,?_⟩
    · simp only [aE,hy,hx,br,hg,List.length_map]
      rw [if_pos ⟨trivial,trivial,trivial,hb⟩]
      simp [bW,ls]
    have:=SH.set (o':=.tail (l.length+ys.length) (some T)) hs hj
    have e:nK T id (bW (some l) ys)=pt id (.tail (l.length+ys.length) (some T)):=by simp [bW,ls,nK]
    rw [e];exact this
theorem jD {E:bA} {G:Gh} {st:aA} {w:World} {id:Nat} {v0 v1:AV} (hs:aG E G st w) (h:st[id]? =some (.cells [v0,v1])):
  ∃b arr e fz u0 u1,G.slots[id]? =some (.box b)∧w.heap[b]? =some (.cells arr e fz)∧2≤arr.size∧arr[0]? =some u0∧arr[1]? =some u1∧aU G v0 u0∧aU G v1 u1∧Jy fz arr.size∧ ∀o u,G.M b o≠some u:=by
 have hidl:id<G.slots.length:=by rw [hs.len];exact aD h
 have hsl:G.slots[id]? =some G.slots[id]:=by simp [hidl]
 have hob:=hs.obj id _ _ h hsl
 generalize G.slots[id]=s at hob hsl
 cases s<;>simp only [bl] at hob
 rename_i b
 obtain ⟨⟨arr,e,fz,h1,h2,h3,h4⟩,h5⟩:=hob
 simp only [List.length_cons,List.length_nil,Nat.zero_add,Nat.reduceAdd] at h2 h3
 simp only [aW] at h3
 obtain ⟨u0,us,e1,r0,u1,us2,rfl,r1,rfl⟩:=h3
 refine ⟨b,arr,e,fz,u0,u1,hsl,h1,h2,?_,?_,r0,r1,h4,h5⟩
 ·have:(arr.toList.take 2)[0]? =some u0:=by rw [e1];rfl
  simpa [List.getElem?_take] using this
 have:(arr.toList.take 2)[1]? =some u1:=by rw [e1];rfl
 simpa [List.getElem?_take] using this
theorem wo {G:Gh} {id off b:Nat} {u:Value} (h:aU G (.ptr id off) u) (hs:G.slots[id]? =some (.box b)):u= .pointer (some ⟨b,off,none⟩):=by
 simpa only [aU,hs] using h
theorem iC {G:Gh} {id off b:Nat} {vs:List Value} (h:aW G [.ptr id off] vs) (hs:G.slots[id]? =some (.box b)):vs=[.pointer (some ⟨b,off,none⟩)]:=by
 simp only [aW] at h
 obtain ⟨u,us,rfl,h,rfl⟩:=h
 rw [wo h hs]
theorem zB {w:World} {b o:Nat} {v:Value} {arr:Array Value} {e:TypeId} {fz:Nat × Nat} (h:w.heap[b]? =some (.cells arr e fz)):w.setCell ⟨b,o,none⟩ v=w.setRow b (arr.setIfInBounds o v):=by
 have: ∀(x y:Array Obj),x=y→({w with heap:=x}:World)={w with heap:=y}:=fun x y e=>by rw [e]
 refine this _ _ ?_
 apply Array.ext_getElem?
 intro i
 simp only [Array.getElem?_modify]
 split
 ·rename_i hi
  subst hi
  rw [h];rfl
 rfl
theorem DV {P:Program} {E:bA} {f:FuncId} {TB T id:Nat} {s:aZ} {st:aA} {K:AV→aA→Prop} {Ls:List bU}
  (hfresh: ∀(b:Nat) (w:World),w.cell? ⟨b,0,none⟩=some (.pointer none)→w.shape? b=some (TB,2)→w.frozen? ⟨b,0,none⟩=false→Calls P f #[.pointer (some ⟨b,0,none⟩)] w fun e w'=>e= .returned (.tuple #[])∧w'=w.setCell ⟨b,0,none⟩ (.pointer (some ⟨b,0,none⟩)))
  (hused: ∀(b:Nat) (w:World),w.cell? ⟨b,0,none⟩=some (.pointer (some ⟨b,0,none⟩))→Calls P f #[.pointer (some ⟨b,0,none⟩)] w fun e w'=>e= .returned (.tuple #[])∧w'=w)
  (hs:SH st (iT TB T id s::Ls)) (hK: ∀st,SH st (uI T id s::Ls)→K (.bt []) st):XCall P E f [.ptr id 0] st K:=by
 intro G w vs hr hw
 rcases hs.QS with ⟨hnil,h0⟩ | hs
 ·subst hnil
  have ho:=h0.g 0 rfl
  obtain ⟨b,arr,e,fz,u0,u1,h1,h2,h3,h4,h5,r0,r1,h6,h7⟩:=jD hw ho
  rw [iC hr h1]
  simp only [aU,h1] at r0
  obtain ⟨rfl,hsh⟩:=r0
  obtain ⟨arr2,fz2,k1,k2⟩:=hw.jU _ _ _ hsh
  rw [h2] at k1;cases k1
  refine (hfresh b w (by simp [World.cell?,h2,h4]) (by simp [World.shape?,h2,k2]) (by
   simp only [World.frozen?,h2]
   have:=h6.un 0 (by omega)
   unfold jY at this
   simpa using this)).mono ?_
  rintro x w' ⟨rfl,rfl⟩
  rw [zB h2]
  obtain ⟨q1,q2⟩:=Cq hw (cs':=[.ptr id 0,.aP]) (arr':=arr.setIfInBounds 0 (.pointer (some ⟨b,0,none⟩))) h1 h2 h7 (by simp) (by simp [k2]) (by
   have e1:(arr.setIfInBounds 0 (.pointer (some ⟨b,0,none⟩))).toList.take 2=[.pointer (some ⟨b,0,none⟩),u1]:=by
    apply List.ext_getElem?
    intro i
    rcases i with _ | _ | i
    ·simp [List.getElem?_take,k2]
    ·simp only [List.getElem?_take]
     rw [if_pos (by omega),Array.toList_setIfInBounds,List.getElem?_set_ne (by omega)]
     simpa using h5
    simp only [List.getElem?_take];rw [if_neg (by omega)];rfl
   show aW G _ (List.take 2 _)
   rw [e1]
   simp only [aW]
   exact ⟨_,_,rfl,by simp only [aU,h1],_,_,rfl,r1,rfl⟩) (by simpa using h6)
  refine ⟨_,.bt [],_,G,rfl,by simp only [aU,aW];exact ⟨[],rfl,rfl⟩,q1,q2,hK _ (SH.Ns (idt:=0) ?_)⟩
  have q3:=h0.set (j:=0) rfl (.cells [.ptr id 0,.aP])
  obtain ⟨a,c,z1,z2,z3,z4⟩:=q3
  exact ⟨a,c,z1,⟨fun _=>none,c,fun _=>rfl,z2,fun _=>.inl rfl,fun _=>(PH.iA rfl).symm⟩,z3,z4⟩
 obtain ⟨idt,hs2⟩:=hs.zP
 obtain ⟨b,arr,e,fz,u0,u1,h1,h2,h3,h4,h5,r0,r1,h6,h7⟩:=jD hw (hs2.g 0 rfl)
 rw [iC hr h1]
 have:=wo r0 h1
 subst this
 refine (hused b w (by simp [World.cell?,h2,h4])).mono ?_
 rintro x w' ⟨rfl,rfl⟩
 exact ⟨_,.bt [],st,G,rfl,by simp only [aU,aW];exact ⟨[],rfl,rfl⟩,hw,Ext.refl _ _,hK _ hs⟩
theorem yW {E:bA} {G:Gh} {st:aA} {w w':World} {id b:Nat} {s:Slot} {arr:Array Value} {e:TypeId} {fz fz':Nat × Nat} (h:aG E G st w) (hid:G.slots[id]? =some s) (hb:s.blk=some b) (harr:w.heap[b]? =some (.cells arr e fz)) (hnew:w'.heap[b]? =some (.cells arr e fz'))
  (hw: ∀k,k≠b→w'.heap[k]? =w.heap[k]?) (hz:w'.heap.size=w.heap.size) (hos:w'.os=w.os) (ht:w'.tape=w.tape) (hout:w'.output=w.output):
  aG E {slots:=G.slots.set id .dead,M:=G.M,sh:=G.sh} (st.set id .dead) w'∧Ext G w {slots:=G.slots.set id .dead,M:=G.M,sh:=G.sh} w':=by
 have hidl:=aD hid
 have hmemS:s∈G.slots:=List.mem_of_getElem? hid
 have hcell: ∀(q o:Nat),w'.cell? ⟨q,o,none⟩=w.cell? ⟨q,o,none⟩:=fun q o=>by
  by_cases hq:q=b
  ·subst hq;simp [World.cell?,harr,hnew]
  exact World.cell?_of_block (w:=w) (w':=w') (a:=⟨q,o,none⟩) (hw q hq)
 have hg:cj G {slots:=G.slots.set id .dead,M:=G.M,sh:=G.sh}:=by
  have key: ∀(i:Nat) (t:Slot),G.slots[i]? =some t→(G.slots.set id .dead)[i]? =some t∨(G.slots.set id .dead)[i]? =some .dead:=fun i t hi=>by
   by_cases e':id=i
   ·subst e';exact .inr (List.getElem?_set_self hidl)
   exact .inl (by rw [List.getElem?_set_ne e'];exact hi)
  exact ⟨fun _ _ h=>h,fun _ _ _ h=>h,by simp,fun i b hi=>key i _ hi,fun i b hi=>key i _ hi,fun i hi=>by rcases key i _ hi with h' | h'<;>exact h',fun i b lo hi n hi'=>by
   rcases key i _ hi' with h' | h'
   ·exact .inr ⟨b,lo,hi,n,h',Nat.le_refl _,fun _=>⟨rfl,rfl,rfl⟩⟩
   exact .inl h'⟩
 refine ⟨⟨by simp [h.len],?_,?_,fun q o u hu=>by rw [hcell];exact h.mem q o u hu,h.one,fun q e' n hx=>?_,h.gG.mono hg⟩,⟨hg,hos,ht,hout,by rw [hz];exact Nat.le_refl _,fun k hk hn=>hw k fun e'=>hn s hmemS (e'▸hb),fun _ _ _ hu=>.inl hu,fun t htm q hq=>?_⟩⟩
 ·intro i o t hi hti
  by_cases e':id=i
  ·subst e'
   rw [List.getElem?_set_self (by rw [←h.len];exact hidl)] at hi;cases hi
   have hti':(G.slots.set id .dead)[id]? =some t:=hti
   rw [List.getElem?_set_self hidl] at hti';cases hti'
   trivial
  rw [List.getElem?_set_ne e'] at hi
  have hti':(G.slots.set id .dead)[i]? =some t:=hti
  rw [List.getElem?_set_ne e'] at hti'
  exact (h.obj i o t hi hti').keep hg (fun b' hb'=>hw b' fun eb=>h.apart i id t s b' (Ne.symm e') hti' hid hb' (eb▸hb)) fun _ _ _ _ hu=>hu
 ·intro i j t t' b' hij hti htj hbt
  have hti':(G.slots.set id .dead)[i]? =some t:=hti
  have htj':(G.slots.set id .dead)[j]? =some t':=htj
  by_cases ei:id=i
  ·subst ei;rw [List.getElem?_set_self hidl] at hti';cases hti';cases hbt
  rw [List.getElem?_set_ne ei] at hti'
  by_cases ej:id=j
  ·subst ej;rw [List.getElem?_set_self hidl] at htj';cases htj';intro hx;cases hx
  rw [List.getElem?_set_ne ej] at htj'
  exact h.apart i j t t' b' hij hti' htj' hbt
 ·obtain ⟨a2,f2,h1,h2⟩:=h.jU q e' n hx
  by_cases hq:q=b
  ·subst hq;rw [harr] at h1;cases h1;exact ⟨_,_,hnew,h2⟩
  exact ⟨a2,f2,by rw [hw q hq];exact h1,h2⟩
 have htm':t∈G.slots.set id .dead:=htm
 rcases List.mem_or_eq_of_mem_set htm' with h' | rfl
 ·exact .inl ⟨t,h',hq⟩
 cases hq
theorem SH.VK {st:aA} {L:List bU} {id:Nat} {o:cz} (hs:SH st (pt id o::L)):SH (st.set id .dead) L:=gk (P:=pt id .dead) (hs.set (j:=0) rfl .dead)
theorem AY {P:Program} {E:bA} {f:FuncId} {TB T id:Nat} {s:aZ} {st:aA} {K:AV→aA→Prop} {Ls:List bU}
    (hnil: ∀(b:Nat) (w:World),w.cell? ⟨b,1,none⟩=some (.slice none 0 0)→Calls P f #[.pointer (some ⟨b,0,none⟩)] w fun e w'=>e= .returned (.string ⟨#[]⟩)∧w'=w.drew)
    (hrow: ∀(b g cap cells:Nat) (l:List UInt8) (w:World),l≠[]→w.cell? ⟨b,1,none⟩=some (.slice (some ⟨g,0,none⟩) l.length cap)→l.length≤cap→w.shape? g=some (T,cells)→l.length≤cells→l.length≤9223372036854775807→(∀j x,l[j]? =some x→w.cell? ⟨g,j,none⟩=some (.int .u8 x.toNat))→
      Calls P f #[.pointer (some ⟨b,0,none⟩)] w fun e w'=>e= .returned (.string ⟨l.toArray⟩)∧w'=w.drew.freeze ⟨g,0,none⟩ l.length)
    (hl:s.length≤9223372036854775807) (hs:SH st (iT TB T id s::Ls)) (hK: ∀st,SH st Ls→K (.str s) st):XCall P E f [.ptr id 0] st K:=by
  intro G w vs hr hw
  have nilcase: ∀(v0:AV),s=[]→SH st (pt id (.cells [v0,.aP])::Ls)→Calls P f vs.toArray w fun e w'=> ∃u r st' G',e= .returned u∧aU G' r u∧aG E G' st' w'∧Ext G w G' w'∧K r st':=by
    intro v0 hnl h0
    obtain ⟨b,arr,e,fz,u0,u1,h1,h2,h3,h4,h5,r0,r1,h6,h7⟩:=jD hw (h0.g 0 rfl)
    rw [iC hr h1]
    simp only [aU] at r1
    subst r1
    refine (hnil b w (by simp [World.cell?,h2,h5])).mono ?_
    rintro x w' ⟨rfl,rfl⟩
    exact ⟨_,.str s,st,G,rfl,by simp only [aU];exact ⟨_,by simp [hnl],rfl⟩,hw.drew _,(Ext.refl _ _).drew _,hK _ (gk h0)⟩
  rcases hs.QS with ⟨hnl,h0⟩ | hs
  · exact nilcase _ hnl h0
  obtain ⟨idt,hs2⟩:=hs.zP
  cases s with
  | nil=>
    refine nilcase (.ptr id 0) rfl ?_
    obtain ⟨a,b,z1,z2,z3,z4⟩:=hs2
    exact ⟨a,b,z1,gk z2,z3,z4⟩
  | cons x0 s0=>
    obtain ⟨b,arr,e,fz,u0,u1,h1,h2,h3,h4,h5,r0,r1,h6,h7⟩:=jD hw (hs2.g 0 rfl)
    rw [iC hr h1]
    have ho:st[idt]? =some (.tail (ig (x0::s0)).length (some T)):=hs2.g 1 rfl
    generalize hse:x0::s0=s at *
    have hne:s≠[]:=by rw [←hse];simp
    have r1':aU G (.sl 1 ((ig s).map (AV.int .u8)) (some idt)) u1:=by rw [←hse] at r1 ⊢;exact r1
    clear r1
    simp only [aU] at r1'
    obtain ⟨g,o,c,hrs,hlc,htok,sp,hsp,rfl⟩:=r1'
    obtain rfl:sp=none:=by
      rcases hsp with h | h
      · exact h
      cases h.2
    have hidl:idt<G.slots.length:=by rw [hw.len];exact aD ho
    have hsl:G.slots[idt]? =some G.slots[idt]:=by simp [hidl]
    have hob:=hw.obj idt _ _ ho hsl
    simp only [gB,hsl] at htok
    generalize G.slots[idt]=sl at hob hsl htok
    cases sl<;>simp only [bl] at hob
    rename_i b' lo hi m
    obtain ⟨rfl,hlohi,⟨arr',te,fz',p1,p2,p3,p5⟩,p4⟩:=hob
    have hte:te=T:=p5 T rfl
    subst hte
    simp only [List.length_map] at htok hlc h5
    obtain ⟨_,htok⟩:=htok
    obtain ⟨rfl,rfl,rfl,rfl⟩:=htok trivial
    have hlen:(ig s).length=s.length:=by simp [ig]
    obtain ⟨us,k1,k2,k3,k4⟩:=iq hrs
    have hcells: ∀j x,s[j]? =some x→w.cell? ⟨b',j,none⟩=some (.int .u8 x.toNat):=by
      intro j x hx
      have hxs:((ig s).map (AV.int .u8))[j]? =some (.int .u8 x.toNat):=by simp [ig,hx]
      obtain ⟨u,hu⟩: ∃u,us[j]? =some u:=by
        have:=aD hxs
        exact ⟨us[j],by simp [k1,this]⟩
      obtain ⟨q1,q2,q3⟩:=k4 j _ _ hxs hu
      simp only [aU] at q1
      subst q1
      have:=hw.mem _ _ _ (k3 _ _ (q3 0 (.int .u8 x.toNat) rfl))
      simpa using this
    rw [hlen] at h5 hlc
    refine (hrow b b' c arr'.size s w hne (by simp [World.cell?,h2,h5]) hlc (by simp [World.shape?,p1]) (by omega) hl hcells).mono ?_
    rintro x w' ⟨rfl,rfl⟩
    obtain ⟨lo',hi'⟩:=fz'
    obtain ⟨q1,q2⟩:=yW (w':=w.drew.freeze ⟨b',0,none⟩ s.length) (fz':=if (lo'==hi')=true then (0,0+s.length) else (min lo' 0,max hi' (0+s.length))) hw hsl rfl p1
      (by
        have hn:s.length≠0:=by simpa using hne
        simp only [World.freeze,hn,if_false,World.drew,Array.getElem?_modify,if_true,p1,Option.map_some])
      (fun k hk=>by
        have hn:s.length≠0:=by simpa using hne
        simp only [World.freeze,hn,if_false,World.drew,Array.getElem?_modify]
        rw [if_neg (fun e=>hk e.symm)])
      (by
        have hn:s.length≠0:=by simpa using hne
        simp only [World.freeze,hn,if_false,Array.size_modify];rfl)
      (by simp only [World.freeze];split<;>rfl) (by simp only [World.freeze];split<;>rfl) (by simp only [World.freeze];split<;>rfl)
    refine ⟨_,.str s,_,_,rfl,by simp only [aU];exact ⟨_,by simp,rfl⟩,q1,q2,hK _ ?_⟩
    have hs3:SH st (nK te idt (bo s)::Ls):=gk hs2
    rw [←hse] at hs3
    exact SH.VK hs3
def DU (T id:Nat) (s:aZ):bU:=fun h=>(s=[]∧ ∃v0,pt id (.cells [v0,.aP]) h)∨(s≠[]∧ ∃ids v0,eX [pt id (.cells [v0,.row ids 1 0 s.length]),pt ids (.uQ s T)] h)
theorem Jf {E:bA} {G:Gh} {st:aA} {w w':World} {id b:Nat} {s:Slot} {arr:Array Value} {e:TypeId} {fz fz':Nat × Nat} {l:List UInt8} (h:aG E G st w) (hid:G.slots[id]? =some s) (hb:s.blk=some b) (harr:w.heap[b]? =some (.cells arr e fz)) (hnew:w'.heap[b]? =some (.cells arr e fz'))
  (hw: ∀k,k≠b→w'.heap[k]? =w.heap[k]?) (hz:w'.heap.size=w.heap.size) (hos:w'.os=w.os) (ht:w'.tape=w.tape) (hout:w'.output=w.output) (hl:l.length≤arr.size) (hc: ∀(j:Nat) (x:UInt8),l[j]? =some x→arr[j]? =some (Value.int .u8 (x.toNat:Int))):
  aG E {slots:=G.slots.set id .dead++[.box b],M:=G.M,sh:=fun q=>if q=b then some (e,arr.size) else G.sh q} (st.set id .dead++[.uQ l e]) w'∧Ext G w {slots:=G.slots.set id .dead++[.box b],M:=G.M,sh:=fun q=>if q=b then some (e,arr.size) else G.sh q} w':=by
 obtain ⟨k1,k2⟩:=yW h hid hb harr hnew hw hz hos ht hout
 have hidl:=aD hid
 have hsh: ∀q v,G.sh q=some v→(if q=b then some (e,arr.size) else G.sh q)=some v:=fun q v hv=>by
  by_cases hq:q=b
  ·subst hq
   obtain ⟨e',n'⟩:=v
   obtain ⟨a2,f2,h1,h2⟩:=h.jU q e' n' hv
   rw [harr] at h1
   cases h1
   rw [if_pos rfl,h2]
  rw [if_neg hq];exact hv
 have hap: ∀(i:Nat) (t:Slot),(G.slots.set id .dead)[i]? =some t→t.blk≠some b:=fun i t hi e'=>by
  by_cases ei:id=i
  ·subst ei;rw [List.getElem?_set_self hidl] at hi;cases hi;cases e'
  rw [List.getElem?_set_ne ei] at hi
  exact h.apart i id t s b (Ne.symm ei) hi hid e' hb
 have gl: ∀(i:Nat) (t:Slot),(G.slots.set id .dead)[i]? =some t→(G.slots.set id .dead++[Slot.box b])[i]? =some t:=fun i t hi=>by
  rw [List.getElem?_append_left (aD hi)];exact hi
 have hg1:cj {slots:=G.slots.set id .dead,M:=G.M,sh:=G.sh} {slots:=G.slots.set id .dead++[.box b],M:=G.M,sh:=fun q=>if q=b then some (e,arr.size) else G.sh q}:=
  ⟨hsh,fun _ _ _ h=>h,by simp,fun i b' hi=>.inl (gl i _ hi),fun i b' hi=>.inl (gl i _ hi),fun i hi=>gl i _ hi,fun i b' lo hi n hi'=>.inr ⟨b',lo,hi,n,gl i _ hi',Nat.le_refl _,fun _=>⟨rfl,rfl,rfl⟩⟩⟩
 have hlen:(G.slots.set id .dead).length=(st.set id .dead).length:=by simp [h.len]
 refine ⟨⟨by simp [h.len],?_,?_,k1.mem,k1.one,?_,k1.gG.mono hg1⟩,⟨k2.g.trans hg1,hos,ht,hout,by rw [hz];exact Nat.le_refl _,k2.block,k2.uM,?_⟩⟩
 ·intro i o t hi hti
  have hti':(G.slots.set id .dead++[Slot.box b])[i]? =some t:=hti
  by_cases hil:i<(st.set id .dead).length
  ·rw [List.getElem?_append_left hil] at hi
   rw [List.getElem?_append_left (by rw [hlen];exact hil)] at hti'
   exact (k1.obj i o t hi hti').keep hg1 (fun _ _=>rfl) fun _ _ _ _ hu=>hu
  rw [List.getElem?_append_right (by omega)] at hi
  rw [List.getElem?_append_right (by rw [hlen];omega),hlen] at hti'
  have hi0:=aD hi
  simp only [List.length_singleton] at hi0
  have e0:i-(st.set id .dead).length=0:=by omega
  rw [e0] at hi hti'
  simp only [List.getElem?_cons_zero,Option.some.injEq] at hi hti'
  subst hi;subst hti'
  exact ⟨arr,fz',hnew,hl,hc⟩
 ·intro i j t t' b' hij hti htj hbt
  have hti':(G.slots.set id .dead++[Slot.box b])[i]? =some t:=hti
  have htj':(G.slots.set id .dead++[Slot.box b])[j]? =some t':=htj
  have last: ∀(i:Nat) (t:Slot),¬i<(G.slots.set id .dead).length→(G.slots.set id .dead++[Slot.box b])[i]? =some t→i=(G.slots.set id .dead).length∧t= .box b:=fun i t hil hi=>by
   rw [List.getElem?_append_right (by omega)] at hi
   have hi0:=aD hi
   simp only [List.length_singleton] at hi0
   have e0:i-(G.slots.set id .dead).length=0:=by omega
   rw [e0] at hi
   simp only [List.getElem?_cons_zero,Option.some.injEq] at hi
   exact ⟨by omega,hi.symm⟩
  by_cases hil:i<(G.slots.set id .dead).length
  ·rw [List.getElem?_append_left hil] at hti'
   by_cases hjl:j<(G.slots.set id .dead).length
   ·rw [List.getElem?_append_left hjl] at htj'
    exact k1.apart i j t t' b' hij hti' htj' hbt
   obtain ⟨_,rfl⟩:=last j t' hjl htj'
   intro hx
   cases hx
   exact hap i t hti' hbt
  obtain ⟨hi1,rfl⟩:=last i t hil hti'
  cases hbt
  by_cases hjl:j<(G.slots.set id .dead).length
  ·rw [List.getElem?_append_left hjl] at htj'
   exact hap j t' htj'
  obtain ⟨hj1,_⟩:=last j t' hjl htj'
  omega
 ·intro q e' n hx
  have hx':(if q=b then some (e,arr.size) else G.sh q)=some (e',n):=hx
  by_cases hq:q=b
  ·subst hq
   rw [if_pos rfl] at hx'
   cases hx'
   exact ⟨arr,fz',hnew,rfl⟩
  rw [if_neg hq] at hx'
  exact k1.jU q e' n hx'
 intro t htm q hq
 have htm':t∈G.slots.set id .dead++[Slot.box b]:=htm
 rcases List.mem_append.1 htm' with h' | h'
 ·exact k2.sx t h' q hq
 simp only [List.mem_singleton] at h'
 subst h'
 cases hq
 exact .inl ⟨s,List.mem_of_getElem? hid,hb⟩
theorem Jq {E:bA} {G:Gh} {st:aA} {w:World} {id b:Nat} {cs cs':List AV} (h:aG E G st w) (ho:st[id]? =some (.cells cs)) (hid:G.slots[id]? =some (.box b)) (hl:cs'.length=cs.length)
  (hr: ∀(arr:Array Value) (e:TypeId) (fz:Nat × Nat),w.heap[b]? =some (.cells arr e fz)→aW G cs' (arr.toList.take cs'.length)):aG E G (st.set id (.cells cs')) w:=by
 have hidl:=aD ho
 refine ⟨by simp [h.len],fun i o t hi hti=>?_,h.apart,h.mem,h.one,h.jU,h.gG⟩
 by_cases e':id=i
 ·subst e'
  rw [List.getElem?_set_self hidl] at hi
  cases hi
  rw [hid] at hti
  cases hti
  have:=h.obj id _ _ ho hid
  simp only [bl] at this ⊢
  obtain ⟨⟨arr,e,fz,h1,h2,h3,h4⟩,h5⟩:=this
  exact ⟨⟨arr,e,fz,h1,by rw [hl];exact h2,hr arr e fz h1,h4⟩,h5⟩
 rw [List.getElem?_set_ne e'] at hi
 exact h.obj i o t hi hti
theorem xm {P:Program} {E:bA} {f:FuncId} {TB T id:Nat} {s:aZ} {st:aA} {K:AV→aA→Prop} {Ls:List bU}
    (hnil: ∀(b:Nat) (w:World),w.cell? ⟨b,1,none⟩=some (.slice none 0 0)→Calls P f #[.pointer (some ⟨b,0,none⟩)] w fun e w'=>e= .returned (.string ⟨#[]⟩)∧w'=w.drew)
    (hrow: ∀(b g cap cells:Nat) (l:List UInt8) (w:World),l≠[]→w.cell? ⟨b,1,none⟩=some (.slice (some ⟨g,0,none⟩) l.length cap)→l.length≤cap→w.shape? g=some (T,cells)→l.length≤cells→l.length≤9223372036854775807→(∀j x,l[j]? =some x→w.cell? ⟨g,j,none⟩=some (.int .u8 x.toNat))→
      Calls P f #[.pointer (some ⟨b,0,none⟩)] w fun e w'=>e= .returned (.string ⟨l.toArray⟩)∧w'=w.drew.freeze ⟨g,0,none⟩ l.length)
    (hl:s.length≤9223372036854775807) (hs:SH st (iT TB T id s::Ls)) (hK: ∀st,SH st (DU T id s::Ls)→K (.str s) st):XCall P E f [.ptr id 0] st K:=by
  intro G w vs hr hw
  have nilcase: ∀(v0:AV),s=[]→SH st (pt id (.cells [v0,.aP])::Ls)→Calls P f vs.toArray w fun e w'=> ∃u r st' G',e= .returned u∧aU G' r u∧aG E G' st' w'∧Ext G w G' w'∧K r st':=by
    intro v0 hnl h0
    obtain ⟨b,arr,e,fz,u0,u1,h1,h2,h3,h4,h5,r0,r1,h6,h7⟩:=jD hw (h0.g 0 rfl)
    rw [iC hr h1]
    simp only [aU] at r1
    subst r1
    refine (hnil b w (by simp [World.cell?,h2,h5])).mono ?_
    rintro x w' ⟨rfl,rfl⟩
    obtain ⟨a,b2,z1,z2,z3,z4⟩:=h0
    exact ⟨_,.str s,st,G,rfl,by simp only [aU];exact ⟨_,by simp [hnl],rfl⟩,hw.drew _,(Ext.refl _ _).drew _,hK _ ⟨a,b2,.inl ⟨hnl,v0,z1⟩,z2,z3,z4⟩⟩
  rcases hs.QS with ⟨hnl,h0⟩ | hs
  · exact nilcase _ hnl h0
  obtain ⟨idt,hs2⟩:=hs.zP
  cases s with
  | nil=>
    refine nilcase (.ptr id 0) rfl ?_
    obtain ⟨a,b,z1,z2,z3,z4⟩:=hs2
    exact ⟨a,b,z1,gk z2,z3,z4⟩
  | cons x0 s0=>
    obtain ⟨b,arr,e,fz,u0,u1,h1,h2,h3,h4,h5,r0,r1,h6,h7⟩:=jD hw (hs2.g 0 rfl)
    rw [iC hr h1]
    have ho:st[idt]? =some (.tail (ig (x0::s0)).length (some T)):=hs2.g 1 rfl
    have hob0:st[id]? =some (.cells (uH id (x0::s0) idt)):=hs2.g 0 rfl
    generalize hse:x0::s0=s at *
    have hne:s≠[]:=by rw [←hse];simp
    have r1':aU G (.sl 1 ((ig s).map (AV.int .u8)) (some idt)) u1:=by rw [←hse] at r1 ⊢;exact r1
    clear r1
    simp only [aU] at r1'
    obtain ⟨g,o,c,hrs,hlc,htok,sp,hsp,rfl⟩:=r1'
    obtain rfl:sp=none:=by
      rcases hsp with h | h
      · exact h
      cases h.2
    have hidl:idt<G.slots.length:=by rw [hw.len];exact aD ho
    have hsl:G.slots[idt]? =some G.slots[idt]:=by simp [hidl]
    have hob:=hw.obj idt _ _ ho hsl
    simp only [gB,hsl] at htok
    generalize G.slots[idt]=sl at hob hsl htok
    cases sl<;>simp only [bl] at hob
    rename_i b' lo hi m
    obtain ⟨rfl,hlohi,⟨arr',te,fz',p1,p2,p3,p5⟩,p4⟩:=hob
    have hte:te=T:=p5 T rfl
    subst hte
    simp only [List.length_map] at htok hlc h5
    obtain ⟨_,htok⟩:=htok
    obtain ⟨rfl,rfl,rfl,rfl⟩:=htok trivial
    have hlen:(ig s).length=s.length:=by simp [ig]
    obtain ⟨us,k1,k2,k3,k4⟩:=iq hrs
    have hcells: ∀j x,s[j]? =some x→w.cell? ⟨b',j,none⟩=some (.int .u8 x.toNat):=by
      intro j x hx
      have hxs:((ig s).map (AV.int .u8))[j]? =some (.int .u8 x.toNat):=by simp [ig,hx]
      obtain ⟨u,hu⟩: ∃u,us[j]? =some u:=by
        have:=aD hxs
        exact ⟨us[j],by simp [k1,this]⟩
      obtain ⟨q1,q2,q3⟩:=k4 j _ _ hxs hu
      simp only [aU] at q1
      subst q1
      have:=hw.mem _ _ _ (k3 _ _ (q3 0 (.int .u8 x.toNat) rfl))
      simpa using this
    rw [hlen] at h5 hlc
    refine (hrow b b' c arr'.size s w hne (by simp [World.cell?,h2,h5]) hlc (by simp [World.shape?,p1]) (by omega) hl hcells).mono ?_
    rintro x w' ⟨rfl,rfl⟩
    obtain ⟨lo',hi'⟩:=fz'
    have hn:s.length≠0:=by simpa using hne
    have hwk: ∀k,k≠b'→(w.drew.freeze ⟨b',0,none⟩ s.length).heap[k]? =w.heap[k]? :=fun k hk=>by
      simp only [World.freeze,hn,if_false,World.drew,Array.getElem?_modify]
      rw [if_neg (fun e=>hk e.symm)]
    obtain ⟨q1,q2⟩:=Jf (w':=w.drew.freeze ⟨b',0,none⟩ s.length) (l:=s) (fz':=if (lo'==hi')=true then (0,0+s.length) else (min lo' 0,max hi' (0+s.length))) hw hsl rfl p1
      (by simp only [World.freeze,hn,if_false,World.drew,Array.getElem?_modify,if_true,p1,Option.map_some]) hwk
      (by simp only [World.freeze,hn,if_false,Array.size_modify];rfl)
      (by simp only [World.freeze];split<;>rfl) (by simp only [World.freeze];split<;>rfl) (by simp only [World.freeze];split<;>rfl) (by omega)
      (fun j x hx=>by have:=hcells j x hx;simpa [World.cell?,p1] using this)
    have hne2:idt≠id:=fun e=>by rw [e,hob0] at ho;cases ho
    have hbne:b≠b':=fun e=>by
      subst e
      exact hw.apart id idt _ _ b (Ne.symm hne2) h1 hsl rfl rfl
    have ho2:(st.set idt .dead++[cz.uQ s te])[id]? =some (.cells (uH id s idt)):=by
      rw [List.getElem?_append_left (by rw [List.length_set];exact aD hob0),List.getElem?_set_ne hne2];exact hob0
    have hsl2:(G.slots.set idt .dead++[Slot.box b'])[id]? =some (.box b):=by
      rw [List.getElem?_append_left (by rw [List.length_set];exact aD h1),List.getElem?_set_ne hne2];exact h1
    have hslN:(G.slots.set idt .dead++[Slot.box b'])[st.length]? =some (.box b'):=by
      rw [List.getElem?_append_right (by rw [List.length_set,hw.len];omega),List.length_set,hw.len];simp
    have q3:=Jq (cs':=[.ptr id 0,.row st.length 1 0 s.length]) q1 ho2 hsl2 rfl (fun arr2 e2 fz2 ha=>by
      rw [hwk b hbne,h2] at ha
      cases ha
      have e5:arr.toList.take 2=[u0,.slice (some ⟨b',0,none⟩) s.length c]:=by
        apply List.ext_getElem?
        intro j
        rw [List.getElem?_take]
        match j with
        | 0=>simpa using h4
        | 1=>simpa using h5
        | j+2=>rw [if_neg (by omega)];rfl
      show aW _ _ (arr.toList.take 2)
      rw [e5]
      have a0:aU {slots:=G.slots.set idt .dead++[.box b'],M:=G.M,sh:=fun q=>if q=b' then some (te,arr'.size) else G.sh q} (.ptr id 0) u0:=by
        simp only [aU,hsl2]
        exact wo r0 h1
      have a1:aU {slots:=G.slots.set idt .dead++[.box b'],M:=G.M,sh:=fun q=>if q=b' then some (te,arr'.size) else G.sh q} (.row st.length 1 0 s.length) (.slice (some ⟨b',0,none⟩) s.length c):=by
        simp only [aU,hslN]
        exact ⟨c,te,arr'.size,hlc,by simp,by omega,by simp⟩
      simp only [aW]
      exact ⟨_,_,rfl,a0,_,_,rfl,a1,rfl⟩)
    refine ⟨_,.str s,_,_,rfl,by simp only [aU];exact ⟨_,by simp,rfl⟩,q3,q2,hK _ ?_⟩
    have hs3:SH st (nK te idt (bo s)::pt id (.cells (uH id s idt))::Ls):=hs2.p 2 [1,0] rfl
    rw [←hse] at hs3
    have hs4:=SH.VK hs3
    have hs5:=(SH.set (o':=.cells [.ptr id 0,.row st.length 1 0 (x0::s0).length]) hs4 (j:=0) rfl).push (.uQ (x0::s0) te)
    rw [List.length_set,List.length_set] at hs5
    have hs6:=hs5.p 2 [1,0] rfl
    rw [hse] at hs6
    obtain ⟨a,b3,z1,z2,z3,z4⟩:=(eG (A:=[_,_]) (B:=Ls)).1 hs6
    rw [←List.set_append_left _ _ (by rw [List.length_set];exact aD hob0)] at z4
    exact ⟨a,b3,.inr ⟨hne,_,_,z1⟩,z2,z3,z4⟩
theorem BQ {E:bA} {G:Gh} {st:aA} {w w':World} {id b:Nat} {arr:Array Value} {e t:TypeId} {fz fz':Nat × Nat} {l:List UInt8} (h:aG E G st w) (ho:st[id]? =some (.uQ l t)) (hid:G.slots[id]? =some (.box b)) (harr:w.heap[b]? =some (.cells arr e fz)) (hnew:w'.heap[b]? =some (.cells arr e fz'))
  (hw: ∀k,k≠b→w'.heap[k]? =w.heap[k]?) (hz:w'.heap.size=w.heap.size) (hos:w'.os=w.os) (ht:w'.tape=w.tape) (hout:w'.output=w.output):aG E G st w'∧Ext G w G w':=by
 have hcell: ∀(q o:Nat),w'.cell? ⟨q,o,none⟩=w.cell? ⟨q,o,none⟩:=fun q o=>by
  by_cases hq:q=b
  ·subst hq;simp [World.cell?,harr,hnew]
  exact World.cell?_of_block (w:=w) (w':=w') (a:=⟨q,o,none⟩) (hw q hq)
 refine ⟨⟨h.len,?_,h.apart,fun q o u hu=>by rw [hcell];exact h.mem q o u hu,h.one,fun q e' n hx=>?_,h.gG⟩,⟨cj.refl _,hos,ht,hout,by rw [hz];exact Nat.le_refl _,fun k hk hn=>hw k fun e'=>hn _ (List.mem_of_getElem? hid) (e'▸rfl),fun _ _ _ hu=>.inl hu,fun t htm q hq=>.inl ⟨t,htm,hq⟩⟩⟩
 ·intro i o t hi hti
  by_cases e':id=i
  ·subst e'
   rw [ho] at hi;cases hi
   rw [hid] at hti;cases hti
   have:=h.obj id _ _ ho hid
   simp only [bl] at this ⊢
   obtain ⟨a2,f2,h1,h2⟩:=this
   rw [harr] at h1
   cases h1
   exact ⟨_,_,hnew,h2⟩
  exact (h.obj i o t hi hti).keep (cj.refl _) (fun b' hb'=>hw b' fun eb=>h.apart i id t _ b' (Ne.symm e') hti hid hb' (eb▸rfl)) fun _ _ _ _ hu=>hu
 obtain ⟨a2,f2,h1,h2⟩:=h.jU q e' n hx
 by_cases hq:q=b
 ·subst hq;rw [harr] at h1;cases h1;exact ⟨_,_,hnew,h2⟩
 exact ⟨a2,f2,by rw [hw q hq];exact h1,h2⟩
theorem xk {P:Program} {E:bA} {f:FuncId} {T id:Nat} {s:aZ} {st:aA} {K:AV→aA→Prop} {Ls:List bU}
  (hnil: ∀(b:Nat) (w:World),w.cell? ⟨b,1,none⟩=some (.slice none 0 0)→Calls P f #[.pointer (some ⟨b,0,none⟩)] w fun e w'=>e= .returned (.string ⟨#[]⟩)∧w'=w.drew)
  (hrow: ∀(b g cap cells:Nat) (l:List UInt8) (w:World),l≠[]→w.cell? ⟨b,1,none⟩=some (.slice (some ⟨g,0,none⟩) l.length cap)→l.length≤cap→w.shape? g=some (T,cells)→l.length≤cells→l.length≤9223372036854775807→(∀j x,l[j]? =some x→w.cell? ⟨g,j,none⟩=some (.int .u8 x.toNat))→
   Calls P f #[.pointer (some ⟨b,0,none⟩)] w fun e w'=>e= .returned (.string ⟨l.toArray⟩)∧w'=w.drew.freeze ⟨g,0,none⟩ l.length)
  (hl:s.length≤9223372036854775807) (hs:SH st (DU T id s::Ls)) (hK: ∀st,SH st (DU T id s::Ls)→K (.str s) st):XCall P E f [.ptr id 0] st K:=by
 intro G w vs hr hw
 have hs0:=hs
 obtain ⟨a,b2,z1,z2,z3,z4⟩:=hs
 rcases z1 with ⟨hnl,v0,z1⟩ | ⟨hne,ids,v0,z1⟩
 ·have h0:SH st (pt id (.cells [v0,.aP])::Ls):=⟨a,b2,z1,z2,z3,z4⟩
  obtain ⟨b,arr,e,fz,u0,u1,h1,h2,h3,h4,h5,r0,r1,h6,h7⟩:=jD hw (h0.g 0 rfl)
  rw [iC hr h1]
  simp only [aU] at r1
  subst r1
  refine (hnil b w (by simp [World.cell?,h2,h5])).mono ?_
  rintro x w' ⟨rfl,rfl⟩
  exact ⟨_,.str s,st,G,rfl,by simp only [aU];exact ⟨_,by simp [hnl],rfl⟩,hw.drew _,(Ext.refl _ _).drew _,hK _ hs0⟩
 have h0:SH st ([pt id (.cells [v0,.row ids 1 0 s.length]),pt ids (.uQ s T)]++Ls):=eG.2 ⟨a,b2,z1,z2,z3,z4⟩
 obtain ⟨b,arr,e,fz,u0,u1,h1,h2,h3,h4,h5,r0,r1,h6,h7⟩:=jD hw (h0.g 0 rfl)
 rw [iC hr h1]
 have ho:st[ids]? =some (.uQ s T):=h0.g 1 rfl
 have hidl:ids<G.slots.length:=by rw [hw.len];exact aD ho
 have hsl:G.slots[ids]? =some G.slots[ids]:=by simp [hidl]
 have hob:=hw.obj ids _ _ ho hsl
 generalize G.slots[ids]=sl at hob hsl
 cases sl<;>simp only [bl] at hob
 rename_i b'
 obtain ⟨arr',fz',p1,p2,p3⟩:=hob
 simp only [aU,hsl] at r1
 obtain ⟨c,e2,n,hlc,hsh,hn,rfl⟩:=r1
 have hcells: ∀j x,s[j]? =some x→w.cell? ⟨b',j,none⟩=some (.int .u8 x.toNat):=by
  intro j x hx
  have:=p3 j x hx
  simpa [World.cell?,p1] using this
 refine (hrow b b' c arr'.size s w hne (by simpa [World.cell?,h2] using h5) hlc (by simp [World.shape?,p1]) p2 hl hcells).mono ?_
 rintro x w' ⟨rfl,rfl⟩
 obtain ⟨lo',hi'⟩:=fz'
 have hn:s.length≠0:=by simpa using hne
 obtain ⟨q1,q2⟩:=BQ (w':=w.drew.freeze ⟨b',0,none⟩ s.length) (fz':=if (lo'==hi')=true then (0,0+s.length) else (min lo' 0,max hi' (0+s.length))) hw ho hsl p1
  (by simp only [World.freeze,hn,if_false,World.drew,Array.getElem?_modify,if_true,p1,Option.map_some])
  (fun k hk=>by
   simp only [World.freeze,hn,if_false,World.drew,Array.getElem?_modify]
   rw [if_neg (fun e=>hk e.symm)])
  (by simp only [World.freeze,hn,if_false,Array.size_modify];rfl)
  (by simp only [World.freeze];split<;>rfl) (by simp only [World.freeze];split<;>rfl) (by simp only [World.freeze];split<;>rfl)
 exact ⟨_,.str s,st,G,rfl,by simp only [aU];exact ⟨_,by simp,rfl⟩,q1,q2,hK _ hs0⟩
instance:iQ .ic:=⟨⟨rfl,rfl⟩⟩
def Lt (_:Unit):AV:=.ic
instance (u:Unit):iQ (Lt u):=⟨⟨rfl,rfl⟩⟩
instance:qz Lt:=⟨fun _=>⟨rfl,rfl⟩⟩
theorem BM {α :Type} {es:Nat} {f: α →AV} {o:Sl α} {id:Nat}:(br es f o id).cells=[br es f o id]:=by cases o<;>rfl
theorem JO {α :Type} {es:Nat} {f: α →AV} {o:Sl α} {id:Nat}:[br es f o id].all AV.one=true:=by cases o<;>rfl
section
variable {X:Cx} {k:List KJ} {tm:Fr} {fr:List (Nat × AV)} {st:aA} {l:List bZ} {x y:AX} {d:Nat} {L:List bU}
theorem Zf {T bytes id:Nat} {s t:aZ} (hs:SH st L) (j:Nat) (hj:L[j]? =some (nK T id (bo s))) (hx:(aR tm fr).x x=br 1 (AV.int .u8) (bo s) id) (hy:dy 1 st ((aR tm fr).x y)=some ((ig t).map (AV.int .u8))) (hb:(s.length+t.length)*bytes≤140737488355328)
  {L':Nat→List bU} (hL: ∀id,jT L j (nK T id (bo (s++t)))=some (L' id)) (hk: ∀st id,SH st (L' id)→W X (.ops l::k) (aR tm ((d,(br 1 (AV.int .u8) (bo (s++t)) id))::fr)) st):W X (.ops (⟨.some d,.none,.plain (.qj T 1 bytes x y)⟩::l)::k) (aR tm fr) st:=by
 obtain ⟨id',st',h1,h2⟩:=hs.qj (E:=X.E) (bytes:=bytes) hj hx hy (by rw [Va];simpa [ig] using hb)
 rw [Lj] at h1 h2
 exact W.po h1 (hk _ _ (eO (hL id')▸h2))
theorem slT {T id idt idt':Nat} {s t:aZ} {a:AX} (hs:SH st (pt id (.cells (uH id s idt))::nK T idt' (bo t)::L)) (hp:(aR tm fr).x a= .ptr id 1) (hx:(aR tm fr).x x=br 1 (AV.int .u8) (bo t) idt') (hk: ∀st,SH st (uI T id t::L)→W X (.ops l::k) (aR tm fr) st):
  W X (.ops (⟨.none,.none,.plain (.store 1 a x)⟩::l)::k) (aR tm fr) st:=
 sl hs 0 hp rfl (s:=[br 1 (AV.int .u8) (bo s) idt]) (s':=[br 1 (AV.int .u8) (bo t) idt']) (cs':=uH id t idt') ⟨[.ptr id 0],[],rfl,rfl,rfl⟩ rfl (by rw [hx,BM]) rfl JO rfl fun st hs=>hk st (SH.Ns hs)
end
def cM (P:Program) (E:bA) (mu:List Nat) (N:Nat) (res:List RA) (K:AV→aA→Prop):Cx:=⟨P,E,N,dQ mu,res,uL K,lR E res (uL K)⟩
theorem bM {P:Program} {E:bA} {f:FuncId} {mu:List Nat} {n:Nat} {c:aC} {res:List RA} {ds:List AV} {st:aA} {K:AV→aA→Prop} (hf:au P (dQ mu) f=some ⟨n,c,res⟩) (hl:Nat.ble ds.length n=true) (h:W (cM P E mu n res K) [.code c] (aR (fun _=>.bt []) (fi ds 0)) st):XCall P E f ds st K:=
 vO hf (Nat.le_of_ble_eq_true hl) (by rw [wK];exact h.xs)
theorem rM {P:Program} {E:bA} {mu:List Nat} {N:Nat} {res:List RA} {k:List KJ} {tm:Fr} {st:aA} {v:AV} {vs:List AV} {K:AV→aA→Prop} [hd:iQ v] (h:fh E tm st res=some vs) (hk:K v st) (hr:pack vs=v):W (cM P E mu N res K) (.code .ret::k) tm st:=rt h (Wb (by rw [hr];exact hd.h) hk)
def wsC (cc T:Nat):aC:=
 .s (.ops [q 4 (.mv (ki 0)),q 5 (.mv (.c .ic))]) (.s (.ops [q 6 (.mv 0),qc 7 cc [6]]) (.s (.ops [q 8 (.mv 0),q 9 (.mv 0),q 10 (.jg 9),q 11 (.jK 1 10),q 12 (.kg 11),q 13 (.mv 1),q 14 (.qj T 1 1 12 13),q 15 (.jg 8),q 16 (.jK 1 15),q0 (.store 1 16 14)])
  (.s (.ops [q 17 (.mv 1),q 18 (.qt 17),q 4 (.mv 18),q 5 (.mv (.c .ic))]) .ret)))
def wbC (cc T:Nat):aC:=
 .s (.ops [q 4 (.mv (.c .ic))]) (.s (.ops [q 5 (.mv 0),qc 6 cc [5]]) (.s (.ops [q 7 (.mv 0),q 8 (.mv 0),q 9 (.jg 8),q 10 (.jK 1 9),q 11 (.kg 10),q 12 (.mv 1),q 13 (.bE 1 1 false [.int .u8 0] [(0,1,12)] false),q 14 (.qj T 1 1 11 13),q 15 (.jg 7),q 16 (.jK 1 15),q0 (.store 1 16 14)])
  (.s (.ops [q 4 (.mv (.c .ic))]) .ret)))
section
variable {P:Program} {E:bA} {f cc TB T id:Nat} {s:aZ} {st:aA} {K:AV→aA→Prop} {Ls:List bU}
attribute [local irreducible] W WD SH XS XLoop DFun XCall
theorem QU (hf:au P (dQ [14]) f=some ⟨19,wsC cc T,[.tmp 4,.tmp 5]⟩) (hcc: ∀(K:AV→aA→Prop) (st:aA),SH st (iT TB T id s::Ls)→(∀st,SH st (uI T id s::Ls)→K (.bt []) st)→XCall P E cc [.ptr id 0] st K)
  {t:aZ} (hl:(s.length+t.length)*1≤140737488355328) (hs:SH st (iT TB T id s::Ls)) (hK: ∀st,SH st (iT TB T id (s++t)::Ls)→K (.bt [.int .i64 t.length,.ic]) st):XCall P E f [.ptr id 0,.str t] st K:=by
 refine bM hf rfl ?_
 refine rn 3 rfl ?_
 refine cl (dw rfl) (hcc _ _ hs fun st hs=>?_)
 obtain ⟨idt,hs⟩:=hs.zP
 refine rn 2 rfl ?_
 refine W.o (bT rfl (hs.g 0 rfl)) ?_
 refine W.o (aJ rfl (hs.g 0 rfl)) ?_
 refine W.o (l1 rfl (hs.g 0 rfl) rfl) ?_
 refine rn 1 rfl ?_
 refine Zf (s:=s) (t:=t) hs 1 rfl rfl (QH rfl) hl (fun _=>rfl) fun st idt' hs=>?_
 refine W.o (bT rfl (hs.g 0 rfl)) ?_
 refine W.o (aJ rfl (hs.g 0 rfl)) ?_
 refine slT hs rfl rfl fun st hs=>?_
 refine rn 4 rfl ?_
 exact rM (ah (ah bG)) (hK _ hs.Nr) rfl
theorem QT (hf:au P (dQ [14]) f=some ⟨17,wbC cc T,[.tmp 4]⟩) (hcc: ∀(K:AV→aA→Prop) (st:aA),SH st (iT TB T id s::Ls)→(∀st,SH st (uI T id s::Ls)→K (.bt []) st)→XCall P E cc [.ptr id 0] st K)
  {n:Int} (hn:0≤n∧n<256) (hl:(s.length+1)*1≤140737488355328) (hs:SH st (iT TB T id s::Ls)) (hK: ∀st,SH st (iT TB T id (s++[UInt8.ofNat n.toNat])::Ls)→K .ic st):XCall P E f [.ptr id 0,.int .u8 n] st K:=by
 have hb:ig [UInt8.ofNat n.toNat]=[n]:=by
  simp only [ig,List.map_cons,List.map_nil,List.cons.injEq,and_true,UInt8.toNat_ofNat']
  omega
 refine bM hf rfl ?_
 refine rn 2 rfl ?_
 refine cl (dw rfl) (hcc _ _ hs fun st hs=>?_)
 obtain ⟨idt,hs⟩:=hs.zP
 refine rn 2 rfl ?_
 refine W.o (bT rfl (hs.g 0 rfl)) ?_
 refine W.o (aJ rfl (hs.g 0 rfl)) ?_
 refine W.o (l1 rfl (hs.g 0 rfl) rfl) ?_
 refine rn 1 rfl ?_
 refine bs (f:=AV.int .u8) [n] hs rfl rfl rfl rfl fun st id2 hs=>?_
 refine Zf (s:=s) (t:=[UInt8.ofNat n.toNat]) hs 2 rfl rfl (by rw [hb];exact eR (es:=1) (f:=AV.int .u8) (o:=some [n]) (cO (id:=id2) rfl)) hl (fun _=>rfl) fun st idt' hs=>?_
 refine W.o (bT rfl (hs.g 1 rfl)) ?_
 refine W.o (aJ rfl (hs.g 1 rfl)) ?_
 have hs:=hs.p 3 [1,1] rfl
 refine slT hs rfl rfl fun st hs=>?_
 refine rn 1 rfl ?_
 exact rM (ah bG) (hK _ hs.Nr) rfl
end
theorem CB {X:Cx} {k:List KJ} {tm:Fr} {fr:List (Nat × AV)} {st:aA} {l:List bZ} {d:Nat} {L:List bU} {TB T:Nat} (hs:SH st L) (hk: ∀st id,SH st (iT TB T id []::L)→W X (.ops l::k) (aR tm ((d,.ptr id 0)::fr)) st):
  W X (.ops (⟨.some d,.none,.plain (.nD TB 2 [.iF,.aP])⟩::l)::k) (aR tm fr) st:=by
 refine W.po (v:=.ptr st.length 0) (st':=st++[.cells [.pS st.length TB 2,.aP]]) (by simp only [aE];rfl) (hk _ _ ?_)
 obtain ⟨a,b,h1,h2,h3,h4⟩:=hs.push (.cells [.pS st.length TB 2,.aP])
 exact ⟨a,b,.inl ⟨rfl,h1⟩,h2,h3,h4⟩
def MY (b s:aZ):Option (Int × Unit × aZ):=if (b.length+s.length)*1≤140737488355328 then some (s.length,(),b++s) else none
def xg (b:aZ) (n:Int):Option (Unit × aZ):=if (0≤n∧n<256)∧(b.length+1)*1≤140737488355328 then some ((),b++[UInt8.ofNat n.toNat]) else none
def By (b:aZ):Option aZ:=if b.length≤9223372036854775807 then some b else none
end Go.Proofs.YtcidnoghoifmmaaDoor.AW
end
section
set_option maxRecDepth 4000
set_option maxHeartbeats 4000000
namespace Go.Proofs.YtcidnoghoifmmaaDoor
open Go AW Go.RowKit
set_option maxRecDepth 100000
attribute [local irreducible] W WD SH XS XLoop DFun XCall XYield
theorem Kz (b:Nat) (w:World) (h0:w.cell? ⟨b,0,none⟩=some (.pointer (some ⟨b,0,none⟩))):
  Calls Tryd.prog 87 #[.pointer (some ⟨b,0,none⟩)] w fun e w'=>e= .returned (.tuple #[])∧w'=w:=by
 obtain ⟨j,hj,_⟩:=Option.map_eq_some_iff.1 (show (Tryd.prog.info? 106).map (·.size)=some 2 by kernel_rfl)
 go_enter Tryd.func87,Tryd.ntmps87
 go_wp2
 rw [Lib.run_neq_ptr_same w _ Tryd.underlying104 hj]
 go_wp2
 go_end0
 exact ⟨rfl,rfl⟩
theorem Hx (b:Nat) (w:World) (h0:w.cell? ⟨b,0,none⟩=some (.pointer none)) (hsh:w.shape? b=some (106,2)) (hfz:w.frozen? ⟨b,0,none⟩=false):
  Calls Tryd.prog 87 #[.pointer (some ⟨b,0,none⟩)] w fun e w'=>e= .returned (.tuple #[])∧w'=w.setCell ⟨b,0,none⟩ (.pointer (some ⟨b,0,none⟩)):=by
 obtain ⟨j,hj,hjs⟩:=Option.map_eq_some_iff.1 (show (Tryd.prog.info? 106).map (·.size)=some 2 by kernel_rfl)
 go_enter Tryd.func87,Tryd.ntmps87
 go_wp2
 rw [Lib.run_to_unsafe w ⟨b,0,none⟩ Tryd.underlying104 Tryd.underlying134 hj (by rw [hjs];decide) hsh (Nat.zero_lt_succ 1)]
 simp only [Result.andThen]
 rw [Oper.upon_value]
 go_wp2
 rw [run_callFunc_extern Tryd.func95 (by kernel_rfl) (by kernel_rfl) (by kernel_rfl) (e:=Extern.AbiNoEscape.same) (by kernel_rfl)]
 rw [Lib.run_noEscape]
 simp only [Result.andThen]
 rw [Oper.upon_value]
 go_wp2
 rw [Lib.run_from_unsafe w ⟨b,0,none⟩ Tryd.underlying134 Tryd.underlying104 hj hsh (by kernel_rfl)]
 simp only [Result.andThen]
 rw [Oper.upon_value]
 go_wp2
 go_end0
 exact ⟨rfl,rfl⟩
theorem BZ (b:Nat) (w:World) (h1:w.cell? ⟨b,1,none⟩=some (.slice none 0 0)):
  Calls Tryd.prog 62 #[.pointer (some ⟨b,0,none⟩)] w fun e w'=>e= .returned (.string ⟨#[]⟩)∧w'=w.drew:=by
 have c1:w.drew.cell? ⟨b,1,none⟩=some (.slice none 0 0):=h1
 have hUS:=fun (W:World) (q:Option Addr)=>Lib.run_unsafeString_none (P:=Tryd.prog) W 130 3 9 q
 have hSD:(Builtin.unsafeSliceData_ #[67] 130 #[.slice none 0 0]).run Tryd.prog w.drew= .ok (.pointer none) w.drew:=rfl
 go_enter Tryd.func62,Tryd.ntmps62
 go_wp2
 go_region
 all_goals (go_wp2;go_ret;exact ⟨rfl,rfl⟩)
theorem Ba (b g cap cells:Nat) (l:List UInt8) (w:World) (hne:l≠[]) (h1:w.cell? ⟨b,1,none⟩=some (.slice (some ⟨g,0,none⟩) l.length cap)) (hlc:l.length≤cap) (hsh:w.shape? g=some (5,cells)) (hls:l.length≤cells) (hl:l.length≤9223372036854775807)
  (hc: ∀j x,l[j]? =some x→w.cell? ⟨g,j,none⟩=some (.int .u8 x.toNat)):
  Calls Tryd.prog 62 #[.pointer (some ⟨b,0,none⟩)] w fun e w'=>e= .returned (.string ⟨l.toArray⟩)∧w'=w.drew.freeze ⟨g,0,none⟩ l.length:=by
 have c1:w.drew.cell? ⟨b,1,none⟩=some (.slice (some ⟨g,0,none⟩) l.length cap):=h1
 have h0:l.length≠0:=by simpa using hne
 have hSD:(Builtin.unsafeSliceData_ #[67] 130 #[.slice (some ⟨g,0,none⟩) l.length cap]).run Tryd.prog w.drew= .ok (.pointer (some ⟨g,0,none⟩)) w.drew:=
  Lib.run_unsafeSliceData_row _ _ _ _ _ _ (by omega)
 have hUS:(Builtin.unsafeString_ #[130,3] 9 #[.pointer (some ⟨g,0,none⟩),.int .i64 l.length]).run Tryd.prog w.drew= .ok (.string ⟨l.toArray⟩) (w.drew.freeze ⟨g,0,none⟩ l.length):=
  Lib.run_unsafeString_row w.drew 130 3 9 5 Tryd.underlying130 (by kernel_rfl) g cells hsh l hne hls hl fun j x hx=>by
   have e:({block:=g,off:=0}:Addr).add j=⟨g,j,none⟩:=(fG g 0 j).trans (by rw [Nat.zero_add])
   rw [e];exact hc j x hx
 clear hc h0 hlc hsh hls
 go_enter Tryd.func62,Tryd.ntmps62
 go_wp2
 go_region
 all_goals (go_wp2;go_ret;exact ⟨rfl,rfl⟩)
theorem cc {E:bA} {id:Nat} {s:aZ} {Ls:List bU} (K:AV→aA→Prop) (st:aA) (hs:SH st (iT 106 5 id s::Ls)) (hK: ∀st,SH st (uI 5 id s::Ls)→K (.bt []) st):XCall Tryd.prog E 87 [.ptr id 0] st K:=DV Hx Kz hs hK
theorem dST {E:bA} (b:aZ) (r:aZ) (hF:By b=some r): ∀(K:AV→aA→Prop) (Ls:List bU) (iP0:Nat),(∀st,SH st Ls→K (AV.str r) st)→ ∀(st:aA),SH st (iT 106 5 iP0 b::Ls)→XCall Tryd.prog E 62 [.ptr iP0 0] st K:=by
 intro K Ls iP0 hK st hs
 unfold By at hF
 split at hF
 ·rename_i h;cases hF;exact AY BZ Ba h hs hK
 cases hF
theorem Xh {E:bA} (b:aZ) (r:aZ) (hF:By b=some r): ∀(K:AV→aA→Prop) (Ls:List bU) (iP0:Nat),(∀st,SH st (DU 5 iP0 b::Ls)→K (AV.str r) st)→ ∀(st:aA),SH st (iT 106 5 iP0 b::Ls)→XCall Tryd.prog E 62 [.ptr iP0 0] st K:=by
 intro K Ls iP0 hK st hs
 unfold By at hF
 split at hF
 ·rename_i h;cases hF;exact xm BZ Ba h hs hK
 cases hF
theorem Xi {E:bA} (b:aZ) (r:aZ) (hF:By b=some r): ∀(K:AV→aA→Prop) (Ls:List bU) (iP0:Nat),(∀st,SH st (DU 5 iP0 b::Ls)→K (AV.str r) st)→ ∀(st:aA),SH st (DU 5 iP0 b::Ls)→XCall Tryd.prog E 62 [.ptr iP0 0] st K:=by
 intro K Ls iP0 hK st hs
 unfold By at hF
 split at hF
 ·rename_i h;cases hF;exact xk BZ Ba h hs hK
 cases hF
theorem kWS:au Tryd.prog (dQ [14]) 59=some ⟨19,wsC 87 5,[.tmp 4,.tmp 5]⟩:=by kernel_rfl
theorem Zi {E:bA} (b s:aZ) (r:Int × Unit × aZ) (hF:MY b s=some r): ∀(K:AV→aA→Prop) (Ls:List bU) (iP0:Nat),(∀st,SH st (iT 106 5 iP0 r.2.2::Ls)→K (AV.bt [AV.int .i64 r.1,Lt r.2.1]) st)→ ∀(st:aA),SH st (iT 106 5 iP0 b::Ls)→XCall Tryd.prog E 59 [.ptr iP0 0,.str s] st K:=by
 intro K Ls iP0 hK st hs
 unfold MY at hF
 split at hF
 ·rename_i h;cases hF;exact QU kWS cc h hs hK
 cases hF
theorem kWB:au Tryd.prog (dQ [14]) 61=some ⟨17,wbC 87 5,[.tmp 4]⟩:=by kernel_rfl
theorem WY {E:bA} (b:aZ) (n:Int) (r:Unit × aZ) (hF:xg b n=some r): ∀(K:AV→aA→Prop) (Ls:List bU) (iP0:Nat),(∀st,SH st (iT 106 5 iP0 r.2::Ls)→K (Lt r.1) st)→ ∀(st:aA),SH st (iT 106 5 iP0 b::Ls)→XCall Tryd.prog E 61 [.ptr iP0 0,.int .u8 n] st K:=by
 intro K Ls iP0 hK st hs
 unfold xg at hF
 split at hF
 ·rename_i h;cases hF;exact QT kWB cc h.1 h.2 hs hK
 cases hF
end Go.Proofs.YtcidnoghoifmmaaDoor
end
section
namespace Go.Proofs.YtcidnoghoifmmaaDoor.AW
open Go

theorem oZ {G:Gh}: ∀ {A B:List AV} {us:List Value},aW G (A++B) us↔ ∃u1 u2,us=u1++u2∧aW G A u1∧aW G B u2
  | [],B,us=>by
    simp only [List.nil_append,aW]
    exact ⟨fun h=>⟨[],us,rfl,rfl,h⟩,fun ⟨_,_,h1,h2,h3⟩=>by subst h2;subst h1;exact h3⟩
  | a::A,B,us=>by
    simp only [List.cons_append,aW]
    constructor
    · rintro ⟨u,us',rfl,h1,h2⟩
      obtain ⟨u1,u2,rfl,h3,h4⟩:=oZ.1 h2
      exact ⟨u::u1,u2,rfl,⟨u,u1,rfl,h1,h3⟩,h4⟩
    rintro ⟨u1,u2,rfl,⟨u,u1',rfl,h1,h3⟩,h4⟩
    exact ⟨u,u1'++u2,rfl,h1,oZ.2 ⟨u1',u2,rfl,h3,h4⟩⟩
theorem Lq {G:Gh} {sl:Slot} {es id:Nat} {xs:List AV} {u:Value} (hsl:G.slots[id]? =some sl) (hd:AV.dP xs=true) (hx:AV.cG xs=xs) (h:aU G (.sl es xs (some id)) u):aU {slots:=[sl],M:=G.M,sh:=G.sh} (.sl es xs (some 0)) u:=by
 have h2:=fU (G:=G) (G':={slots:=[sl],M:=G.M,sh:=G.sh}) (fun _ _ _ h=>h) (v:=.sl es xs (some id)) (by simpa only [AV.data] using hd) h
 simp only [AV.strip,hx] at h2
 simp only [aU] at h h2 ⊢
 obtain ⟨b,o,c,_,h3,ht,sp,hsp,rfl⟩:=h
 obtain ⟨b',o',c',h4,h5,_,sp',hsp',he⟩:=h2
 obtain rfl:sp=none:=by
  rcases hsp with h | h
  ·exact h
  cases h.2
 cases he
 refine ⟨b,o,c,h4,h3,?_,none,.inl rfl,rfl⟩
 simp only [gB,hsl,List.getElem?_cons_zero] at ht ⊢
 exact ht
theorem yU {P:Program} {E:bA} {f:FuncId} {A B:List AV} {id:Nat} {v xv xv0:AV} {ob:cz} (hA:AV.dP A=true∧AV.cG A=A) (hB:AV.dP B=true∧AV.cG B=B) (hv:v.data=true∧v.strip=v)
  (hobr: ∀(G:Gh) (w:World) (sl:Slot),bl G w ob sl→bl {slots:=[sl],M:=G.M,sh:=G.sh} w ob sl) (hrep0: ∀(G:Gh) (u:Value) (sl:Slot),G.slots[id]? =some sl→aU G xv u→aU {slots:=[sl],M:=G.M,sh:=G.sh} xv0 u)
  (h:XCall P E f (A++(xv0::B)) [ob] fun r _=>r=v):AE P E f (A++(xv::B)) v id ob:=by
 intro s hs G w vs hr hst
 have hidl:id<G.slots.length:=by rw [hst.len];exact aD hs
 obtain ⟨sl,hsl⟩: ∃sl,G.slots[id]? =some sl:=⟨G.slots[id],by simp [hidl]⟩
 have hmem:sl∈G.slots:=List.mem_of_getElem? hsl
 have hob:=hst.obj id _ _ hs hsl
 have hs1:aG E {slots:=[sl],M:=G.M,sh:=G.sh} [ob] w:=by
  refine ⟨rfl,fun i o t hi hti=>?_,fun i j t t' b hij hti htj _=>?_,hst.mem,hst.one,hst.jU,hst.gG⟩
  ·have hi0:=aD hi
   simp only [List.length_singleton] at hi0
   obtain rfl:i=0:=by omega
   cases hi
   have hti':([sl]:List Slot)[0]? =some t:=hti
   cases hti'
   exact hobr G w sl hob
  have h1:=aD hti
  have h2:=aD htj
  simp only [List.length_singleton] at h1 h2
  omega
 have hr1:aW {slots:=[sl],M:=G.M,sh:=G.sh} (A++(xv0::B)) vs:=by
  obtain ⟨u1,u2,rfl,h1,h2⟩:=oZ.1 hr
  simp only [aW] at h2
  obtain ⟨u,u3,rfl,h2,h3⟩:=h2
  have g1:=fE (G:=G) (G':={slots:=[sl],M:=G.M,sh:=G.sh}) (fun _ _ _ h=>h) hA.1 h1
  have g3:=fE (G:=G) (G':={slots:=[sl],M:=G.M,sh:=G.sh}) (fun _ _ _ h=>h) hB.1 h3
  rw [hA.2] at g1
  rw [hB.2] at g3
  refine oZ.2 ⟨u1,u::u3,rfl,g1,?_⟩
  simp only [aW]
  exact ⟨u,u3,rfl,hrep0 G u sl hsl h2,g3⟩
 refine (h _ w vs hr1 hs1).mono fun e w' ⟨u,r,st',G',he,hr',hs',hext,hrv⟩=>?_
 subst hrv
 have hblk: ∀b,b<w.heap.size→sl.blk≠some b→w'.heap[b]? =w.heap[b]? :=fun b hb hn=>hext.block b hb fun t ht=>by
  simp only [List.mem_singleton] at ht
  subst ht
  exact hn
 have hnewM: ∀b o u,G'.M b o=some u→G.M b o=some u∨sl.blk=some b∨w.heap.size≤b:=fun b o u hu=>by
  rcases hext.uM b o u hu with h' | ⟨t,ht,h'⟩ | h'
  ·exact .inl h'
  ·simp only [List.mem_singleton] at ht
   subst ht
   exact .inr (.inl h')
  exact .inr (.inr h')
 have key: ∀(i:Nat) (t:Slot),G.slots[i]? =some t→(G.slots.set id .dead)[i]? =some t∨(G.slots.set id .dead)[i]? =some .dead:=fun i t hi=>by
  by_cases e':id=i
  ·subst e';exact .inr (List.getElem?_set_self hidl)
  exact .inl (by rw [List.getElem?_set_ne e'];exact hi)
 have hg:cj G {slots:=G.slots.set id .dead,M:=G'.M,sh:=G.sh}:=
  ⟨fun _ _ h=>h,hext.g.M,by simp,fun i b hi=>key i _ hi,fun i b hi=>key i _ hi,fun i hi=>by rcases key i _ hi with h' | h'<;>exact h',fun i b lo hi n hi'=>by
   rcases key i _ hi' with h' | h'
   ·exact .inr ⟨b,lo,hi,n,h',Nat.le_refl _,fun _=>⟨rfl,rfl,rfl⟩⟩
   exact .inl h'⟩
 have hrep:=fU (G:=G') (G':={slots:=G.slots.set id .dead,M:=G'.M,sh:=G.sh}) (fun _ _ _ h=>h) hv.1 hr'
 rw [hv.2] at hrep
 refine ⟨u,r,s.set id .dead,{slots:=G.slots.set id .dead,M:=G'.M,sh:=G.sh},he,hrep,⟨by simp [hst.len],?_,?_,hs'.mem,hs'.one,fun b e n hx=>hs'.jU b e n (hext.g.sh _ _ hx),hst.gG.mono hg⟩,⟨hg,hext.os,hext.tape,hext.output,hext.size,fun b hb hn=>hblk b hb (hn sl hmem),fun b o u hu=>?_,fun t htm q hq=>?_⟩,rfl,rfl⟩
 ·intro i o t hi hti
  have hti':(G.slots.set id .dead)[i]? =some t:=hti
  by_cases e':id=i
  ·subst e'
   rw [List.getElem?_set_self (aD hs)] at hi;cases hi
   rw [List.getElem?_set_self hidl] at hti';cases hti'
   trivial
  rw [List.getElem?_set_ne e'] at hi
  rw [List.getElem?_set_ne e'] at hti'
  have ho':=hst.obj i o t hi hti'
  have hap: ∀b,t.blk=some b→sl.blk≠some b:=fun b hb=>hst.apart i id t sl b (Ne.symm e') hti' hsl hb
  refine ho'.keep hg (fun b hb=>hblk b (ho'.block hb) (hap b hb)) fun b o u hb hu=>?_
  rcases hnewM b o u hu with h' | h' | h'
  ·exact h'
  ·exact absurd h' (hap b hb)
  have:=ho'.block hb;omega
 ·intro i j t t' b' hij hti htj hbt
  have hti':(G.slots.set id .dead)[i]? =some t:=hti
  have htj':(G.slots.set id .dead)[j]? =some t':=htj
  by_cases ei:id=i
  ·subst ei;rw [List.getElem?_set_self hidl] at hti';cases hti';cases hbt
  rw [List.getElem?_set_ne ei] at hti'
  by_cases ej:id=j
  ·subst ej;rw [List.getElem?_set_self hidl] at htj';cases htj';intro hx;cases hx
  rw [List.getElem?_set_ne ej] at htj'
  exact hst.apart i j t t' b' hij hti' htj' hbt
 ·rcases hnewM b o u hu with h' | h' | h'
  ·exact .inl h'
  ·exact .inr (.inl ⟨sl,hmem,h'⟩)
  exact .inr (.inr h')
 have htm':t∈G.slots.set id .dead:=htm
 rcases List.mem_or_eq_of_mem_set htm' with h' | rfl
 ·exact .inl ⟨t,h',hq⟩
 cases hq
theorem As {P:Program} {E:bA} {f:FuncId} {A B xs:List AV} {es id n:Nat} {v:AV} (hA:AV.dP A=true∧AV.cG A=A) (hB:AV.dP B=true∧AV.cG B=B) (hxs:AV.dP xs=true∧AV.cG xs=xs) (hv:v.data=true∧v.strip=v)
  (h:XCall P E f (A++(.sl es xs (some 0)::B)) [.tail n] fun r _=>r=v):AE P E f (A++(.sl es xs (some id)::B)) v id (.tail n):=
 yU hA hB hv (fun G w sl h=>by cases sl<;>simp only [bl] at h ⊢;exact h) (fun G u sl hsl h=>Lq hsl hxs.1 hxs.2 h) h
theorem yT {P:Program} {E:bA} {f:FuncId} {A B cs:List AV} {es id n:Nat} {v:AV} (hA:AV.dP A=true∧AV.cG A=A) (hB:AV.dP B=true∧AV.cG B=B) (hcs:AV.dP cs=true∧AV.cG cs=cs) (hv:v.data=true∧v.strip=v)
  (h:XCall P E f (A++(.row 0 es 0 n::B)) [.cells cs] fun r _=>r=v):AE P E f (A++(.row id es 0 n::B)) v id (.cells cs):=by
 refine yU hA hB hv (fun G w sl h=>?_) (fun G u sl hsl h=>?_) h
 ·have key: ∀us,aW G cs us→aW {slots:=[sl],M:=G.M,sh:=G.sh} cs us:=fun us h3=>by
   have:=fE (G:=G) (G':={slots:=[sl],M:=G.M,sh:=G.sh}) (fun _ _ _ h=>h) hcs.1 h3
   rwa [hcs.2] at this
  cases sl<;>simp only [bl] at h ⊢
  obtain ⟨⟨arr,e,fz,h1,h2,h3,h4⟩,h5⟩:=h
  exact ⟨⟨arr,e,fz,h1,h2,key _ h3,h4⟩,h5⟩
 simp only [aU,hsl,List.getElem?_cons_zero] at h ⊢
 exact h
theorem CK {α :Type} {g: α →AV} (hg: ∀x,DS (g x) (g x)): ∀m:List α,uE (m.map g) (m.map g)
 | []=>kC
 | x::m=>lQ (hg x) (CK hg m)
theorem It {P:Program} {E:bA} {f:FuncId} {A B:List AV} [hA:gT A] [hB:gT B] {v:AV} [hv:iQ v] {α :Type} {es id:Nat} {g: α →AV} [hg:qz g] {m:List α}
  (h: ∀(K:AV→aA→Prop) (Ls:List bU) (iP:Nat),(∀st,SH st Ls→K v st)→ ∀st,SH st (dK iP (some m)::Ls)→XCall P E f (A++(br es g (some m) iP::B)) st K):AE P E f (A++(br es g (some m) id::B)) v id (.tail m.length):=by
 have hm:AV.dP (m.map g)=true∧AV.cG (m.map g)=m.map g:=CK hg.h m
 refine As hA.h hB.h hm hv.h (h _ [] 0 (fun _ _=>rfl) [.tail m.length] ?_)
 exact SH.push (st:=[]) SH.nil (.tail m.length)
theorem yA {α :Type} {c: α →List AV} (hc: ∀x,uE (c x) (c x)): ∀m:List α,uE (m.flatMap c) (m.flatMap c)
 | []=>kC
 | x::m=>by rw [List.flatMap_cons];exact jH (hc x) (yA hc m)
theorem Iu {P:Program} {E:bA} {f:FuncId} {A B:List AV} [hA:gT A] [hB:gT B] {v:AV} [hv:iQ v] {α :Type} {es id:Nat} {c: α →List AV} (hc: ∀x,uE (c x) (c x)) {m:List α}
  (h: ∀(K:AV→aA→Prop) (Ls:List bU) (iP:Nat),(∀st,SH st Ls→K v st)→ ∀st,SH st (lC c iP (some m)::Ls)→XCall P E f (A++(fC es (some m) iP::B)) st K):AE P E f (A++(fC es (some m) id::B)) v id (.cells (m.flatMap c)):=by
 refine yT hA.h hB.h (yA hc m) hv.h (h _ [] 0 (fun _ _=>rfl) [.cells (m.flatMap c)] ?_)
 exact SH.push (st:=[]) SH.nil (.cells (m.flatMap c))
section
variable {X:Cx} {k:List KJ} {tm:Fr} {fr:List (Nat × AV)} {st:aA} {l suf:List bZ} {d:Nat} {st0:aA} {mr r:Nat} {L L':List bU}
theorem Rq {f:FuncId} {xs:List AX} (c:Nat) {A B:List AV} [hA:gT A] [hB:gT B] {v:AV} [hv:iQ v] {α :Type} {es id:Nat} {g: α →AV} [hg:qz g] {m:List α} (hs:SH st L) (j:Nat) (hcb:eH X.P f=true)
  (h: ∀(K:AV→aA→Prop) (Ls:List bU) (iP:Nat),(∀st,SH st Ls→K v st)→ ∀st,SH st (dK iP (some m)::Ls)→XCall X.P X.E f (A++(br es g (some m) iP::B)) st K)
  (hm:AX.t c∈xs) (ht:aR tm fr c=br es g (some m) id) (ha:xs.map (aR tm fr).x=A++(br es g (some m) id::B)) (hl:st0.length≤id) (hp:lg 1 [j] L=some (dK id (some m)::L'))
  (hk: ∀st,SH st L'→WD X st0 mr l r suf k (aR tm ((d,v)::fr)) st):WD X st0 mr (⟨.some d,.none,.fH (.c (.fn f [])) xs⟩::l) r suf k (aR tm fr) st:=by
 have hs2:SH st (dK id (some m)::L'):=hs.p 1 [j] hp
 have hget:st[id]? =some (.tail m.length):=hs2.g 0 rfl
 have hkf:=It (id:=id) h
 rw [←ha] at hkf
 simp only [WD]
 refine uv st0 mr (.some d) f xs l r _ (aR tm fr) st hcb hm (.inl ⟨_,_,ht⟩) hl hget trivial hkf ?_
 rw [dZ]
 exact hk _ (SH.kill hs2)
theorem Ud {f:FuncId} {xs:List AX} (q:Nat) {A B:List AV} [hA:gT A] [hB:gT B] {v:AV} [hv:iQ v] {α :Type} {es id:Nat} {c: α →List AV} (hc: ∀x,uE (c x) (c x)) {m:List α} (hs:SH st L) (j:Nat) (hcb:eH X.P f=true)
  (h: ∀(K:AV→aA→Prop) (Ls:List bU) (iP:Nat),(∀st,SH st Ls→K v st)→ ∀st,SH st (lC c iP (some m)::Ls)→XCall X.P X.E f (A++(fC es (some m) iP::B)) st K)
  (hm:AX.t q∈xs) (ht:aR tm fr q=fC es (some m) id) (ha:xs.map (aR tm fr).x=A++(fC es (some m) id::B)) (hl:st0.length≤id) (hp:lg 1 [j] L=some (lC c id (some m)::L'))
  (hk: ∀st,SH st L'→WD X st0 mr l r suf k (aR tm ((d,v)::fr)) st):WD X st0 mr (⟨.some d,.none,.fH (.c (.fn f [])) xs⟩::l) r suf k (aR tm fr) st:=by
 have hs2:SH st (lC c id (some m)::L'):=hs.p 1 [j] hp
 have hget:st[id]? =some (.cells (m.flatMap c)):=hs2.g 0 rfl
 have hkf:=Iu (id:=id) hc h
 rw [←ha] at hkf
 simp only [WD]
 refine uv st0 mr (.some d) f xs l r _ (aR tm fr) st hcb hm (.inr ⟨_,_,_,ht⟩) hl hget trivial hkf ?_
 rw [dZ]
 exact hk _ (SH.kill hs2)
theorem Zj {α :Type} {c: α →List AV} {es len:Nat} {ag:Bool} {zero:List AV} {parts:List (Nat × Nat × AX)} (m:List α) (hs:SH st L) (j:Nat) (hp:An (len*es) parts (aR tm fr)=true) (hf:av (cJ zero len) (mI parts (aR tm fr))=m.flatMap c) (hl:Nat.beq m.length len=true) (hj:L[j]? =some (pt (st0.length+r) .bB))
  (hL:jT L j (lC c (st0.length+r) (some m))=some L') (hk: ∀st,SH st L'→WD X st0 mr l (r+1) suf k (aR tm ((d,(fC es (some m) (st0.length+r)))::fr)) st):WD X st0 mr (⟨.some d,.none,.plain (.bE es len ag zero parts true)⟩::l) r suf k (aR tm fr) st:=by
 have hu:=hs.g j hj
 have hl':=Nat.eq_of_beq_eq_true hl
 have h2:SH _ (L.set j (lC c (st0.length+r) (some m))):=hs.set hj (.cells (m.flatMap c))
 have h3:=hk _ (eO hL▸h2)
 simp only [WD] at h3 ⊢
 refine wR st0 mr (.some d) es len ag zero parts l r _ (aR tm fr) st (oF hp) hu ?_
 rw [hf,dZ]
 simp only [fC,hl'] at h3
 exact h3
end
section
def Rh (P:bU):Prop:= ∀h:PH,P h→ ∀i o,h i=some o→o.live=true
theorem JE {id:Nat} {o:cz} (ho:o.live=true):Rh (pt id o):=fun h hp i x hx=>by
 have:=hp i
 rw [hx] at this
 split at this
 ·cases this;exact ho
 cases this
theorem wX {id:Nat} {cs:List AV}:Rh (pt id (.cells cs)):=JE rfl
theorem BC {α :Type} {c: α →List AV} {id:Nat} {o:Sl α}:Rh (lC c id o):=by
 cases o with
 | none=>intro h hp i x hx;rw [hp i] at hx;cases hx
 | some l=>exact JE rfl
theorem tj: ∀(L:List bU) (h k:PH),eX L h→(∀P∈L,Rh P)→(∀i o,h i=some o→o.live=true→k i=some o)→eX L k
  | [],_,_,_,_,_=>trivial
  | P::L,h,k,⟨a,b,hp,hl,hd,he⟩,hL,hk=>by
    have ha: ∀i o,a i=some o→k i=some o:=fun i o hi=>hk i o (by rw [he i];exact PH.lB hi) (hL P List.mem_cons_self a hp i o hi)
    refine ⟨a,fun i=>if (a i).isSome then none else k i,hp,?_,fun i=>?_,fun i=>?_⟩
    · refine tj L b _ hl (fun Q hQ=>hL Q (List.mem_cons_of_mem _ hQ)) fun i o hb ho=>?_
      have hai:a i=none:=(hd i).resolve_right (by rw [hb];simp)
      simp only [hai,Option.isSome_none,Bool.false_eq_true,if_false]
      exact hk i o (by rw [he i,PH.iA hai];exact hb) ho
    · cases h1:a i with
      | none=>exact .inl rfl
      | some o=>exact .inr (by simp [h1])
    cases h1:a i with
    | none=>rw [PH.iA h1];simp [h1]
    | some o=>rw [PH.lB h1];exact ha i o h1
theorem SH.Iz {st s:aA} {P Q:bU} {L:List bU} (hs:SH st (P::Q::L)) (hP:Rh P) (hQ:Rh Q) (hA:Agree st s):SH s [P,Q]:=by
 obtain ⟨a,b,hp,⟨c,d,hq,_,h3,h4⟩,h5,h6⟩:=hs
 refine tj [P,Q] (fun i=>st[i]?) _ ⟨a,b,hp,⟨c,d,hq,trivial,h3,h4⟩,h5,h6⟩ (fun R hR=>?_) fun i o h1 h2=>hA.l i o h1 h2
 rcases List.mem_cons.1 hR with rfl | hR
 ·exact hP
 rw [List.mem_singleton] at hR;subst hR;exact hQ
variable {X:Cx} {k:List KJ} {tm:Fr} {fr:List (Nat × AV)} {st st0:aA} {mr r:Nat} {l suf:List bZ} {d:Nat}
theorem Xk {f:FuncId} {xs:List AX} {ds:List AV} {v:AV} (h:PM X.P X.E f ds v st0) (ha:xs.map (aR tm fr).x=ds) (hk:WD X st0 mr l r suf k (aR tm ((d,v)::fr)) st):WD X st0 mr (⟨.some d,.none,.call f xs⟩::l) r suf k (aR tm fr) st:=by
 simp only [WD,uu]
 exact ⟨v,.inr (by rw [ha];exact h),by rw [dZ];exact hk⟩
end
theorem bj {α β :Type} {x:Option α} {f: α →Option β} {r: β} {C:Prop} (h:(x>>=f)=some r) (k: ∀v,x=some v→f v=some r→C):C:=by
 obtain ⟨v,h1,h2⟩:=bind_some h
 exact k v h1 h2
theorem gj {p:Prop} [Decidable p] {β :Type} {x:Option β} {r: β} {C:Prop} (h:(if p then x else none)=some r) (k:p→x=some r→C):C:=by
 obtain ⟨h1,h2⟩:=jc h
 exact k h1 h2
end Go.Proofs.YtcidnoghoifmmaaDoor.AW
end
section
set_option maxRecDepth 4000
set_option maxHeartbeats 4000000
namespace Go.Proofs.YtcidnoghoifmmaaDoor
open Go AW
attribute [local irreducible] W WD SH XS XLoop DFun XCall XYield
def Hi (a:an 20 Int):List AV:=cA (cI .u64) a
instance (a:an 20 Int):gT (Hi a):=⟨Md (fun x=>(inferInstance:gT ((cI .u64) x)).h) a⟩
def v145 (x:an 20 Int):AV:=.agg (Hi x)
instance (x:an 20 Int):iQ (v145 x):=⟨gK (inferInstance:gT (Hi x)).h⟩
instance:qz v145:=⟨fun x=>(inferInstance:iQ (v145 x)).h⟩
def jE (a:an 4 Int):List AV:=cF (cI .u64) 0 a.l 4 0
theorem eB (a:an 4 Int):(jE a).length=4:=rfl
instance (a:an 4 Int):gT (jE a):=by unfold jE;infer_instance
theorem Kw (a:an 4 Int):(jE a).all AV.one=true:=rfl
def v24 (x:an 4 Int):AV:=.agg (jE x)
instance (x:an 4 Int):iQ (v24 x):=⟨gK (inferInstance:gT (jE x)).h⟩
instance:qz v24:=⟨fun x=>(inferInstance:iQ (v24 x)).h⟩
theorem wB:MM [.i,.i,.i,.i] jE:=Uv (uj .u64) rfl
structure aK where
 Kind:Int
 Set:an 4 Int
 Min:Int
 Max:Int
 aH:Int
 Kids:Option (List aK)
mutual
def bn:aK→List AV
 | ⟨x0,x1,x2,x3,x4,x5⟩=>(cI .u8) x0++(jE x1++((cI .i64) x2++((cI .i64) x3++((cI .i64) x4++([yX x5])))))
def yX:Option (List aK)→AV
 | none=>.aP
 | some l=>.sl 9 (wS l) none
def wS:List aK→List AV
 | []=>[]
 | x::l=>.agg (bn x)::wS l
end
def dL (x:aK):AV:=.agg (bn x)
theorem ya: ∀l:List aK,wS l=l.map dL
 | []=>by rw [wS];rfl
 | x::l=>by rw [wS,ya l];rfl
theorem LV (o:Option (List aK)):yX o=cg 9 dL o:=by
 cases o with
 | none=>rw [yX];rfl
 | some l=>rw [yX,ya];rfl
theorem dh (x:aK):bn x=(cI .u8) x.Kind++(jE x.Set++((cI .i64) x.Min++((cI .i64) x.Max++((cI .i64) x.aH++((fF 9 dL) x.Kids))))):=by
 obtain ⟨x0,x1,x2,x3,x4,x5⟩:=x
 rw [bn,LV]
 rfl
theorem aF (x:aK):(bn x).length=9:=by rw [dh];simp only [List.length_append,(aS .i64),(aS .u8),eB,aO]
theorem aX (x:aK):(bn x).all AV.one=true:=by rw [dh];exact (gN ((fL .u8) x.Kind) (gN (Kw x.Set) (gN ((fL .i64) x.Min) (gN ((fL .i64) x.Max) (gN ((fL .i64) x.aH) (jF x.Kids))))))
theorem bI (x:aK):LR (bn x) 0 ((cI .u8) x.Kind) ((cI .u8) x.Kind) (bn x):=
 ⟨[],jE x.Set++((cI .i64) x.Min++((cI .i64) x.Max++((cI .i64) x.aH++((fF 9 dL) x.Kids)))),by rw [dh];simp only [List.append_assoc,List.nil_append,List.append_nil],by rw [dh];simp only [List.append_assoc,List.nil_append,List.append_nil],by simp only [List.length_append,List.length_nil,(aS .i64),(aS .u8),eB,aO]⟩
theorem je (x:aK) (v:Int):LR (bn x) 0 ((cI .u8) x.Kind) ((cI .u8) v) (bn {x with Kind:=v}):=
 ⟨[],jE x.Set++((cI .i64) x.Min++((cI .i64) x.Max++((cI .i64) x.aH++((fF 9 dL) x.Kids)))),by rw [dh];simp only [List.append_assoc,List.nil_append,List.append_nil],by rw [dh];simp only [List.append_assoc,List.nil_append,List.append_nil],by simp only [List.length_append,List.length_nil,(aS .i64),(aS .u8),eB,aO]⟩
theorem mR (x:aK):LR (bn x) 1 (jE x.Set) (jE x.Set) (bn x):=
 ⟨(cI .u8) x.Kind,(cI .i64) x.Min++((cI .i64) x.Max++((cI .i64) x.aH++((fF 9 dL) x.Kids))),by rw [dh];simp only [List.append_assoc,List.nil_append,List.append_nil],by rw [dh];simp only [List.append_assoc,List.nil_append,List.append_nil],by simp only [List.length_append,List.length_nil,(aS .i64),(aS .u8),eB,aO]⟩
theorem JD (x:aK) (v:an 4 Int):LR (bn x) 1 (jE x.Set) (jE v) (bn {x with Set:=v}):=
 ⟨(cI .u8) x.Kind,(cI .i64) x.Min++((cI .i64) x.Max++((cI .i64) x.aH++((fF 9 dL) x.Kids))),by rw [dh];simp only [List.append_assoc,List.nil_append,List.append_nil],by rw [dh];simp only [List.append_assoc,List.nil_append,List.append_nil],by simp only [List.length_append,List.length_nil,(aS .i64),(aS .u8),eB,aO]⟩
theorem cm (x:aK):LR (bn x) 5 ((cI .i64) x.Min) ((cI .i64) x.Min) (bn x):=
 ⟨(cI .u8) x.Kind++(jE x.Set),(cI .i64) x.Max++((cI .i64) x.aH++((fF 9 dL) x.Kids)),by rw [dh];simp only [List.append_assoc,List.nil_append,List.append_nil],by rw [dh];simp only [List.append_assoc,List.nil_append,List.append_nil],by simp only [List.length_append,List.length_nil,(aS .i64),(aS .u8),eB,aO]⟩
theorem JC (x:aK) (v:Int):LR (bn x) 5 ((cI .i64) x.Min) ((cI .i64) v) (bn {x with Min:=v}):=
 ⟨(cI .u8) x.Kind++(jE x.Set),(cI .i64) x.Max++((cI .i64) x.aH++((fF 9 dL) x.Kids)),by rw [dh];simp only [List.append_assoc,List.nil_append,List.append_nil],by rw [dh];simp only [List.append_assoc,List.nil_append,List.append_nil],by simp only [List.length_append,List.length_nil,(aS .i64),(aS .u8),eB,aO]⟩
theorem cw (x:aK):LR (bn x) 6 ((cI .i64) x.Max) ((cI .i64) x.Max) (bn x):=
 ⟨(cI .u8) x.Kind++(jE x.Set++((cI .i64) x.Min)),(cI .i64) x.aH++((fF 9 dL) x.Kids),by rw [dh];simp only [List.append_assoc,List.nil_append,List.append_nil],by rw [dh];simp only [List.append_assoc,List.nil_append,List.append_nil],by simp only [List.length_append,List.length_nil,(aS .i64),(aS .u8),eB,aO]⟩
theorem yb (x:aK) (v:Int):LR (bn x) 6 ((cI .i64) x.Max) ((cI .i64) v) (bn {x with Max:=v}):=
 ⟨(cI .u8) x.Kind++(jE x.Set++((cI .i64) x.Min)),(cI .i64) x.aH++((fF 9 dL) x.Kids),by rw [dh];simp only [List.append_assoc,List.nil_append,List.append_nil],by rw [dh];simp only [List.append_assoc,List.nil_append,List.append_nil],by simp only [List.length_append,List.length_nil,(aS .i64),(aS .u8),eB,aO]⟩
theorem bF (x:aK):LR (bn x) 7 ((cI .i64) x.aH) ((cI .i64) x.aH) (bn x):=
 ⟨(cI .u8) x.Kind++(jE x.Set++((cI .i64) x.Min++((cI .i64) x.Max))),(fF 9 dL) x.Kids,by rw [dh];simp only [List.append_assoc,List.nil_append,List.append_nil],by rw [dh];simp only [List.append_assoc,List.nil_append,List.append_nil],by simp only [List.length_append,List.length_nil,(aS .i64),(aS .u8),eB,aO]⟩
theorem aV (x:aK):LR (bn x) 8 ((fF 9 dL) x.Kids) ((fF 9 dL) x.Kids) (bn x):=
 ⟨(cI .u8) x.Kind++(jE x.Set++((cI .i64) x.Min++((cI .i64) x.Max++((cI .i64) x.aH)))),[],by rw [dh];simp only [List.append_assoc,List.nil_append,List.append_nil],by rw [dh];simp only [List.append_assoc,List.nil_append,List.append_nil],by simp only [List.length_append,List.length_nil,(aS .i64),(aS .u8),eB,aO]⟩
theorem mP (x:aK) (v:Option (List aK)):LR (bn x) 8 ((fF 9 dL) x.Kids) ((fF 9 dL) v) (bn {x with Kids:=v}):=
 ⟨(cI .u8) x.Kind++(jE x.Set++((cI .i64) x.Min++((cI .i64) x.Max++((cI .i64) x.aH)))),[],by rw [dh];simp only [List.append_assoc,List.nil_append,List.append_nil],by rw [dh];simp only [List.append_assoc,List.nil_append,List.append_nil],by simp only [List.length_append,List.length_nil,(aS .i64),(aS .u8),eB,aO]⟩
mutual
theorem Aa: ∀x:aK,uE (bn x) (bn x)
 | ⟨x0,x1,x2,x3,x4,x5⟩=>by rw [bn];exact (jH (inferInstance:gT ((cI .u8) x0)).h (jH (inferInstance:gT (jE x1)).h (jH (inferInstance:gT ((cI .i64) x2)).h (jH (inferInstance:gT ((cI .i64) x3)).h (jH (inferInstance:gT ((cI .i64) x4)).h (lQ (LU x5) kC))))))
theorem LU: ∀o:Option (List aK),DS (yX o) (yX o)
 | none=>by rw [yX];exact ⟨rfl,rfl⟩
 | some l=>by rw [yX];exact ⟨by simp only [AV.data];exact (wT l).1,by simp only [AV.strip];rw [(wT l).2]⟩
theorem wT: ∀l:List aK,uE (wS l) (wS l)
 | []=>by rw [wS];exact kC
 | x::l=>by rw [wS];exact lQ (gK (Aa x)) (wT l)
end
instance (x:aK):gT (bn x):=⟨Aa x⟩
instance (x:aK):iQ (dL x):=⟨gK (Aa x)⟩
instance:qz dL:=⟨fun x=>(inferInstance:iQ (dL x)).h⟩
def dM (i:Nat) (x:Sl Bool):bU:=Rm fun j0=>[pt i (.cells ([fC 1 x j0])),lC cB j0 x]
structure aT where
 Kind:Int
 Set:an 4 Int
 To:Int
 aH:Int
 bP:Int
 Slot:Int
 deriving DecidableEq
def dx (x:aT):List AV:=(cI .u8) x.Kind++(jE x.Set++((cI .i64) x.To++((cI .i64) x.aH++((cI .i64) x.bP++((cI .i64) x.Slot)))))
theorem gI (x:aT):(dx x).length=9:=rfl
theorem CD (x:aT):(dx x).all AV.one=true:=rfl
instance (x:aT):gT (dx x):=by unfold dx;infer_instance
def v76 (x:aT):AV:=.agg (dx x)
instance (x:aT):iQ (v76 x):=⟨gK (inferInstance:gT (dx x)).h⟩
instance:qz v76:=⟨fun x=>(inferInstance:iQ (v76 x)).h⟩
structure dr where
 code:Sl aT
 slots:Int
 free:Int
def Ro (x:dr):List AV:=(fF 9 v76) x.code++((cI .i64) x.slots++((cI .i64) x.free))
instance (x:dr):gT (Ro x):=by unfold Ro;infer_instance
def YI (x:dr):AV:=.agg (Ro x)
instance (x:dr):iQ (YI x):=⟨gK (inferInstance:gT (Ro x)).h⟩
instance:qz YI:=⟨fun x=>(inferInstance:iQ (YI x)).h⟩
def aa (i:Nat) (x:dr):bU:=Rm fun j0=>[pt i (.cells ([fC 9 x.code j0]++((cI .i64) (x.slots)++((cI .i64) (x.free))))),lC dx j0 x.code]
structure kq where
 iE:Sl Bool
 list:Sl Int
def Kv (x:kq):List AV:=(fF 1 AV.bool) x.iE++((fF 1 (AV.int .i64)) x.list)
instance (x:kq):gT (Kv x):=by unfold Kv;infer_instance
def RV (x:kq):AV:=.agg (Kv x)
instance (x:kq):iQ (RV x):=⟨gK (inferInstance:gT (Kv x)).h⟩
instance:qz RV:=⟨fun x=>(inferInstance:iQ (RV x)).h⟩
def cZ (i:Nat) (x:kq):bU:=Xd fun j0 j1=>[pt i (.cells ([fC 1 x.iE j0]++([br 1 (AV.int .i64) x.list j1]))),lC cB j0 x.iE,dK j1 x.list]
structure af where
 bH:Int
 bX:Int
 Code:Sl aT
def cE (x:af):List AV:=(cI .i64) x.bH++((cI .i64) x.bX++((fF 9 v76) x.Code))
theorem bC (x:af):(cE x).length=3:=rfl
theorem bg (x:af):(cE x).all AV.one=true:=(gN ((fL .i64) x.bH) (gN ((fL .i64) x.bX) (jF x.Code)))
instance (x:af):gT (cE x):=by unfold cE;infer_instance
def nN (x:af):AV:=.agg (cE x)
instance (x:af):iQ (nN x):=⟨gK (inferInstance:gT (cE x)).h⟩
instance:qz nN:=⟨fun x=>(inferInstance:iQ (nN x)).h⟩
def cU (i:Nat) (x:Sl Int):bU:=Rm fun j0=>[pt i (.cells ([br 1 (AV.int .i64) x j0])),dK j0 x]
theorem QX:MM [.i,.i,.i,.i,.i,.i,.i,.i,.i] dx:=fun x y=>by
 refine (show AV.eZ [.i,.i,.i,.i,.i,.i,.i,.i,.i] (dx x) (dx y)=some _ from iW _ _ _ _ ((uj .u8) x.Kind y.Kind) _ _ _ _ (iW _ _ _ _ (wB x.Set y.Set) _ _ _ _ (iW _ _ _ _ ((uj .i64) x.To y.To) _ _ _ _ (iW _ _ _ _ ((uj .i64) x.aH y.aH) _ _ _ _ (iW _ _ _ _ ((uj .i64) x.bP y.bP) _ _ _ _ ((uj .i64) x.Slot y.Slot)))))).trans ?_
 obtain ⟨x0,x1,x2,x3,x4,x5⟩:=x
 obtain ⟨y0,y1,y2,y3,y4,y5⟩:=y
 simp only [aT.mk.injEq,Bool.decide_and]
structure Py where
 KU:Int
 To:Int
 deriving DecidableEq
def Rn (x:Py):List AV:=(cI .i64) x.KU++((cI .i64) x.To)
instance (x:Py):gT (Rn x):=by unfold Rn;infer_instance
def Wi (x:Py):AV:=.agg (Rn x)
instance (x:Py):iQ (Wi x):=⟨gK (inferInstance:gT (Rn x)).h⟩
instance:qz Wi:=⟨fun x=>(inferInstance:iQ (Wi x)).h⟩
structure bw where
 a:Sl Int
 b:Sl Int
 text:aZ
def gC (x:bw):List AV:=(fF 1 (AV.int .i64)) x.a++((fF 1 (AV.int .i64)) x.b++(cS x.text))
theorem eM (x:bw):(gC x).length=3:=rfl
theorem dG (x:bw):(gC x).all AV.one=true:=(gN (jF x.a) (gN (jF x.b) (Ht x.text)))
instance (x:bw):gT (gC x):=by unfold gC;infer_instance
def v80 (x:bw):AV:=.agg (gC x)
instance (x:bw):iQ (v80 x):=⟨gK (inferInstance:gT (gC x)).h⟩
instance:qz v80:=⟨fun x=>(inferInstance:iQ (v80 x)).h⟩
def aq (i:Nat) (x:af):bU:=Rm fun j0=>[pt i (.cells ((cI .i64) (x.bH)++((cI .i64) (x.bX)++([fC 9 x.Code j0])))),lC dx j0 x.Code]
structure gY where
 a:Sl Int
 b:Sl Int
 s:aZ
def sI (x:gY):List AV:=(fF 1 (AV.int .i64)) x.a++((fF 1 (AV.int .i64)) x.b++(cS x.s))
theorem mM (x:gY):(sI x).length=3:=rfl
theorem jw (x:gY):(sI x).all AV.one=true:=(gN (jF x.a) (gN (jF x.b) (Ht x.s)))
instance (x:gY):gT (sI x):=by unfold sI;infer_instance
def KB (x:gY):AV:=.agg (sI x)
instance (x:gY):iQ (KB x):=⟨gK (inferInstance:gT (sI x)).h⟩
instance:qz KB:=⟨fun x=>(inferInstance:iQ (KB x)).h⟩
def Hp (a:an 2 (Sl Int)):List AV:=cF (fF 1 (AV.int .i64)) none a.l 2 0
theorem CE (a:an 2 (Sl Int)):(Hp a).length=2:=rfl
instance (a:an 2 (Sl Int)):gT (Hp a):=by unfold Hp;infer_instance
theorem Kx (a:an 2 (Sl Int)):(Hp a).all AV.one=true:=(congrArg (fun l=>List.all l AV.one) (DY (fF 1 (AV.int .i64)) none a)).trans (Hq jF a)
def YJ (x:an 2 (Sl Int)):AV:=.agg (Hp x)
instance (x:an 2 (Sl Int)):iQ (YJ x):=⟨gK (inferInstance:gT (Hp x)).h⟩
instance:qz YJ:=⟨fun x=>(inferInstance:iQ (YJ x)).h⟩
def qI (a:an 256 Int):List AV:=cA (cI .i64) a
theorem mL (a:an 256 Int):(qI a).length=256:=QY (es:=1) (aS .i64) a
instance (a:an 256 Int):gT (qI a):=⟨Md (fun x=>(inferInstance:gT ((cI .i64) x)).h) a⟩
theorem CC (a:an 256 Int):(qI a).all AV.one=true:=Hq (fL .i64) a
def Vs (x:an 256 Int):AV:=.agg (qI x)
instance (x:an 256 Int):iQ (Vs x):=⟨gK (inferInstance:gT (qI x)).h⟩
instance:qz Vs:=⟨fun x=>(inferInstance:iQ (Vs x)).h⟩
def g0:an 20 Int:=(⟨[1,10,100,1000,10000,100000,1000000,10000000,100000000,1000000000,10000000000,100000000000,1000000000000,10000000000000,100000000000000,1000000000000000,10000000000000000,100000000000000000,1000000000000000000,10000000000000000000],rfl⟩:an 20 Int)
def gE:bA:=fun g=>if g=0 then some (Hi g0) else none
end Go.Proofs.YtcidnoghoifmmaaDoor
end
section
namespace Go.Proofs.YtcidnoghoifmmaaDoor
open Go AW
set_option maxRecDepth 100000
theorem Zy {H:Type} {enc:TypeId × Value→H} {P:Program} {W:World} {base:Nat} {t:TypeId} {α :Type} {c: α →List AV} {ok: α →Prop} {bk: α →Nat}:vj 0 enc P W base t c ok bk:=⟨fun {fuel cs x} h e=>by
 obtain rfl:fuel=0:=by omega
 simp [DataW.trod] at e⟩
theorem YE {H:Type} {enc:TypeId × Value→H} {P:Program} {W:World} {base:Nat} {t:TypeId} {α :Type} {c: α →List AV} {ok: α →Prop} {bk: α →Nat} (n:Nat) (h: ∀m,m<n→vj (m+1) enc P W base t c ok bk):vj n enc P W base t c ok bk:=by
 cases n with
 | zero=>exact Zy
 | succ m=>exact h m (by omega)
mutual
def lf:aK→Prop
 | ⟨x0,x1,x2,x3,x4,x5⟩=>RK .u8 x0∧Zq .u64 x1∧RK .i64 x2∧RK .i64 x3∧RK .i64 x4∧we x5∧True
def we:Option (List aK)→Prop
 | none=>True
 | some l=>tB l
def tB:List aK→Prop
 | []=>True
 | x::l=>lf x∧tB l
end
mutual
def iS:aK→Nat
 | ⟨x0,x1,x2,x3,x4,x5⟩=>(Kr x0+(Kr x1+(Kr x2+(Kr x3+(Kr x4+(sE x5+0))))))+1
def sE:Option (List aK)→Nat
 | none=>1
 | some l=>ju l+1
def ju:List aK→Nat
 | []=>0
 | x::l=>iS x+ju l
end
theorem tC: ∀l:List aK,tB l↔ ∀x∈l,lf x
 | []=>by simp [tB]
 | x::l=>by simp [tB,tC l]
theorem BJ (o:Option (List aK)):we o↔ ∀x∈ls o,lf x:=by
 cases o with
 | none=>simp [we,ls]
 | some l=>rw [we,tC];rfl
theorem sD: ∀l:List aK,ju l=(l.map iS).sum
 | []=>rfl
 | x::l=>by rw [ju,sD l];rfl
theorem DT (o:Option (List aK)):sE o=Ks iS o:=by
 cases o with
 | none=>rfl
 | some l=>rw [sE,sD];rfl
section
variable {H:Type} {enc:TypeId × Value→H} {W:World} {base:Nat}
theorem Np: ∀n,vj n enc Tryd.prog W base 28 bn lf iS:=by
 intro n
 induction n using Nat.strongRecOn with
 | _ n jh=>
  cases n with
  | zero=>exact Zy
  | succ n=>
   have ih: ∀m,m<n→vj m enc Tryd.prog W base 28 bn lf iS:=fun m h=>jh m (by omega)
   exact rfT (m:=9) (c':=bn) (ok':=lf) (bk':=iS) (γ :=Int × (an 4 Int) × Int × Int × Int × Option (List aK) × Unit) (fun a=>aK.mk a.1 a.2.1 a.2.2.1 a.2.2.2.1 a.2.2.2.2.1 a.2.2.2.2.2.1) Tryd.underlying28 (by kernel_rfl) (pn (i:=0) (o:=0) (o':=1) rfl (by kernel_rfl) (by kernel_rfl) (Wf Tryd.underlying22) (pn (i:=1) (o:=1) (o':=5) rfl (by kernel_rfl) (by kernel_rfl) (rfA (c:=jE) (fun a=>DY (cI .u64) 0 a) Tryd.underlying25 Tryd.underlying23 (by kernel_rfl) (by kernel_rfl)) (pn (i:=2) (o:=5) (o':=6) rfl (by kernel_rfl) (by kernel_rfl) (Wf Tryd.underlying3) (pn (i:=3) (o:=6) (o':=7) rfl (by kernel_rfl) (by kernel_rfl) (Wf Tryd.underlying3) (pn (i:=4) (o:=7) (o':=8) rfl (by kernel_rfl) (by kernel_rfl) (Wf Tryd.underlying3) (pn (i:=5) (o:=8) (o':=9) rfl (by kernel_rfl) (by kernel_rfl) (YE n fun m hm=>YF (es:=9) (f:=dL) Tryd.underlying26 (by kernel_rfl) (by decide) (ih m hm) Kl) Vn)))))) (fun a=>by rw [dh];simp only [List.append_nil]) (fun a h=>by rw [lf];simp only [BJ];exact h) (fun a=>by rw [iS];simp only [DT];exact Nat.le_refl _)
end
end Go.Proofs.YtcidnoghoifmmaaDoor
end
section
namespace Go.Proofs.YtcidnoghoifmmaaDoor.AW
open Go

theorem tZ {G:Gh} {k:IntKind}: ∀ {zs:List Int} {us:List Value},aW G (zs.flatMap (cI k)) us→us=zs.map (Value.int k)
  | [],us,h=>by simpa [aW] using h
  | z::zs,us,h=>by
    have h':aW G (.int k z::zs.flatMap (cI k)) us:=h
    simp only [aW] at h'
    obtain ⟨u,us',rfl,hu,hr⟩:=h'
    simp only [aU] at hu
    rw [hu,tZ hr,List.map_cons]
theorem zL {P:Program} {E:bA} {G:Gh} {st:aA} {w:World} (hs:aG E G st w) {name:String} {g:Nat} {k:IntKind} {zs:List Int} (hg:P.globalNamed name=some g) (hE:E g=some (zs.flatMap (cI k))):Lib.TabIs P w name k zs:=by
 obtain ⟨us,hr,hm,e,hsh⟩:=hs.gG g _ hE
 have hus:=tZ hr
 obtain ⟨arr,fz,h1,h2⟩:=hs.jU g e _ hsh
 unfold Lib.TabIs World.var?
 rw [hg]
 simp only [Option.bind_some,h1]
 congr 1
 apply Array.ext
 ·rw [h2,hus];simp
 intro i hi hi'
 have hiu:i<us.length:=by rw [←h2];exact hi
 have h3:=hs.mem _ _ _ (hm i us[i] (by simp [hiu]))
 simp only [World.cell?,h1,Option.isSome_none,Bool.false_eq_true,if_false] at h3
 rw [Array.getElem?_eq_getElem hi] at h3
 have h4:arr[i]=us[i]:=by simpa using h3
 rw [h4]
 simp [hus]
theorem aG.same {E:bA} {G:Gh} {st:aA} {w w':World} (h:aG E G st w) (hb: ∀b,b<w.heap.size→w'.heap[b]? =w.heap[b]?):aG E G st w' where
 len:=h.len
 obj:=fun i o s ho hs=>(h.obj i o s ho hs).keep (cj.refl G) (fun b hb'=>hb b ((h.obj i o s ho hs).block hb')) fun b o u _ hu=>hu
 apart:=h.apart
 mem:=fun b o u hu=>by
  have:=h.mem b o u hu
  rw [←this]
  exact World.cell?_of_block (w:=w) (w':=w') (a:=⟨b,o,none⟩) (hb b (h.cV hu))
 one:=h.one
 jU:=fun b e n hx=>by
  obtain ⟨arr,fz,h1,h2⟩:=h.jU b e n hx
  exact ⟨arr,fz,by rw [hb b (h.RQ hx)];exact h1,h2⟩
 gG:=h.gG
theorem Ext.grow {G:Gh} {w:World} (k:Nat) (os:Array Obj):Ext G w G (Sort.grow (w.drewN k) os):=
 ⟨cj.refl G,rfl,rfl,rfl,by simp [Sort.size_grow],fun b hb _=>Sort.heap_grow_old (w.drewN k) os hb,fun _ _ _ h=>.inl h,fun s hs _ hb=>.inl ⟨s,hs,hb⟩⟩
def oK (n:Int):Option aZ:=if -9223372036854775808≤n∧n≤9223372036854775807 then some (Lib.itoa n) else none

theorem IB {P:Program} {E:bA} {f:FuncId} {g:Nat} (hc: ∀(n:Int),-9223372036854775808≤n→n≤9223372036854775807→ ∀w:World,Lib.TabIs P w "internal/strconv.uint64pow10" .u64 Lib.pow10Tab→
   Calls P f #[.int .i64 n] w fun e w'=>e= .returned (.string ⟨(Lib.itoa n).toArray⟩)∧ ∃k os,w'=Sort.grow (w.drewN k) os)
  (hg:P.globalNamed "internal/strconv.uint64pow10" =some g) (hE:E g=some (Lib.pow10Tab.flatMap (cI .u64))) (n:Int) (r:aZ) (hF:oK n=some r):DFun P E f [.int .i64 n] (.str r):=by
 unfold oK at hF
 split at hF
 ·rename_i hn
  cases hF
  intro G w vs hr hs
  simp only [aW,aU] at hr
  obtain ⟨u,us,rfl,rfl,rfl⟩:=hr
  refine (hc n hn.1 hn.2 w (zL hs hg hE)).mono fun e w' ⟨he,k,os,hw⟩=>?_
  subst hw
  exact ⟨_,.str (Lib.itoa n),[],G,he,by simp only [aU];exact ⟨_,by simp,rfl⟩,hs.same fun b hb=>Sort.heap_grow_old (w.drewN k) os hb,Ext.grow k os,rfl,rfl⟩
 cases hF
end Go.Proofs.YtcidnoghoifmmaaDoor.AW
end
section
namespace Go.Proofs
open Go.Shelf
def Tryd.wP:Go.Shelf.Ren:=⟨fun | 171=>60 | 243=>88 | 246=>96 | 283=>102 | 284=>103 | 285=>104 | 286=>105 | 129=>108 | 317=>107 | 318=>109 | 319=>110 | 320=>111 | 337=>112 | 338=>113 | n=>n,fun | 3=>3 | 9=>9 | 2=>2 | 4=>4 | 171=>140 | 0=>0 | 53=>23 | 37=>67 | 5=>5 | 173=>143 | 212=>145 | 51=>146 | 20=>20 | 213=>147 | 46=>90 | 232=>150 | 233=>151 | n=>n,fun | 17=>0 | 18=>1 | 19=>2 | n=>n⟩
theorem Tryd.Iv:Go.Proofs.LaysM.n171 Tryd.prog Tryd.wP:={
  mixed:=by kernel_rfl
  f129:=Tryd.func108.trans (congrArg some (by kernel_rfl))
  f171:=Tryd.func60.trans (congrArg some (by kernel_rfl))
  f243:=Tryd.func88.trans (congrArg some (by kernel_rfl))
  f246:=Tryd.func96.trans (congrArg some (by kernel_rfl))
  f283:=Tryd.func102.trans (congrArg some (by kernel_rfl))
  f284:=Tryd.func103.trans (congrArg some (by kernel_rfl))
  f285:=Tryd.func104.trans (congrArg some (by kernel_rfl))
  f286:=Tryd.func105.trans (congrArg some (by kernel_rfl))
  f317:=Tryd.func107.trans (congrArg some (by kernel_rfl))
  f318:=Tryd.func109.trans (congrArg some (by kernel_rfl))
  f319:=Tryd.func110.trans (congrArg some (by kernel_rfl))
  f320:=Tryd.func111.trans (congrArg some (by kernel_rfl))
  f337:=Tryd.func112.trans (congrArg some (by kernel_rfl))
  f338:=Tryd.func113.trans (congrArg some (by kernel_rfl))
  t0:=Tryd.underlying0
  a0:=Tryd.isAgg0
  z0:=Tryd.sizeOf0
  v0:=Tryd.zeroValue0
  t2:=Tryd.underlying2
  a2:=Tryd.isAgg2
  z2:=Tryd.sizeOf2
  v2:=Tryd.zeroValue2
  t3:=Tryd.underlying3
  a3:=Tryd.isAgg3
  z3:=Tryd.sizeOf3
  v3:=Tryd.zeroValue3
  t4:=Tryd.underlying4
  a4:=Tryd.isAgg4
  z4:=Tryd.sizeOf4
  v4:=Tryd.zeroValue4
  t5:=Tryd.underlying5
  a5:=Tryd.isAgg5
  z5:=Tryd.sizeOf5
  v5:=Tryd.zeroValue5
  t9:=Tryd.underlying9
  a9:=Tryd.isAgg9
  z9:=Tryd.sizeOf9
  v9:=Tryd.zeroValue9
  t20:=Tryd.underlying20
  a20:=Tryd.isAgg20
  z20:=Tryd.sizeOf20
  v20:=Tryd.zeroValue20
  t37:=Tryd.underlying67
  a37:=Tryd.isAgg67
  z37:=Tryd.sizeOf67
  v37:=Tryd.zeroValue67
  t46:=Tryd.underlying90
  a46:=Tryd.isAgg90
  z46:=Tryd.sizeOf90
  v46:=Tryd.zeroValue90
  t51:=Tryd.underlying146
  a51:=Tryd.isAgg146
  z51:=Tryd.sizeOf146
  v51:=Tryd.zeroValue146
  t53:=Tryd.underlying23
  a53:=Tryd.isAgg23
  z53:=Tryd.sizeOf23
  v53:=Tryd.zeroValue23
  t171:=Tryd.underlying140
  a171:=Tryd.isAgg140
  z171:=Tryd.sizeOf140
  v171:=Tryd.zeroValue140
  t173:=Tryd.underlying143
  a173:=Tryd.isAgg143
  z173:=Tryd.sizeOf143
  v173:=Tryd.zeroValue143
  t212:=Tryd.underlying145
  a212:=Tryd.isAgg145
  z212:=Tryd.sizeOf145
  v212:=Tryd.zeroValue145
  t213:=Tryd.underlying147
  a213:=Tryd.isAgg147
  z213:=Tryd.sizeOf147
  t232:=Tryd.underlying150
  a232:=Tryd.isAgg150
  z232:=Tryd.sizeOf150
  v232:=Tryd.zeroValue150
  t233:=Tryd.underlying151
  a233:=Tryd.isAgg151
  z233:=Tryd.sizeOf151
  v233:=Tryd.zeroValue151
  g17:=by kernel_rfl
  g18:=by kernel_rfl
  g19:=by kernel_rfl
  i0:=by kernel_rfl
  i2:=by kernel_rfl
  i3:=by kernel_rfl
  i4:=by kernel_rfl
  i5:=by kernel_rfl
  i9:=by kernel_rfl
  i20:=by kernel_rfl
  i37:=by kernel_rfl
  i46:=by kernel_rfl
  i51:=by kernel_rfl
  i53:=by kernel_rfl
  i171:=by kernel_rfl
  i173:=by kernel_rfl
  i212:=by kernel_rfl
  i232:=by kernel_rfl
  i233:=by kernel_rfl
  m17:=by kernel_rfl
  m18:=by kernel_rfl
  m19:=by kernel_rfl}
open Go.RowKit Go.Sort Go.Lib in
/-- strconv.Itoa: "Itoa is equivalent to FormatInt(int64(i), 10).": i's DECIMAL NUMERAL ('Lib.itoa': a '-' where i is negative, then the digits), FOR EVERY int. The world behind the call: the world before it, new blocks behind the heap (the library's 'var a [24]byte'), draws. (LAID: no walk: one application.) -/
theorem Tryd.strconv_Itoa (n:Int) (h0: -9223372036854775808≤n) (h1:n≤9223372036854775807) (w:World) (htab:Lib.TabIs Tryd.prog w "internal/strconv.uint64pow10" .u64 Lib.pow10Tab):
    Calls Tryd.prog 60 #[.int .i64 n] w fun e w'=>e= .returned (.string ⟨(Lib.itoa n).toArray⟩)∧ ∃k os,w'=grow (w.drewN k) os:=Any.strconv_Itoa Tryd.Iv n h0 h1 w htab
end Go.Proofs
end
section
set_option maxRecDepth 4000
set_option maxHeartbeats 4000000
namespace Go.Proofs.YtcidnoghoifmmaaDoor
open Go AW
attribute [local irreducible] W WD SH XS XLoop DFun XCall XYield
theorem Mh (n:Int) (r:aZ) (hF:oK n=some r):DFun Tryd.prog gE 60 [.int .i64 n] (.str r):=
 IB (g:=0) (fun n h0 h1 w ht=>Tryd.strconv_Itoa n h0 h1 w ht) (by kernel_rfl) ((rfl:gE 0=some (Hi g0)).trans (congrArg (fun l=>some (List.flatMap (cI .u64) l)) (show g0.l=Lib.pow10Tab by decide+kernel))) n r hF
end Go.Proofs.YtcidnoghoifmmaaDoor
end
section
set_option maxRecDepth 4000
set_option maxHeartbeats 4000000
namespace Go.Proofs.YtcidnoghoifmmaaDoor
open Go AW
attribute [local irreducible] W WD SH XS XLoop DFun XCall XYield
def HF:List bZ:=(qk 45 44).y 39::(qa 46 5 45).y 39::(ql 47 46).y 39::(qb 48 .lss 43 47).y 39::(qm 49 48).y 39::(qm 50 0).n 49::(qk 51 50).n 49::(qa 52 6 51).n 49::(ql 53 52).n 49::(qb 54 .gtr 53 (ki 255)).n 49::(qp 55 49 kt 54).y 39::(qp 56 39 55 kf).n 33::qp 57 33 kt 56::[]
def HE:List bZ:=qm 21 0::qk 22 21::qa 23 5 22::ql 24 23::qb 25 .lss 24 (ki 0)::qm 26 25::(qm 27 0).n 26::(qk 28 27).n 26::(qa 29 5 28).n 26::(ql 30 29).n 26::(qb 31 .gtr 30 (ki 255)).n 26::qp 32 26 kt 31::qm 33 32::(qm 34 0).n 33::(qk 35 34).n 33::(qa 36 6 35).n 33::(ql 37 36).n 33::(qb 38 .neq 37 (ki (-1))).n 33::(qm 39 38).n 33::(qm 40 0).y 39::(qk 41 40).y 39::(qa 42 6 41).y 39::(ql 43 42).y 39::(qm 44 0).y 39::HF
def Oa:aC:=.s (.draw [] 0 0 HE []) (.cond 57 (.o [qm 2 kf] .ret) .skip)
def Ob:aC:=.cond 58 (.ops [qm 4 (ki 1)]) (.s (.o [qb 61 .eql 13 (ku 1),qm 60 61] (.cond 60 .skip (.o [qb 62 .eql 13 (ku 2),qm 60 62] (.cond 60 .skip (.o [qb 63 .eql 13 (ku 7),qm 60 63] (.cond 60 .skip (.o [qb 64 .eql 13 (ku 8),qm 60 64] (.cond 60 .skip (.ops [qb 65 .eql 13 (ku 9),qm 60 65]))))))))) (.cond 60 .skip (.o [qm 2 kf] .ret)))
def HI:List bZ:=(qa 114 0 113).n 111::(ql 115 114).n 111::(qb 116 .eql 115 (ku 7)).n 111::(qp 117 111 kt 116).y 105::(qm 118 117).y 105::(qm 119 0).n 118::(qk 120 119).n 118::(qa 121 7 120).n 118::(ql 122 121).n 118::(qb 123 .eql 122 (ki 0)).n 118::(qp 124 118 kt 123).y 105::qp 125 105 124 kf::qm 2 125::[]
def HH:List bZ:=(qm 90 89).y 84::(qm 91 0).n 90::(qk 92 91).n 90::(qa 93 5 92).n 90::(ql 94 93).n 90::(qb 95 .eql 94 (ki 0)).n 90::(qm 96 95).n 90::(qm 97 0).y 96::(qk 98 97).y 96::(qa 99 6 98).y 96::(ql 100 99).y 96::(qb 101 .eql 100 (ki 0)).y 96::(qp 102 96 101 kf).n 90::(qp 103 90 kt 102).y 84::qp 104 84 103 kf::qm 105 104::(qm 106 0).y 105::(qk 107 106).y 105::(qa 108 0 107).y 105::(ql 109 108).y 105::(qb 110 .eql 109 (ku 6)).y 105::(qm 111 110).y 105::(qm 112 0).n 111::(qk 113 112).n 111::HI
def HG:List bZ:=qm 66 3::qm 67 4::qb 68 .eql 66 67::qm 69 68::(qm 70 0).y 69::(qk 71 70).y 69::(qa 72 0 71).y 69::(ql 73 72).y 69::(qb 74 .eql 73 (ku 2)).y 69::(qm 75 74).y 69::(qm 76 0).n 75::(qk 77 76).n 75::(qa 78 1 77).n 75::(qn 79 4 78).n 75::(q 80 (.build [zu,zu,zu,zu] [])).n 75::(q 81 (.Aj false [.i,.i,.i,.i] 79 80)).n 75::(qp 82 75 kt 81).y 69::qp 83 69 82 kf::qm 84 83::(qm 85 0).y 84::(qk 86 85).y 84::(qa 87 0 86).y 84::(ql 88 87).y 84::(qb 89 .eql 88 (ku 5)).y 84::HH
def GB:aC:=.o HG .ret
def TC:aC:=.o [qm 2 kf] (.o [qm 5 0,qk 6 5,qa 7 8 6,ql 8 7,qh 9 8,qm 3 9] (.o [qm 4 (ki 0)] (.s (.o [qm 10 0,qk 11 10,qa 12 0 11,ql 13 12] (.block 0 (.s (.o [qb 15 .eql 13 (ku 3),qm 14 15] (.cond 14 .skip (.ops [qb 16 .eql 13 (ku 4),qm 14 16]))) (.cond 14 (.ops [qm 17 3,q 18 (.max [17,(ki 2)]),qm 4 18]) (.o [qb 20 .eql 13 (ku 5),qm 19 20] (.cond 19 (.o [qm 4 (ki 1)] Oa) (.o [qb 59 .eql 13 (ku 6),qm 58 59] Ob))))))) GB)))
def ZK:List RA:=[(.tmp 2)]
theorem k69:au Tryd.prog (dQ []) 69=some ⟨126,TC,ZK⟩:=by kernel_rfl
noncomputable abbrev X69 (r:Bool):Cx:=cD Tryd.prog gE 126 ZK (AV.bool r)
inductive Pp where
 | p1 (n:aK) (kids:Int) (want:Int)
noncomputable def Bn:Pp→Option Bool | .p1 n kids want=>(if (kids==want)=true then (if (n.Kind==2)=true then (if (n.Kind==5)=true then (if (n.Kind==6)=true then (some true) else (if (n.Kind==7)=true then (some true) else (some (n.aH==0)))) else (if (n.Min==0)=true then (if (n.Max==0)=true then (if (n.Kind==6)=true then (some true) else (if (n.Kind==7)=true then (some true) else (some (n.aH==0)))) else (some false)) else (some false))) else (if (decide (n.Set=(an.rep 4 (0:Int))))=true then (if (n.Kind==5)=true then (if (n.Kind==6)=true then (some true) else (if (n.Kind==7)=true then (some true) else (some (n.aH==0)))) else (if (n.Min==0)=true then (if (n.Max==0)=true then (if (n.Kind==6)=true then (some true) else (if (n.Kind==7)=true then (some true) else (some (n.aH==0)))) else (some false)) else (some false))) else (some false))) else (some false))
def M69 (x:Pp) (r:Bool):Prop:=match x with | .p1 n kids want=> ∀(tm:Fr) (st:aA),dH tm [(0,.aQ (bn n)),(3,AV.int .i64 kids),(4,AV.int .i64 want)]→SH st []→W (X69 r) [.code GB] tm st
theorem KC: ∀(x:Pp) (r:Bool),Bn x=some r→M69 x r:=by
 intro x r hF;cases x with
 | p1 n kids want=>
  dsimp only [Bn] at hF;intro tm st hf hs;refine en hf (rn 4 z (bi hF (fun c_15 hF=>?_) (fun c_15 hF=>?_)))
  ·refine bL 69 z c_15 (rn 1 z (W.on z z (W.o (bK z) (W.on z z (W.o (aB z) (W.on z z (W.o (aI z (DP.cN (DP.refl _) (bI n))) (rn 2 z (bi hF (fun c_16 hF=>?_) (fun c_16 hF=>?_))))))))))
   ·refine bL 75 z c_16 (rn 10 z (W.on z z (W.o (bK z) (W.on z z (W.o (aB z) (W.on z z (W.o (aI z (DP.cN (DP.refl _) (bI n))) (rn 2 z (bi hF (fun c_17 hF=>?_) (fun c_17 hF=>?_))))))))))
    ·refine bL 90 z c_17 (rn 16 z (W.on z z (W.o (bK z) (W.on z z (W.o (aB z) (W.on z z (W.o (aI z (DP.cN (DP.refl _) (bI n))) (rn 2 z (bi hF (fun c_18 hF=>?_) (fun c_18 hF=>?_))))))))))
     ·refine bL 111 z c_18 (rn 15 z ?_);cases hF;exact rD (ah bG) z
     refine bL 111 z c_18 (rn 1 z (W.on z z (W.o (bK z) (W.on z z (W.o (aB z) (W.on z z (W.o (aI z (DP.cN (DP.refl _) (bI n))) (rn 3 z (bi hF (fun c_19 hF=>?_) (fun c_19 hF=>?_))))))))))
     ·refine bL 118 z c_19 (rn 8 z ?_);cases hF;exact rD (ah bG) z
     refine bL 118 z c_19 (rn 1 z (W.on z z (W.o (bK z) (W.on z z (W.o (aB z) (W.on z z (W.o (aI z (DP.cN (DP.refl _) (bF n))) (rn 4 z ?_))))))));cases hF;exact rD (ah bG) z
    refine bL 90 z c_17 (rn 1 z (W.on z z (W.o (bK z) (W.on z z (W.o (aB z) (W.on z z (W.o (aI z (DP.cN (DP.refl _) (cm n))) (rn 2 z (bi hF (fun c_20 hF=>?_) (fun c_20 hF=>?_))))))))))
    ·refine bL 96 z c_20 (rn 1 z (W.on z z (W.o (bK z) (W.on z z (W.o (aB z) (W.on z z (W.o (aI z (DP.cN (DP.refl _) (cw n))) (rn 5 z (bi hF (fun c_21 hF=>?_) (fun c_21 hF=>?_))))))))))
     ·refine bL 105 z c_21 (rn 1 z (W.on z z (W.o (bK z) (W.on z z (W.o (aB z) (W.on z z (W.o (aI z (DP.cN (DP.refl _) (bI n))) (rn 2 z (bi hF (fun c_22 hF=>?_) (fun c_22 hF=>?_))))))))))
      ·refine bL 111 z c_22 (rn 15 z ?_);cases hF;exact rD (ah bG) z
      refine bL 111 z c_22 (rn 1 z (W.on z z (W.o (bK z) (W.on z z (W.o (aB z) (W.on z z (W.o (aI z (DP.cN (DP.refl _) (bI n))) (rn 3 z (bi hF (fun c_23 hF=>?_) (fun c_23 hF=>?_))))))))))
      ·refine bL 118 z c_23 (rn 8 z ?_);cases hF;exact rD (ah bG) z
      refine bL 118 z c_23 (rn 1 z (W.on z z (W.o (bK z) (W.on z z (W.o (aB z) (W.on z z (W.o (aI z (DP.cN (DP.refl _) (bF n))) (rn 4 z ?_))))))));cases hF;exact rD (ah bG) z
     refine bL 105 z c_21 (rn 21 z ?_);cases hF;exact rD (ah bG) z
    refine bL 96 z c_20 (rn 30 z ?_);cases hF;exact rD (ah bG) z
   refine bL 75 z c_16 (rn 1 z (W.on z z (W.o (bK z) (W.on z z (W.o (aB z) (W.on z z (W.o (aL z (DP.cN (DP.refl _) (mR n)) (eB _)) (W.on z z (W.o (dY (z:=[(.int .u64 0),(.int .u64 0),(.int .u64 0),(.int .u64 0)]) (cs:=jE (an.rep 4 (0:Int))) eV (show av (jE (an.rep 4 (0:Int))) _=_ from (fJ _))) (W.on z z (W.o (II z z (wB n.Set (an.rep 4 (0:Int)))) (rn 3 z (bi hF (fun c_24 hF=>?_) (fun c_24 hF=>?_))))))))))))))
   ·refine bL 84 z c_24 (rn 1 z (W.on z z (W.o (bK z) (W.on z z (W.o (aB z) (W.on z z (W.o (aI z (DP.cN (DP.refl _) (bI n))) (rn 2 z (bi hF (fun c_25 hF=>?_) (fun c_25 hF=>?_))))))))))
    ·refine bL 90 z c_25 (rn 16 z (W.on z z (W.o (bK z) (W.on z z (W.o (aB z) (W.on z z (W.o (aI z (DP.cN (DP.refl _) (bI n))) (rn 2 z (bi hF (fun c_26 hF=>?_) (fun c_26 hF=>?_))))))))))
     ·refine bL 111 z c_26 (rn 15 z ?_);cases hF;exact rD (ah bG) z
     refine bL 111 z c_26 (rn 1 z (W.on z z (W.o (bK z) (W.on z z (W.o (aB z) (W.on z z (W.o (aI z (DP.cN (DP.refl _) (bI n))) (rn 3 z (bi hF (fun c_27 hF=>?_) (fun c_27 hF=>?_))))))))))
     ·refine bL 118 z c_27 (rn 8 z ?_);cases hF;exact rD (ah bG) z
     refine bL 118 z c_27 (rn 1 z (W.on z z (W.o (bK z) (W.on z z (W.o (aB z) (W.on z z (W.o (aI z (DP.cN (DP.refl _) (bF n))) (rn 4 z ?_))))))));cases hF;exact rD (ah bG) z
    refine bL 90 z c_25 (rn 1 z (W.on z z (W.o (bK z) (W.on z z (W.o (aB z) (W.on z z (W.o (aI z (DP.cN (DP.refl _) (cm n))) (rn 2 z (bi hF (fun c_28 hF=>?_) (fun c_28 hF=>?_))))))))))
    ·refine bL 96 z c_28 (rn 1 z (W.on z z (W.o (bK z) (W.on z z (W.o (aB z) (W.on z z (W.o (aI z (DP.cN (DP.refl _) (cw n))) (rn 5 z (bi hF (fun c_29 hF=>?_) (fun c_29 hF=>?_))))))))))
     ·refine bL 105 z c_29 (rn 1 z (W.on z z (W.o (bK z) (W.on z z (W.o (aB z) (W.on z z (W.o (aI z (DP.cN (DP.refl _) (bI n))) (rn 2 z (bi hF (fun c_30 hF=>?_) (fun c_30 hF=>?_))))))))))
      ·refine bL 111 z c_30 (rn 15 z ?_);cases hF;exact rD (ah bG) z
      refine bL 111 z c_30 (rn 1 z (W.on z z (W.o (bK z) (W.on z z (W.o (aB z) (W.on z z (W.o (aI z (DP.cN (DP.refl _) (bI n))) (rn 3 z (bi hF (fun c_31 hF=>?_) (fun c_31 hF=>?_))))))))))
      ·refine bL 118 z c_31 (rn 8 z ?_);cases hF;exact rD (ah bG) z
      refine bL 118 z c_31 (rn 1 z (W.on z z (W.o (bK z) (W.on z z (W.o (aB z) (W.on z z (W.o (aI z (DP.cN (DP.refl _) (bF n))) (rn 4 z ?_))))))));cases hF;exact rD (ah bG) z
     refine bL 105 z c_29 (rn 21 z ?_);cases hF;exact rD (ah bG) z
    refine bL 96 z c_28 (rn 30 z ?_);cases hF;exact rD (ah bG) z
   refine bL 84 z c_24 (rn 42 z ?_);cases hF;exact rD (ah bG) z
  refine bL 69 z c_15 (rn 57 z ?_);cases hF;exact rD (ah bG) z
noncomputable def Tj (n:aK):Option Bool:=(if (n.Kind==3)=true then (Bn (.p1 n ((ls n.Kids).length:Int) (if 2>((ls n.Kids).length:Int) then 2 else ((ls n.Kids).length:Int)))) else (if (n.Kind==4)=true then (Bn (.p1 n ((ls n.Kids).length:Int) (if 2>((ls n.Kids).length:Int) then 2 else ((ls n.Kids).length:Int)))) else (if (n.Kind==5)=true then (if (decide (n.Min<0))=true then (some false) else (if (decide (n.Min>255))=true then (some false) else (if (n.Max != (-1))=true then (if (decide (n.Max<n.Min))=true then (some false) else (if (decide (n.Max>255))=true then (some false) else (Bn (.p1 n ((ls n.Kids).length:Int) 1)))) else (Bn (.p1 n ((ls n.Kids).length:Int) 1))))) else (if (n.Kind==6)=true then (Bn (.p1 n ((ls n.Kids).length:Int) 1)) else (if (n.Kind==1)=true then (Bn (.p1 n ((ls n.Kids).length:Int) 0)) else (if (n.Kind==2)=true then (Bn (.p1 n ((ls n.Kids).length:Int) 0)) else (if (n.Kind==7)=true then (Bn (.p1 n ((ls n.Kids).length:Int) 0)) else (if (n.Kind==8)=true then (Bn (.p1 n ((ls n.Kids).length:Int) 0)) else (if (n.Kind==9)=true then (Bn (.p1 n ((ls n.Kids).length:Int) 0)) else (some false))))))))))
theorem d69 (n:aK) (r:Bool) (hF:Tj n=some r):DFun Tryd.prog gE 69 [.aQ (bn n)] (AV.bool r):=by
 unfold Tj at hF;refine bD k69 z ?_;have hs:SH [] []:=SH.nil;generalize ([]:aA)=st at hs ⊢;refine rn 2 z (W.o (bK z) (W.o (aB z) (W.o (aI z (DP.cN (DP.refl _) (aV n))) (W.o (e_len (bJ z)) (rn 3 z (W.o (bK z) (W.o (aB z) (W.o (aI z (DP.cN (DP.refl _) (bI n))) (rn 2 z (ci hF z (fun c_1 hF=>?_) (fun c_1 hF=>?_)))))))))))
 ·exact rn 0 z (ct z c_1 (rj 3 2 z (KC (.p1 n ((ls n.Kids).length:Int) (if 2>((ls n.Kids).length:Int) then 2 else ((ls n.Kids).length:Int))) _ hF _ _ hG hs)))
 refine rn 2 z (ci hF z (fun c_2 hF=>?_) (fun c_2 hF=>?_))
 ·exact rj 3 2 z (KC (.p1 n ((ls n.Kids).length:Int) (if 2>((ls n.Kids).length:Int) then 2 else ((ls n.Kids).length:Int))) _ hF _ _ hG hs)
 refine rn 2 z (ci hF z (fun c_3 hF=>?_) (fun c_3 hF=>?_))
 ·refine rn 1 z ?_;have h0:=hs;refine qq (dn 1 z (de z (bK z) (de z (aB z) (de z (aI z (DP.cN (DP.refl _) (cm n))) (dn 2 z (bi hF (fun c_4 hF=>?_) (fun c_4 hF=>?_)))))))
  ·refine qL 26 z c_4 (dn 31 z (dz (rn 0 z (ct z z (rn 1 z ?_)))));cases hF;exact rD (ah bG) z
  refine qL 26 z c_4 (dn 1 z (gu z z (de z (bK z) (gu z z (de z (aB z) (gu z z (de z (aI z (DP.cN (DP.refl _) (cm n))) (dn 3 z (bi hF (fun c_5 hF=>?_) (fun c_5 hF=>?_))))))))))
  ·refine qL 33 z c_5 (dn 24 z (dz (rn 0 z (ct z z (rn 1 z ?_)))));cases hF;exact rD (ah bG) z
  refine qL 33 z c_5 (dn 1 z (gu z z (de z (bK z) (gu z z (de z (aB z) (gu z z (de z (aI z (DP.cN (DP.refl _) (cw n))) (dn 2 z (bi hF (fun c_6 hF=>?_) (fun c_6 hF=>?_))))))))))
  ·refine qL 39 z c_6 (dn 1 z (gu z z (de z (bK z) (gu z z (de z (aB z) (gu z z (de z (aI z (DP.cN (DP.refl _) (cw n))) (dn 1 z (gu z z (de z (bK z) (gu z z (de z (aB z) (gu z z ?_)))))))))))));refine de z (aI z (DP.cN (DP.refl _) (cm n))) (dn 2 z (bi hF (fun c_7 hF=>?_) (fun c_7 hF=>?_)))
   ·refine qL 49 z c_7 (dn 8 z (dz (rn 0 z (ct z z (rn 1 z ?_)))));cases hF;exact rD (ah bG) z
   refine qL 49 z c_7 (dn 1 z (gu z z (de z (bK z) (gu z z (de z (aB z) (gu z z (de z (aI z (DP.cN (DP.refl _) (cw n))) (dn 4 z (dz (rn 0 z (ci hF z (fun c_8 hF=>?_) (fun c_8 hF=>?_))))))))))))
   ·refine rn 1 z ?_;cases hF;exact rD (ah bG) z
   exact rj 0 2 z (KC (.p1 n ((ls n.Kids).length:Int) 1) _ hF _ _ hG hs)
  exact qL 39 z c_6 (dn 18 z (dz (rn 0 z (cf z z (rj 0 2 z (KC (.p1 n ((ls n.Kids).length:Int) 1) _ hF _ _ hG hs))))))
 refine rn 2 z (ci hF z (fun c_9 hF=>?_) (fun c_9 hF=>?_))
 ·exact rj 1 2 z (KC (.p1 n ((ls n.Kids).length:Int) 1) _ hF _ _ hG hs)
 refine rn 2 z (ci hF z (fun c_10 hF=>?_) (fun c_10 hF=>?_))
 ·exact rn 0 z (ct z c_10 (rj 0 2 z (KC (.p1 n ((ls n.Kids).length:Int) 0) _ hF _ _ hG hs)))
 refine rn 2 z (ci hF z (fun c_11 hF=>?_) (fun c_11 hF=>?_))
 ·exact rn 0 z (ct z c_11 (rj 0 2 z (KC (.p1 n ((ls n.Kids).length:Int) 0) _ hF _ _ hG hs)))
 refine rn 2 z (ci hF z (fun c_12 hF=>?_) (fun c_12 hF=>?_))
 ·exact rn 0 z (ct z c_12 (rj 0 2 z (KC (.p1 n ((ls n.Kids).length:Int) 0) _ hF _ _ hG hs)))
 refine rn 2 z (ci hF z (fun c_13 hF=>?_) (fun c_13 hF=>?_))
 ·exact rn 0 z (ct z c_13 (rj 0 2 z (KC (.p1 n ((ls n.Kids).length:Int) 0) _ hF _ _ hG hs)))
 refine rn 2 z (ci hF z (fun c_14 hF=>?_) (fun c_14 hF=>?_))
 ·exact rj 0 2 z (KC (.p1 n ((ls n.Kids).length:Int) 0) _ hF _ _ hG hs)
 refine rn 1 z ?_;cases hF;exact rD (ah bG) z
def GD:aC:=.ops [qm 41 5,qm 42 9,q 43 (.max [41,42]),qm 5 43]
def Oc:aC:=.o [qi 22 9 18 20,qn 23 9 22,q 7 (.alloc [zb,zu,zu,zu,zu,zi,zi,zi,.aP]),qs 9 7 23] (.o [qn 25 9 7,qc 26 71 [25],qm 24 26,qe 27 24 0,qe 28 24 1,qm 8 27,qm 9 28] (.s (.o [qm 29 8,qb 30 .gtr 29 (ki 0),qm 31 30,(qm 32 4).y 31,(qb 33 .eql 32 (ki 0)).y 31,(qm 34 33).y 31,(qm 35 8).n 34,(qm 36 4).n 34,(qb 37 .lss 35 36).n 34,(qp 38 34 kt 37).y 31,qp 39 31 38 kf] (.cond 39 (.ops [qm 40 8,qm 4 40]) .skip)) GD))
def GF:aC:=.ops [qb 44 .add 20 (ki 1),qm 20 44]
def zp:aC:=.o [qb 21 .lss 20 19] (.s (.cond 21 .skip (.exit 0)) (.s (.block 1 Oc) GF))
def zq:aC:=.o [qm 45 4,qm 46 5,qm 2 45,qm 3 46] .ret
def GC:aC:=.s (.o [qa 17 8 1,ql 18 17,qh 19 18,qm 20 (ki 0)] (.block 0 (.loop zp))) zq
def TE:aC:=.o [qx 1 9 0,qm 2 (ki 0),qm 3 (ki 0)] (.o [qm 4 (ki 0),qm 5 (ki 0)] (.s (.o [qa 10 0 1,ql 11 10,qb 12 .eql 11 (ku 6)] (.cond 12 (.draw [] 0 0 [qa 13 7 1,ql 14 13,qa 15 7 1,ql 16 15,qm 4 14,qm 5 16] []) .skip)) GC))
def ZL:List RA:=[(.tmp 2),(.tmp 3)]
theorem k71:au Tryd.prog (dQ [1]) 71=some ⟨47,TE,ZL⟩:=by kernel_rfl
noncomputable abbrev XY (r:Int × Int):Cx:=cD Tryd.prog gE 47 ZL (AV.bt [AV.int .i64 r.1,AV.int .i64 r.2]) [1]
inductive Pq where
 | e (n:aK)
 | p1 (n:aK) (low:Int) (high:Int)
 | p2 (low:Int) (high:Int) (t18_:Sl aK) (t19_:Int) (t20_:Int)
 | p3 (low:Int) (high:Int) (b:Int) (t18_:Sl aK) (t19_:Int) (t20_:Int)
noncomputable def ko:Pq→Option (Int × Int) | .e n=>(if (n.Kind==6)=true then (ko (.p1 n n.aH n.aH)) else (ko (.p1 n 0 0))) | .p1 n low high=>(ko (.p2 low high n.Kids ((ls n.Kids).length:Int) 0)) | .p2 low high t18_ t19_ t20_=>(if (decide (t20_<t19_))=true then (ix (ls t18_) t20_>>=fun v_3=>(ko (.e v_3)>>=fun r_6=>(if (decide (r_6.1>0))=true then (if (low==0)=true then (ko (.p3 r_6.1 high r_6.2 t18_ t19_ t20_)) else (if (decide (r_6.1<low))=true then (ko (.p3 r_6.1 high r_6.2 t18_ t19_ t20_)) else (ko (.p3 low high r_6.2 t18_ t19_ t20_)))) else (ko (.p3 low high r_6.2 t18_ t19_ t20_))))) else (some (low,high))) | .p3 low high b t18_ t19_ t20_=>(ko (.p2 low (if b>high then b else high) t18_ t19_ (IntKind.wrap .i64 (t20_+1)))) partial_fixpoint
def Yg (x:Pq) (r:Int × Int):Prop:=match x with | .e n=>DFun Tryd.prog gE 71 [dL n] (AV.bt [AV.int .i64 r.1,AV.int .i64 r.2]) | .p1 n low high=> ∀(tm:Fr) (st:aA),dH tm [(1,.aQ (bn n)),(4,AV.int .i64 low),(5,AV.int .i64 high)]→SH st []→W (XY r) [.code GC] tm st | .p2 low high t18_ t19_ t20_=> ∀(tm:Fr) (st:aA),dH tm [(4,AV.int .i64 low),(5,AV.int .i64 high),(18,cg 9 dL t18_),(19,AV.int .i64 t19_),(20,AV.int .i64 t20_)]→SH st []→W (XY r) [.lp zp,.blk 0,.code zq] tm st | .p3 low high b t18_ t19_ t20_=> ∀(tm:Fr) (st:aA),dH tm [(4,AV.int .i64 low),(5,AV.int .i64 high),(9,AV.int .i64 b),(18,cg 9 dL t18_),(19,AV.int .i64 t19_),(20,AV.int .i64 t20_)]→SH st []→W (XY r) [.code GD,.blk 1,.code GF,.lp zp,.blk 0,.code zq] tm st
theorem w71: ∀(x:Pq) (r:Int × Int),ko x=some r→Yg x r:=by
 refine ko.partial_correctness (Yg) ?_;intro g ih x r hF;cases x with
 | e n=>
  dsimp only at hF;refine bD k71 z ?_;have hs:SH [] []:=SH.nil;generalize ([]:aA)=st at hs ⊢;refine rn 0 z (W.o (aY (cs:=bn n) z (by rw [aF];rfl) (aX _)) (rn 4 z (W.o (aB z) (W.o (aI z (DP.cN (DP.refl _) (bI n))) (rn 1 z (ci hF z (fun c_1 hF=>?_) (fun c_1 hF=>?_)))))))
  ·have h0:=hs;exact qq (de z (aB z) (de z (aI z (DP.cN (DP.refl _) (bF n))) (de z (aB z) (de z (aI z (DP.cN (DP.refl _) (bF n))) (dn 2 z (dz (rj 0 1 z (ih _ _ hF _ _ hG hs))))))))
  exact rj 0 1 z (ih _ _ hF _ _ hG hs)
 | p1 n low high=>
  dsimp only at hF;intro tm st hf hs;exact en hf (rn 0 z (W.o (aB z) (W.o (aI z (DP.cN (DP.refl _) (aV n))) (W.o (e_len (bJ z)) (rn 1 z (ih _ _ hF _ _ kj hs))))))
 | p2 low high t18_ t19_ t20_=>
  dsimp only at hF;intro tm st hf hs;refine en hf (lp (rn 1 z (ci hF z (fun c_2 hF=>?_) (fun c_2 hF=>?_))))
  ·refine bj hF fun v_3 g_4 hF=>rn 0 z (W.o (aM (bJ z) z g_4) (W.o (aL z (DP.refl _) (aF _)) (al hs (cs:=bn ({Kind:=0,Set:=(an.rep 4 (0:Int)),Min:=0,Max:=0,aH:=0,Kids:=none}:aK)) z fun st b_5 hs=>sl hs 0 z z (LR.whole _ _) (aF _) z (aF _) (aX _) z fun st hs=>rn 0 z (W.o (eN z (hs.g 0 z) (LR.whole _ _) (aF _)) (bj hF fun r_6 g_7 hF=>df (ih (.e v_3) _ g_7) z (rn 8 z (bi hF (fun c_8 hF=>?_) (fun c_8 hF=>?_))))))))
   ·refine bL 31 z c_8 (rn 3 z (bi hF (fun c_9 hF=>?_) (fun c_9 hF=>?_)))
    ·exact bL 34 z c_9 (rn 5 z (ct z z (rj 2 1 z (ih _ _ hF _ _ lD (hs.p 1 [] z)))))
    refine bL 34 z c_9 (rn 5 z (ci hF z (fun c_10 hF=>?_) (fun c_10 hF=>?_)))
    ·exact rj 2 1 z (ih _ _ hF _ _ lD (hs.p 1 [] z))
    exact rj 0 1 z (ih _ _ hF _ _ lD (hs.p 1 [] z))
   exact bL 31 z c_8 (rn 8 z (cf z z (rj 0 1 z (ih _ _ hF _ _ lD (hs.p 1 [] z)))))
  refine rn 4 z ?_;cases hF;exact rD (ah (ah bG)) z
 | p3 low high b t18_ t19_ t20_=>
  dsimp only at hF;intro tm st hf hs;exact en hf (rn 6 z (ih _ _ hF _ _ kj hs))
noncomputable def Jw (n:aK):Option (Int × Int):=ko (.e n)
theorem d71 (n:aK) (r:Int × Int) (hF:Jw n=some r):DFun Tryd.prog gE 71 [dL n] (AV.bt [AV.int .i64 r.1,AV.int .i64 r.2]):=by
 exact w71 (.e n) r hF
def Sp:aC:=.o [qx 1 1 0,qm 2 (.c .cQ)] (.o [q 3 (.mZ 81 [1]),qm 2 3] .ret)
def R53:List RA:=[(.tmp 2)]
theorem k53:au Tryd.prog (dQ [1]) 53=some ⟨4,Sp,R53⟩:=by kernel_rfl
noncomputable def KQ (n:aK):Option aK:=(some n)
theorem d53 (n:aK) (r:aK) (hF:KQ n=some r):DFun Tryd.prog gE 53 [.aQ (bn n)] (.fn 81 [.aQ [.aQ (bn r)]]):=by
 unfold KQ at hF;refine bD k53 z ?_;have hs:SH [] []:=SH.nil;generalize ([]:aA)=st at hs ⊢;refine rn 0 z (W.o (aY (cs:=[.aQ (bn n)]) z z z) (rn 3 z ?_));cases hF;exact rD (ah bG) z
def Of:aC:=.s (.draw [] 0 0 [ql 18 2,qm 19 0,qk 20 19,qa 21 8 20,ql 22 21,qm 23 5,qi 24 9 22 23] [qf 25 18 [24],q 26 (.un .not 25)]) (.cond 26 (.o [qm 4 kf] .ret) .skip)
def GM:aC:=.o [qb 16 .lss 15 14] (.s (.cond 16 .skip (.exit 0)) (.s (.block 1 (.o [qm 17 15,qm 5 17] Of)) (.ops [qb 27 .add 15 (ki 1),qm 15 27])))
def GN:aC:=.o [qm 4 kt] .ret
def TP:aC:=.o [qm 4 kf] (.s (.o [ql 6 1,qm 7 0,qf 8 6 [7],q 9 (.un .not 8)] (.cond 9 (.o [qm 4 kf] .ret) .skip)) (.s (.o [qm 10 0,qk 11 10,qa 12 8 11,ql 13 12,qh 14 13,qm 15 (ki 0)] (.block 0 (.loop GM))) GN))
def ZP:List RA:=[(.tmp 4)]
theorem k82:au Tryd.prog (dQ []) 82=some ⟨28,TP,ZP⟩:=by kernel_rfl
noncomputable abbrev X82 (K:AV→aA→Prop):Cx:=cK Tryd.prog gE 28 ZP (uL K)
inductive Pr (σ :Type) where
 | e (n:aK) (s_: σ)
 | p1 (n:aK) (t14_:Int) (t15_:Int) (s_: σ)
noncomputable def mc {σ :Type} (Y:aK→ σ →Option (Bool × σ)):Pr σ →Option (Bool × σ) | .e n s_=>(Y n s_>>=fun r_1=>(if (!r_1.1)=true then (some (false,r_1.2)) else (mc Y (.p1 n ((ls n.Kids).length:Int) 0 r_1.2)))) | .p1 n t14_ t15_ s_=>(if (decide (t15_<t14_))=true then (ix (ls n.Kids) t15_>>=fun v_5=>(mc Y (.e v_5 s_)>>=fun r_7=>(if (!r_7.1)=true then (some (false,r_7.2)) else (mc Y (.p1 n t14_ (IntKind.wrap .i64 (t15_+1)) r_7.2))))) else (some (true,s_))) partial_fixpoint
def Yh {σ :Type} (H: σ →bU) (iY0:Nat) (x:Pr σ) (r:Bool × σ):Prop:=match x with | .e n s_=> ∀(K:AV→aA→Prop) (Ls:List bU) (iW1:Nat),(∀st,SH st (H r.2::pt iW1 (.cells [.fn 82 [.aQ [.nR iY0],.ptr iW1 0]])::Ls)→K (AV.bool r.1) st)→ ∀(st:aA),SH st (H s_::pt iW1 (.cells [.fn 82 [.aQ [.nR iY0],.ptr iW1 0]])::Ls)→XCall Tryd.prog gE 82 [.aQ (bn n),.aQ [.nR iY0],.ptr iW1 0] st K | .p1 n t14_ t15_ s_=> ∀(K:AV→aA→Prop) (Ls:List bU) (iW1:Nat),(∀st,SH st (H r.2::pt iW1 (.cells [.fn 82 [.aQ [.nR iY0],.ptr iW1 0]])::Ls)→K (AV.bool r.1) st)→ ∀(tm:Fr) (st:aA),dH tm [(0,.aQ (bn n)),(2,.ptr iW1 0),(14,AV.int .i64 t14_),(15,AV.int .i64 t15_)]→SH st (H s_::pt iW1 (.cells [.fn 82 [.aQ [.nR iY0],.ptr iW1 0]])::Ls)→W (X82 K) [.lp GM,.blk 0,.code GN] tm st
theorem w82 {σ :Type} {H: σ →bU} {Y:aK→ σ →Option (Bool × σ)} (iY0:Nat) (hY: ∀(x:aK) (s: σ) (r:Bool × σ),Y x s=some r→ ∀(K:AV→aA→Prop) (L:List bU) (st:aA),SH st (H s::L)→(∀st,SH st (H r.2::L)→K (.bool r.1) st)→XYield Tryd.prog gE iY0 [.aQ (bn x)] st K): ∀(x:Pr σ) (r:Bool × σ),mc Y x=some r→Yh H iY0 x r:=by
 refine mc.partial_correctness Y (Yh H iY0) ?_;intro g ih x r hF;cases x with
 | e n s_=>
  dsimp only at hF;intro K Ls iW1 hK  st hs;refine bS k82 z (rn 1 z (W.o (dW z z) (bj hF fun r_1 g_2 hF=>rn 1 z ?_)));refine cy z z (hY _ _ _ g_2 _ _ _ hs fun st hs=>?_);refine rn 1 z (ci hF z (fun c_3 hF=>?_) (fun c_3 hF=>?_))
  ·refine rn 1 z ?_;cases hF;exact rS (ah bG) (hK _ hs) z
  exact rn 1 z (W.o (bK z) (W.o (aB z) (W.o (aI z (DP.cN (DP.refl _) (aV n))) (W.o (e_len (bJ z)) (rn 1 z (ih _ _ hF K Ls iW1 hK _ _ iG hs))))))
 | p1 n t14_ t15_ s_=>
  dsimp only at hF;intro K Ls iW1 hK tm st hf hs;refine en hf (lp (rn 1 z (ci hF z (fun c_4 hF=>?_) (fun c_4 hF=>?_))))
  ·refine rn 2 z ?_;have h0:=hs;refine qq (de z (l1 z (h0.g 1 z) z) (dn 1 z (de z (bK z) (de z (aB z) (de z (aI z (DP.cN (DP.refl _) (aV n))) (bj hF fun v_5 g_6 hF=>dn 1 z (de z (aM (bJ z) z g_6) (dz (bj hF fun r_7 g_8 hF=>?_)))))))));refine cv z (by kernel_rfl) (dw z) (ih (.e v_5 s_) _ g_8 _ _ iW1 (fun st hs=>?_) _ hs);refine rn 1 z (ci hF z (fun c_9 hF=>?_) (fun c_9 hF=>?_))
   ·refine rn 1 z ?_;cases hF;exact rS (ah bG) (hK _ hs) z
   exact rn 2 z (ih _ _ hF K Ls iW1 hK _ _ iG hs)
  refine rn 1 z ?_;cases hF;exact rS (ah bG) (hK _ hs) z
noncomputable def Tk {σ :Type} (Y:aK→ σ →Option (Bool × σ)) (n:aK) (s_: σ):Option (Bool × σ):=mc Y (.e n s_)
theorem d82 {σ :Type} {H: σ →bU} {Y:aK→ σ →Option (Bool × σ)} (iY0:Nat) (hY: ∀(x:aK) (s: σ) (r:Bool × σ),Y x s=some r→ ∀(K:AV→aA→Prop) (L:List bU) (st:aA),SH st (H s::L)→(∀st,SH st (H r.2::L)→K (.bool r.1) st)→XYield Tryd.prog gE iY0 [.aQ (bn x)] st K) (n:aK) (s_: σ) (r:Bool × σ) (hF:Tk Y n s_=some r): ∀(K:AV→aA→Prop) (Ls:List bU) (iW1:Nat),(∀st,SH st (H r.2::pt iW1 (.cells [.fn 82 [.aQ [.nR iY0],.ptr iW1 0]])::Ls)→K (AV.bool r.1) st)→ ∀(st:aA),SH st (H s_::pt iW1 (.cells [.fn 82 [.aQ [.nR iY0],.ptr iW1 0]])::Ls)→XCall Tryd.prog gE 82 [.aQ (bn n),.aQ [.nR iY0],.ptr iW1 0] st K:=by
 exact (w82 iY0 hY) (.e n s_) r hF
def TO:aC:=.o [qx 2 1 0] (.o [q 3 (.alloc [.cQ])] (.o [q 4 (.mZ 82 [2,3]),qs 1 3 4] (.ops [ql 5 3,ql 6 1,qf 7 5 [6]])))
def R81:List RA:=[]
theorem k81:au Tryd.prog (dQ [2]) 81=some ⟨8,TO,R81⟩:=by kernel_rfl
noncomputable def KS {σ :Type} (Y:aK→ σ →Option (Bool × σ)) (d0_:aK) (s_: σ):Option σ :=(Tk Y d0_ s_>>=fun r_2=>(some r_2.2))
theorem d81 {σ :Type} {H: σ →bU} {Y:aK→ σ →Option (Bool × σ)} (iY0:Nat) (hY: ∀(x:aK) (s: σ) (r:Bool × σ),Y x s=some r→ ∀(K:AV→aA→Prop) (L:List bU) (st:aA),SH st (H s::L)→(∀st,SH st (H r.2::L)→K (.bool r.1) st)→XYield Tryd.prog gE iY0 [.aQ (bn x)] st K) (d0_:aK) (s_: σ) (r: σ) (hF:KS Y d0_ s_=some r): ∀(K:AV→aA→Prop) (Ls:List bU),(∀st,SH st (H r::Ls)→K (AV.bt []) st)→ ∀(st:aA),SH st (H s_::Ls)→XCall Tryd.prog gE 81 [.nR iY0,.aQ [.aQ (bn d0_)]] st K:=by
 unfold KS at hF;intro K Ls hK  st hs;refine bS k81 z (rn 0 z (W.o (aY (cs:=[.nR iY0]) z z z) (rn 0 z (al hs (cs:=[.cQ]) z fun st b_1 hs=>rn 1 z (sr hs 0 z z z (cs':=[.fn 82 [.aQ [.nR iY0],.ptr b_1 0]]) z z fun st hs=>rn 0 z (W.o (l1 z (hs.g 0 z) z) (W.o (dW z z) (bj hF fun r_2 g_3 hF=>?_))))))));refine cv z (by kernel_rfl) (dw z) (d82 iY0 hY d0_ s_ _ g_3 _ _ b_1 (fun st hs=>?_) _ (hs.p 2 [1,0] z));refine rn 0 z ?_;cases hF;exact eS bG (hK _ (hs.p 2 [0] z)) z
def Ez:aC:=.ops [qm 4 6]
def FA:aC:=.block 1 (.o [qm 7 4,qk 8 7,qa 9 0 8,ql 10 9,qb 11 .eql 10 (ku 6)] (.cond 11 (.ops [ql 12 3,qb 13 .add 12 (ki 1),qs 1 3 13]) .skip))
def Lx:aC:=.range 5 [6] Ez FA
def FB:aC:=.o [ql 14 3,qm 2 14] .ret
def SU:aC:=.o [qx 1 9 0,qm 2 (ki 0)] (.o [q 3 (.alloc [zi]),qs 1 3 (ki 0)] (.s (.o [qc 5 53 [1]] (.block 0 Lx)) FB))
def Yu:List RA:=[(.tmp 2)]
theorem k36:au Tryd.prog (dQ [1]) 36=some ⟨15,SU,Yu⟩:=by kernel_rfl
noncomputable abbrev X36 (r:Int):Cx:=cD Tryd.prog gE 15 Yu (AV.int .i64 r) [1]
noncomputable def lE (t2_:Int) (t5_:aK) (x:aK) (zz:Int × Nat):Option (Bool × (Int × Nat)):=if zz.2=0 then (if (x.Kind==6)=true then (some (true,(IntKind.wrap .i64 (zz.1+1),0))) else (some (true,(zz.1,0))))
else none
theorem UN (t2_:Int) (t5_:aK) (x:aK) (zz:Int × Nat) (r:Bool × (Int × Nat)) (hF:lE t2_ t5_ x zz=some r) (K:AV→aA→Prop) (Ls:List bU) (iL:Nat) (ca cb:Code) (tm0:Fr) (io0:Nat) (q1:bp Tryd.prog 15 (mW (dQ [1])) ca=some Ez) (q2:bp Tryd.prog 15 (mW (dQ [1])) cb=some FA) (hf:dH tm0 [(2,AV.int .i64 t2_),(3,.ptr io0 0),(5,.fn 81 [.aQ [.aQ (bn t5_)]])]) (hK: ∀st,SH st (sG [pt iL (.loop 15 [6] ca cb tm0 (rF r.2.2) (qu [] r.2.2)),pt io0 (.cells (cI .i64 r.2.1))]::Ls)→K (.bool r.1) st) (st:aA) (hs:SH st (sG [pt iL (.loop 15 [6] ca cb tm0 (rF zz.2) (qu [] zz.2)),pt io0 (.cells (cI .i64 zz.1))]::Ls)):XYield Tryd.prog gE iL [.aQ (bn x)] st K:=by
 unfold lE at hF;obtain ⟨c_,hF⟩:=jc hF;replace hs:SH st ([pt iL (.loop 15 [6] ca cb tm0 (rF zz.2) (qu [] zz.2)),pt io0 (.cells (cI .i64 zz.1))]++Ls):=SH.qX hs;rw [c_] at hs;replace hs:SH st (pt iL (.loop 15 [6] ca cb tm0 .ready none)::pt io0 (.cells (cI .i64 zz.1))::Ls):=hs;replace hK:(∀st,SH st (pt iL (.loop 15 [6] ca cb tm0 (rF r.2.2) (qu [] r.2.2))::pt io0 (.cells (cI .i64 r.2.1))::Ls)→K (.bool r.1) st):=fun st hs=>hK st (SH.sG hs);refine WV (mu:=[1]) q1 q2 hs z z (fun _ _=>trivial) ?_;rw [Cj hf];refine rn 1 z (We hs fun st hs=>rn 1 z (W.o (bK z) (W.o (aB z) (W.o (aI z (DP.cN (DP.refl _) (bI x))) (rn 1 z (ci hF z (fun c_1 hF=>?_) (fun c_1 hF=>?_)))))))
 ·refine rn 0 z (W.o (l1 z (hs.g 1 z) z) (rn 1 z (sr hs 1 z z z (cs':=cI .i64 (IntKind.wrap .i64 (zz.1+1))) z z fun st hs=>rn 0 z ?_)));cases hF;exact Lh hs (fun st hs=>hK st hs)
 refine rn 0 z ?_;cases hF;exact Lh hs (fun st hs=>hK st hs)
inductive Pa where
 | p1 (t2_:Int) (t5_:aK) (k:Int)
noncomputable def WM:Pa→Option Int | .p1 t2_ t5_ k=>(KS (lE t2_ t5_) t5_ (k,0)>>=fun r_4=>(if r_4.2=0 then (some r_4.1) else none))
def M36 (x:Pa) (r:Int):Prop:=match x with | .p1 t2_ t5_ k=> ∀(tm:Fr) (st:aA) (io0:Nat),dH tm [(2,AV.int .i64 t2_),(3,.ptr io0 0),(5,.fn 81 [.aQ [.aQ (bn t5_)]])]→SH st [pt io0 (.cells (cI .i64 k))]→W (X36 r) [.code Lx,.blk 0,.code FB] tm st
theorem w36: ∀(x:Pa) (r:Int),WM x=some r→M36 x r:=by
 intro x r hF;cases x with
 | p1 t2_ t5_ k=>
  dsimp only [WM] at hF;intro tm st io0 hf hs;refine bj hF fun r_4 g_5 hF=>rg (N:=15) (fr:=[]) z hs hf.2.2.1 (by kernel_rfl) fun ca cb st iL q1 q2 hs=>?_;refine d81 (σ :=Int × Nat) (H:=fun zz=>sG [pt iL (.loop 15 [6] ca cb tm (rF zz.2) (qu [] zz.2)),pt io0 (.cells (cI .i64 zz.1))]) (Y:=lE t2_ t5_) iL (fun x zz r hB K L st hs hK=>UN t2_ t5_ x zz r hB K L iL ca cb tm io0 q1 q2 hf hK st hs) t5_ (k,0) _ g_5 _ _ (fun st hs=>?_) _ (SH.sG hs);replace hs:SH st ([pt iL (.loop 15 [6] ca cb tm (rF r_4.2) (qu [] r_4.2)),pt io0 (.cells (cI .i64 r_4.1))]++_):=SH.qX hs;refine ni hF (fun c_ hF=>?_) (fun c_ hF=>?_)
  ·rw [c_] at hs;refine Wg hs (by decide) fun st hs=>en hf (rn 0 z (W.o (l1 z (hs.g 0 z) z) (rn 1 z ?_)));cases hF;exact rD (ah bG) z
  cases hF
noncomputable def Tf (n:aK):Option Int:=(KQ n>>=fun r_2=>(WM (.p1 0 r_2 0)))
theorem d36 (n:aK) (r:Int) (hF:Tf n=some r):DFun Tryd.prog gE 36 [dL n] (AV.int .i64 r):=by
 unfold Tf at hF;refine bD k36 z ?_;have hs:SH [] []:=SH.nil;generalize ([]:aA)=st at hs ⊢;exact rn 0 z (W.o (aY (cs:=bn n) z (by rw [aF];rfl) (aX _)) (rn 1 z (al hs (cs:=cI .i64 0) z fun st b_1 hs=>sr hs 0 z z z (cs':=cI .i64 0) z z fun st hs=>bj hF fun r_2 g_3 hF=>rn 0 z (df (d53 n _ g_3) z (rj 0 2 z (w36 (.p1 0 r_2 0) _ hF _ _ b_1 hG hs))))))
def TD:aC:=.ops [ql 3 1,qm 4 0,qb 5 .add 3 4,q 6 (.min [5,(ki 16385)]),qs 1 1 6]
def R70:List RA:=[]
theorem k70:au Tryd.prog (dQ []) 70=some ⟨7,TD,R70⟩:=by kernel_rfl
noncomputable def DA (x_:Int) (q0_:Int):Option Int:=(some (if 16385<(IntKind.wrap .i64 (q0_+x_)) then 16385 else (IntKind.wrap .i64 (q0_+x_))))
theorem d70 (x_:Int) (q0_:Int) (r:Int) (hF:DA x_ q0_=some r): ∀(K:AV→aA→Prop) (Ls:List bU) (iQ0:Nat),(∀st,SH st (pt iQ0 (.cells (cI .i64 r))::Ls)→K (AV.bt []) st)→ ∀(st:aA),SH st (pt iQ0 (.cells (cI .i64 q0_))::Ls)→XCall Tryd.prog gE 70 [AV.int .i64 x_,.ptr iQ0 0] st K:=by
 unfold DA at hF;intro K Ls iQ0 hK  st hs;refine bS k70 z (rn 0 z (W.o (l1 z (hs.g 0 z) z) (rn 3 z (sr hs 0 z z z (cs':=cI .i64 (if 16385<(IntKind.wrap .i64 (q0_+x_)) then 16385 else (IntKind.wrap .i64 (q0_+x_)))) z z fun st hs=>rn 0 z ?_))));cases hF;exact eS bG (hK _ hs) z
def OR:aC:=.o [qb 19 .eql 12 (ku 4),qm 17 19] (.cond 17 .skip (.ops [qb 20 .eql 12 (ku 6),qm 17 20]))
def Fi:aC:=.o [qb 25 .lss 24 23] (.s (.cond 25 .skip (.exit 1)) (.s (.block 2 (.o [qi 26 9 22 24,qn 27 9 26,q 6 (.alloc [zb,zu,zu,zu,zu,zi,zi,zi,.aP]),qs 9 6 27] (.ops [qm 28 4,qn 29 9 6,qc 30 51 [29],qf 31 28 [30]]))) (.ops [qb 32 .add 24 (ki 1),qm 24 32])))
def OS:aC:=.o [qa 21 8 1,ql 22 21,qh 23 22,qm 24 (ki 0)] (.block 1 (.loop Fi))
def Fk:aC:=.o [qa 43 0 1,ql 44 43,qb 45 .eql 44 (ku 6)] (.cond 45 (.ops [qm 46 4,qf 47 46 [(ki 2)]]) .skip)
def Fj:aC:=.s (.o [qa 33 0 1,ql 34 33,qb 35 .eql 34 (ku 4)] (.cond 35 (.ops [qm 36 4,qa 37 8 1,ql 38 37,qh 39 38,qb 40 .sub 39 (ki 1),qb 41 .mul (ki 2) 40,qf 42 36 [41]]) .skip)) Fk
def Fh:aC:=.s OS Fj
def Fl:aC:=.o [qm 68 4,qa 69 5 1,ql 70 69,qm 71 7,qb 72 .mul 70 71,qf 73 68 [72]] (.o [qa 74 6 1,ql 75 74,qb 76 .eql 75 (ki (-1))] (.cond 76 (.ops [qm 77 4,qm 78 7,qb 79 .add 78 (ki 4),qf 80 77 [79]]) (.ops [qm 81 4,qa 82 6 1,ql 83 82,qa 84 5 1,ql 85 84,qb 86 .sub 83 85,qm 87 7,qb 88 .add 87 (ki 3),qb 89 .mul 86 88,qf 90 81 [89]])))
def OT:aC:=.cond 48 (.o [qa 50 8 1,ql 51 50,qi 52 9 51 (ki 0),qn 53 9 52,qc 54 51 [53],qm 7 54] (.s (.o [qa 56 8 1,ql 57 56,qi 58 9 57 (ki 0),qn 59 9 58,qc 60 71 [59],qm 55 60,qe 61 55 0,qe 62 55 1,qm 8 61,qm 9 62] (.o [qm 63 8,qb 64 .gtr 63 (ki 0)] (.cond 64 (.ops [qm 65 7,qb 66 .add 65 (ki 1),q 67 (.min [66,(ki 16385)]),qm 7 67]) .skip))) Fl)) (.ops [qm 13 4,qf 14 13 [(ki 1)]])
def rV:aC:=.o [ql 91 3,qm 2 91] .ret
def Sm:aC:=.o [qx 1 9 0,qm 2 (ki 0)] (.o [q 3 (.alloc [zi]),qs 1 3 (ki 0)] (.o [q 10 (.mZ 70 [3]),qm 4 10] (.s (.o [qa 11 0 1,ql 12 11] (.block 0 (.o [qb 16 .eql 12 (ku 1),qm 15 16] (.cond 15 .skip (.s (.o [qb 18 .eql 12 (ku 3),qm 17 18] (.cond 17 .skip OR)) (.cond 17 Fh (.o [qb 49 .eql 12 (ku 5),qm 48 49] OT))))))) rV)))
def ZF:List RA:=[(.tmp 2)]
theorem k51:au Tryd.prog (dQ [1]) 51=some ⟨92,Sm,ZF⟩:=by kernel_rfl
noncomputable abbrev WR (r:Int):Cx:=cD Tryd.prog gE 92 ZF (AV.int .i64 r) [1]
inductive Ph where
 | e (n:aK)
 | p1 (n:aK) (sum:Int)
 | p2 (n:aK) (round:Int) (sum:Int)
 | p3 (n:aK) (t22_:Sl aK) (t23_:Int) (t24_:Int) (sum:Int)
 | p4 (n:aK) (sum:Int)
noncomputable def nc:Ph→Option Int | .e n=>(if (n.Kind==1)=true then (some 0) else (if (n.Kind==3)=true then (nc (.p1 n 0)) else (if (n.Kind==4)=true then (nc (.p1 n 0)) else (if (n.Kind==6)=true then (nc (.p1 n 0)) else (if (n.Kind==5)=true then (ix (ls n.Kids) 0>>=fun v_7=>(nc (.e v_7)>>=fun r_9=>(ix (ls n.Kids) 0>>=fun v_11=>(Jw v_11>>=fun r_13=>(if (decide (r_13.1>0))=true then (nc (.p2 n (if 16385<(IntKind.wrap .i64 (r_9+1)) then 16385 else (IntKind.wrap .i64 (r_9+1))) 0)) else (nc (.p2 n r_9 0))))))) else (DA 1 0>>=fun r_16=>(some r_16))))))) | .p1 n sum=>(nc (.p3 n n.Kids ((ls n.Kids).length:Int) 0 sum)) | .p2 n round sum=>(DA (IntKind.wrap .i64 (n.Min*round)) sum>>=fun r_18=>(if (n.Max==(-1))=true then (DA (IntKind.wrap .i64 (round+4)) r_18>>=fun r_21=>(some r_21)) else (DA (IntKind.wrap .i64 ((IntKind.wrap .i64 (n.Max-n.Min))*(IntKind.wrap .i64 (round+3)))) r_18>>=fun r_23=>(some r_23)))) | .p3 n t22_ t23_ t24_ sum=>(if (decide (t24_<t23_))=true then (ix (ls t22_) t24_>>=fun v_26=>(nc (.e v_26)>>=fun r_29=>(DA r_29 sum>>=fun r_31=>(nc (.p3 n t22_ t23_ (IntKind.wrap .i64 (t24_+1)) r_31))))) else (if (n.Kind==4)=true then (DA (IntKind.wrap .i64 (2*(IntKind.wrap .i64 (((ls n.Kids).length:Int)-1)))) sum>>=fun r_34=>(nc (.p4 n r_34))) else (nc (.p4 n sum)))) | .p4 n sum=>(if (n.Kind==6)=true then (DA 2 sum>>=fun r_37=>(some r_37)) else (some sum)) partial_fixpoint
def Yc (x:Ph) (r:Int):Prop:=match x with | .e n=>DFun Tryd.prog gE 51 [dL n] (AV.int .i64 r) | .p1 n sum=> ∀(tm:Fr) (st:aA) (io0:Nat),dH tm [(1,.aQ (bn n)),(3,.ptr io0 0),(4,.fn 70 [.ptr io0 0])]→SH st [pt io0 (.cells (cI .i64 sum))]→W (WR r) [.code Fh,.blk 0,.code rV] tm st | .p2 n round sum=> ∀(tm:Fr) (st:aA) (io0:Nat),dH tm [(1,.aQ (bn n)),(3,.ptr io0 0),(4,.fn 70 [.ptr io0 0]),(7,AV.int .i64 round)]→SH st [pt io0 (.cells (cI .i64 sum))]→W (WR r) [.code Fl,.blk 0,.code rV] tm st | .p3 n t22_ t23_ t24_ sum=> ∀(tm:Fr) (st:aA) (io0:Nat),dH tm [(1,.aQ (bn n)),(3,.ptr io0 0),(4,.fn 70 [.ptr io0 0]),(22,cg 9 dL t22_),(23,AV.int .i64 t23_),(24,AV.int .i64 t24_)]→SH st [pt io0 (.cells (cI .i64 sum))]→W (WR r) [.lp Fi,.blk 1,.code Fj,.blk 0,.code rV] tm st | .p4 n sum=> ∀(tm:Fr) (st:aA) (io0:Nat),dH tm [(1,.aQ (bn n)),(3,.ptr io0 0),(4,.fn 70 [.ptr io0 0])]→SH st [pt io0 (.cells (cI .i64 sum))]→W (WR r) [.code Fk,.blk 0,.code rV] tm st
theorem w51: ∀(x:Ph) (r:Int),nc x=some r→Yc x r:=by
 refine nc.partial_correctness (Yc) ?_;intro g ih x r hF;cases x with
 | e n=>
  dsimp only at hF;refine bD k51 z ?_;have hs:SH [] []:=SH.nil;generalize ([]:aA)=st at hs ⊢;refine rn 0 z (W.o (aY (cs:=bn n) z (by rw [aF];rfl) (aX _)) (rn 1 z (al hs (cs:=cI .i64 0) z fun st b_1 hs=>sr hs 0 z z z (cs':=cI .i64 0) z z fun st hs=>rn 2 z (W.o (aB z) (W.o (aI z (DP.cN (DP.refl _) (bI n))) (rn 2 z (ci hF z (fun c_2 hF=>?_) (fun c_2 hF=>?_))))))))
  ·refine rn 0 z (W.o (l1 z (hs.g 0 z) z) (rn 1 z ?_));cases hF;exact rD (ah bG) z
  refine rn 2 z (ci hF z (fun c_3 hF=>?_) (fun c_3 hF=>?_))
  ·exact rn 0 z (ct z c_3 (ih _ _ hF _ _ b_1 hG hs))
  refine rn 2 z (ci hF z (fun c_4 hF=>?_) (fun c_4 hF=>?_))
  ·exact rn 0 z (ct z c_4 (ih _ _ hF _ _ b_1 hG hs))
  refine rn 2 z (ci hF z (fun c_5 hF=>?_) (fun c_5 hF=>?_))
  ·exact ih _ _ hF _ _ b_1 hG hs
  refine rn 2 z (ci hF z (fun c_6 hF=>?_) (fun c_6 hF=>?_))
  ·refine rn 0 z (W.o (aB z) (W.o (aI z (DP.cN (DP.refl _) (aV n))) (bj hF fun v_7 g_8 hF=>W.o (aM (bJ z) z g_8) (W.o (aL z (DP.refl _) (aF _)) (bj hF fun r_9 g_10 hF=>df (ih (.e v_7) _ g_10) z (rn 1 z (W.o (aB z) (W.o (aI z (DP.cN (DP.refl _) (aV n))) (bj hF fun v_11 g_12 hF=>W.o (aM (bJ z) z g_12) (W.o (aL z (DP.refl _) (aF _)) ?_))))))))));refine bj hF fun r_13 g_14 hF=>df (d71 _ _ g_14) z (rn 7 z (ci hF z (fun c_15 hF=>?_) (fun c_15 hF=>?_)))
   ·exact rj 4 1 z (ih _ _ hF _ _ b_1 iG hs)
   exact rj 0 1 z (ih _ _ hF _ _ b_1 iG hs)
  refine bj hF fun r_16 g_17 hF=>rn 1 z ?_;refine cv z (by kernel_rfl) (dw z) (d70 1 0 _ g_17 _ _ b_1 (fun st hs=>?_) _ hs);refine rn 0 z (W.o (l1 z (hs.g 0 z) z) (rn 1 z ?_));cases hF;exact rD (ah bG) z
 | p1 n sum=>
  dsimp only at hF;intro tm st io0 hf hs;exact en hf (rn 0 z (W.o (aB z) (W.o (aI z (DP.cN (DP.refl _) (aV n))) (W.o (e_len (bJ z)) (rn 1 z (ih _ _ hF _ _ io0 lD hs))))))
 | p2 n round sum=>
  dsimp only at hF;intro tm st io0 hf hs;refine en hf (rn 1 z (W.o (aB z) (W.o (aI z (DP.cN (DP.refl _) (cm n))) (bj hF fun r_18 g_19 hF=>rn 2 z ?_))));refine cv z (by kernel_rfl) (dw z) (d70 _ _ _ g_19 _ _ io0 (fun st hs=>?_) _ hs);refine rn 0 z (W.o (aB z) (W.o (aI z (DP.cN (DP.refl _) (cw n))) (rn 1 z (ci hF z (fun c_20 hF=>?_) (fun c_20 hF=>?_)))))
  ·refine bj hF fun r_21 g_22 hF=>rn 3 z ?_;refine cv z (by kernel_rfl) (dw z) (d70 _ _ _ g_22 _ _ io0 (fun st hs=>?_) _ hs);refine rn 0 z (W.o (l1 z (hs.g 0 z) z) (rn 1 z ?_));cases hF;exact rD (ah bG) z
  refine rn 1 z (W.o (aB z) (W.o (aI z (DP.cN (DP.refl _) (cw n))) (W.o (aB z) (W.o (aI z (DP.cN (DP.refl _) (cm n))) (bj hF fun r_23 g_24 hF=>rn 4 z ?_)))));refine cv z (by kernel_rfl) (dw z) (d70 _ _ _ g_24 _ _ io0 (fun st hs=>?_) _ hs);refine rn 0 z (W.o (l1 z (hs.g 0 z) z) (rn 1 z ?_));cases hF;exact rD (ah bG) z
 | p3 n t22_ t23_ t24_ sum=>
  dsimp only at hF;intro tm st io0 hf hs;refine en hf (lp (rn 1 z (ci hF z (fun c_25 hF=>?_) (fun c_25 hF=>?_))))
  ·refine bj hF fun v_26 g_27 hF=>rn 0 z (W.o (aM (bJ z) z g_27) (W.o (aL z (DP.refl _) (aF _)) (al hs (cs:=bn ({Kind:=0,Set:=(an.rep 4 (0:Int)),Min:=0,Max:=0,aH:=0,Kids:=none}:aK)) z fun st b_28 hs=>sl hs 0 z z (LR.whole _ _) (aF _) z (aF _) (aX _) z fun st hs=>rn 1 z (W.o (eN z (hs.g 0 z) (LR.whole _ _) (aF _)) (bj hF fun r_29 g_30 hF=>df (ih (.e v_26) _ g_30) z (bj hF fun r_31 g_32 hF=>?_))))));refine cv z (by kernel_rfl) (dw z) (d70 _ _ _ g_32 _ _ io0 (fun st hs=>?_) _ (hs.p 2 [1,0] z));exact rn 2 z (ih _ _ hF _ _ io0 lD (hs.p 2 [0] z))
  refine rn 0 z (W.o (aB z) (W.o (aI z (DP.cN (DP.refl _) (bI n))) (rn 1 z (ci hF z (fun c_33 hF=>?_) (fun c_33 hF=>?_)))))
  ·refine rn 1 z (W.o (aB z) (W.o (aI z (DP.cN (DP.refl _) (aV n))) (W.o (e_len (bJ z)) (bj hF fun r_34 g_35 hF=>rn 2 z ?_))));refine cv z (by kernel_rfl) (dw z) (d70 _ _ _ g_35 _ _ io0 (fun st hs=>?_) _ hs);exact rj 0 1 z (ih _ _ hF _ _ io0 hG hs)
  exact rj 0 1 z (ih _ _ hF _ _ io0 hG hs)
 | p4 n sum=>
  dsimp only at hF;intro tm st io0 hf hs;refine en hf (rn 0 z (W.o (aB z) (W.o (aI z (DP.cN (DP.refl _) (bI n))) (rn 1 z (ci hF z (fun c_36 hF=>?_) (fun c_36 hF=>?_))))))
  ·refine bj hF fun r_37 g_38 hF=>rn 1 z ?_;refine cv z (by kernel_rfl) (dw z) (d70 _ _ _ g_38 _ _ io0 (fun st hs=>?_) _ hs);refine rn 0 z (W.o (l1 z (hs.g 0 z) z) (rn 1 z ?_));cases hF;exact rD (ah bG) z
  refine rn 0 z (W.o (l1 z (hs.g 0 z) z) (rn 1 z ?_));cases hF;exact rD (ah bG) z
noncomputable def Wv (n:aK):Option Int:=nc (.e n)
theorem d51 (n:aK) (r:Int) (hF:Wv n=some r):DFun Tryd.prog gE 51 [dL n] (AV.int .i64 r):=by
 exact w51 (.e n) r hF
def Fy:aC:=.ops [ql 32 3,q 33 (.bE 1 1 false [(.bool false)] [(0,(1,kf))] false),q 34 (.ng 1 1 32 33),qs 1 3 34]
def HD:List bZ:=(qa 61 7 60).y 57::(ql 62 61).y 57::(qb 63 .sub 62 (ki 1)).y 57::(qi 64 1 58 63).y 57::(ql 65 64).y 57::qp 66 57 65 kf::[]
def HC:List bZ:=qm 37 0::qk 38 37::qa 39 7 38::ql 40 39::qb 41 .geq 40 (ki 1)::qm 42 41::(qm 43 0).y 42::(qk 44 43).y 42::(qa 45 7 44).y 42::(ql 46 45).y 42::(qb 47 .leq 46 (ki 9)).y 42::qp 48 42 47 kf::qm 49 48::(qm 50 0).y 49::(qk 51 50).y 49::(qa 52 7 51).y 49::(ql 53 52).y 49::(ql 54 2).y 49::(qb 55 .leq 53 54).y 49::qp 56 49 55 kf::qm 57 56::(ql 58 3).y 57::(qm 59 0).y 57::(qk 60 59).y 57::HD
def OZ:aC:=.o [qm 74 72,qm 6 74] (.o [ql 75 1] (.cond 75 (.draw [] 0 0 [ql 76 4,qm 77 0,qk 78 77,qa 79 8 78,ql 80 79,qm 81 6,qi 82 9 80 81] [qf 83 76 [82]]) .skip))
def Fz:aC:=.o [qb 73 .lss 72 71] (.s (.cond 73 .skip (.exit 1)) (.s (.block 2 OZ) (.ops [qb 84 .add 72 (ki 1),qm 72 84])))
def GA:aC:=.o [ql 85 1,qm 86 85,(qm 87 0).y 86,(qk 88 87).y 86,(qa 89 0 88).y 86,(ql 90 89).y 86,(qb 91 .eql 90 (ku 6)).y 86,qp 92 86 91 kf] (.cond 92 (.draw [] 0 0 [ql 93 3,qm 94 0,qk 95 94,qa 96 7 95,ql 97 96,qb 98 .sub 97 (ki 1),qi 99 1 93 98] [qs 1 99 kt]) .skip)
def zo:aC:=.s (.o [qm 67 0,qk 68 67,qa 69 8 68,ql 70 69,qh 71 70,qm 72 (ki 0)] (.block 1 (.loop Fz))) GA
def MG:aC:=.s (.o [ql 12 1,q 13 (.un .not 12)] (.cond 13 .ret .skip)) (.s (.o [qm 14 0,qk 15 14,qa 16 0 15,ql 17 16] (.block 0 (.o [qb 19 .eql 17 (ku 6),qm 18 19] (.cond 18 (.o [ql 20 2,qb 21 .add 20 (ki 1),qs 1 2 21] (.s (.draw [] 0 0 [qm 22 0,qk 23 22,qa 24 7 23,ql 25 24,ql 26 2,qb 27 .eql 25 26,qm 28 27,(ql 29 2).y 28,(qb 30 .leq 29 (ki 99)).y 28,qp 31 28 30 kf] [qs 1 1 31]) Fy)) (.o [qb 36 .eql 17 (ku 7),qm 35 36] (.cond 35 (.draw [] 0 0 HC [qs 1 1 66]) .skip)))))) zo)
def TA:aC:=.o [ql 7 1,qm 8 7,(qm 9 0).y 8,(qc 10 69 [9]).y 8,qp 11 8 10 kf,qs 1 1 11] MG
def ZJ:List RA:=[]
theorem k68:au Tryd.prog (dQ [34]) 68=some ⟨100,TA,ZJ⟩:=by kernel_rfl
noncomputable abbrev WS (K:AV→aA→Prop):Cx:=cK Tryd.prog gE 100 ZJ (uL K) [34]
inductive Po where
 | e (n:aK) (q0_:Bool) (q1_:Int) (q2_:Sl Bool)
 | p1 (n:aK) (q0_:Bool) (q1_:Int) (q2_:Sl Bool)
 | p2 (n:aK) (q0_:Bool) (q1_:Int) (q2_:Sl Bool)
 | p3 (n:aK) (q0_:Bool) (q1_:Int) (q2_:Sl Bool)
 | p4 (n:aK) (t71_:Int) (t72_:Int) (q0_:Bool) (q1_:Int) (q2_:Sl Bool)
noncomputable def gX:Po→Option (Bool × Int × Sl Bool) | .e n q0_ q1_ q2_=>(if q0_=true then (Tj n>>=fun r_2=>(gX (.p1 n r_2 q1_ q2_))) else (gX (.p1 n false q1_ q2_))) | .p1 n q0_ q1_ q2_=>(if (!q0_)=true then (some (q0_,q1_,q2_)) else (if (n.Kind==6)=true then (if (n.aH==(IntKind.wrap .i64 (q1_+1)))=true then (gX (.p2 n (decide ((IntKind.wrap .i64 (q1_+1))≤99)) (IntKind.wrap .i64 (q1_+1)) q2_)) else (gX (.p2 n false (IntKind.wrap .i64 (q1_+1)) q2_))) else (if (n.Kind==7)=true then (if (decide (n.aH≥1))=true then (if (decide (n.aH≤9))=true then (if (decide (n.aH≤q1_))=true then (ix (ls q2_) (IntKind.wrap .i64 (n.aH-1))>>=fun v_12=>(gX (.p3 n v_12 q1_ q2_))) else (gX (.p3 n false q1_ q2_))) else (gX (.p3 n false q1_ q2_))) else (gX (.p3 n false q1_ q2_))) else (gX (.p3 n q0_ q1_ q2_))))) | .p2 n q0_ q1_ q2_=>(if ((ls q2_).length+(ls (some ([false]:List Bool))).length)*1≤140737488355328 then (gX (.p3 n q0_ q1_ (bW q2_ (ls (some ([false]:List Bool)))))) else none) | .p3 n q0_ q1_ q2_=>(gX (.p4 n ((ls n.Kids).length:Int) 0 q0_ q1_ q2_)) | .p4 n t71_ t72_ q0_ q1_ q2_=>(if (decide (t72_<t71_))=true then (if q0_=true then (ix (ls n.Kids) t72_>>=fun v_20=>(gX (.e v_20 q0_ q1_ q2_)>>=fun r_22=>(gX (.p4 n t71_ (IntKind.wrap .i64 (t72_+1)) r_22.1 r_22.2.1 r_22.2.2)))) else (gX (.p4 n t71_ (IntKind.wrap .i64 (t72_+1)) q0_ q1_ q2_))) else (if q0_=true then (if (n.Kind==6)=true then (ix (ls q2_) (IntKind.wrap .i64 (n.aH-1))>>=fun v_27=>(some (q0_,q1_,(dF q2_ (IntKind.wrap .i64 (n.aH-1)) true)))) else (some (q0_,q1_,q2_))) else (some (q0_,q1_,q2_)))) partial_fixpoint
def Yf (x:Po) (r:Bool × Int × Sl Bool):Prop:=match x with | .e n q0_ q1_ q2_=> ∀(K:AV→aA→Prop) (Ls:List bU) (iQ0:Nat) (iQ1:Nat) (iQ2:Nat) (iW3:Nat),(∀st,SH st (pt iQ0 (.cells (cB r.1))::pt iQ1 (.cells (cI .i64 r.2.1))::dM iQ2 r.2.2::pt iW3 (.cells [.fn 68 [.ptr iQ0 0,.ptr iQ1 0,.ptr iQ2 0,.ptr iW3 0]])::Ls)→K (AV.bt []) st)→ ∀(st:aA),SH st (pt iQ0 (.cells (cB q0_))::pt iQ1 (.cells (cI .i64 q1_))::dM iQ2 q2_::pt iW3 (.cells [.fn 68 [.ptr iQ0 0,.ptr iQ1 0,.ptr iQ2 0,.ptr iW3 0]])::Ls)→XCall Tryd.prog gE 68 [.aQ (bn n),.ptr iQ0 0,.ptr iQ1 0,.ptr iQ2 0,.ptr iW3 0] st K | .p1 n q0_ q1_ q2_=> ∀(K:AV→aA→Prop) (Ls:List bU) (iQ0:Nat) (iQ1:Nat) (iQ2:Nat) (iW3:Nat),(∀st,SH st (pt iQ0 (.cells (cB r.1))::pt iQ1 (.cells (cI .i64 r.2.1))::dM iQ2 r.2.2::pt iW3 (.cells [.fn 68 [.ptr iQ0 0,.ptr iQ1 0,.ptr iQ2 0,.ptr iW3 0]])::Ls)→K (AV.bt []) st)→ ∀(tm:Fr) (st:aA),dH tm [(0,.aQ (bn n)),(1,.ptr iQ0 0),(2,.ptr iQ1 0),(3,.ptr iQ2 0),(4,.ptr iW3 0)]→SH st (pt iQ0 (.cells (cB q0_))::pt iQ1 (.cells (cI .i64 q1_))::dM iQ2 q2_::pt iW3 (.cells [.fn 68 [.ptr iQ0 0,.ptr iQ1 0,.ptr iQ2 0,.ptr iW3 0]])::Ls)→W (WS K) [.code MG] tm st | .p2 n q0_ q1_ q2_=> ∀(K:AV→aA→Prop) (Ls:List bU) (iQ0:Nat) (iQ1:Nat) (iQ2:Nat) (iW3:Nat),(∀st,SH st (pt iQ0 (.cells (cB r.1))::pt iQ1 (.cells (cI .i64 r.2.1))::dM iQ2 r.2.2::pt iW3 (.cells [.fn 68 [.ptr iQ0 0,.ptr iQ1 0,.ptr iQ2 0,.ptr iW3 0]])::Ls)→K (AV.bt []) st)→ ∀(tm:Fr) (st:aA),dH tm [(0,.aQ (bn n)),(1,.ptr iQ0 0),(3,.ptr iQ2 0),(4,.ptr iW3 0)]→SH st (pt iQ0 (.cells (cB q0_))::pt iQ1 (.cells (cI .i64 q1_))::dM iQ2 q2_::pt iW3 (.cells [.fn 68 [.ptr iQ0 0,.ptr iQ1 0,.ptr iQ2 0,.ptr iW3 0]])::Ls)→W (WS K) [.code Fy,.blk 0,.code zo] tm st | .p3 n q0_ q1_ q2_=> ∀(K:AV→aA→Prop) (Ls:List bU) (iQ0:Nat) (iQ1:Nat) (iQ2:Nat) (iW3:Nat),(∀st,SH st (pt iQ0 (.cells (cB r.1))::pt iQ1 (.cells (cI .i64 r.2.1))::dM iQ2 r.2.2::pt iW3 (.cells [.fn 68 [.ptr iQ0 0,.ptr iQ1 0,.ptr iQ2 0,.ptr iW3 0]])::Ls)→K (AV.bt []) st)→ ∀(tm:Fr) (st:aA),dH tm [(0,.aQ (bn n)),(1,.ptr iQ0 0),(3,.ptr iQ2 0),(4,.ptr iW3 0)]→SH st (pt iQ0 (.cells (cB q0_))::pt iQ1 (.cells (cI .i64 q1_))::dM iQ2 q2_::pt iW3 (.cells [.fn 68 [.ptr iQ0 0,.ptr iQ1 0,.ptr iQ2 0,.ptr iW3 0]])::Ls)→W (WS K) [.code zo] tm st | .p4 n t71_ t72_ q0_ q1_ q2_=> ∀(K:AV→aA→Prop) (Ls:List bU) (iQ0:Nat) (iQ1:Nat) (iQ2:Nat) (iW3:Nat),(∀st,SH st (pt iQ0 (.cells (cB r.1))::pt iQ1 (.cells (cI .i64 r.2.1))::dM iQ2 r.2.2::pt iW3 (.cells [.fn 68 [.ptr iQ0 0,.ptr iQ1 0,.ptr iQ2 0,.ptr iW3 0]])::Ls)→K (AV.bt []) st)→ ∀(tm:Fr) (st:aA),dH tm [(0,.aQ (bn n)),(1,.ptr iQ0 0),(3,.ptr iQ2 0),(4,.ptr iW3 0),(71,AV.int .i64 t71_),(72,AV.int .i64 t72_)]→SH st (pt iQ0 (.cells (cB q0_))::pt iQ1 (.cells (cI .i64 q1_))::dM iQ2 q2_::pt iW3 (.cells [.fn 68 [.ptr iQ0 0,.ptr iQ1 0,.ptr iQ2 0,.ptr iW3 0]])::Ls)→W (WS K) [.lp Fz,.blk 1,.code GA] tm st
theorem w68: ∀(x:Po) (r:Bool × Int × Sl Bool),gX x=some r→Yf x r:=by
 refine gX.partial_correctness (Yf) ?_;intro g ih x r hF;cases x with
 | e n q0_ q1_ q2_=>
  dsimp only at hF;intro K Ls iQ0 iQ1 iQ2 iW3 hK  st hs;refine bS k68 z (rn 0 z (W.o (l1 z (hs.g 0 z) z) (rn 1 z (bi hF (fun c_1 hF=>?_) (fun c_1 hF=>?_)))))
  ·exact bL 8 z c_1 (bj hF fun r_2 g_3 hF=>rn 1 z (W.on z z (df (d69 n _ g_3) z (rn 1 z (sr hs 0 z z z (cs':=cB r_2) z z fun st hs=>rj 0 1 z (ih _ _ hF K Ls iQ0 iQ1 iQ2 iW3 hK _ _ kj hs))))))
  exact bL 8 z c_1 (rn 3 z (sr hs 0 z z z (cs':=cB false) z z fun st hs=>rj 0 1 z (ih _ _ hF K Ls iQ0 iQ1 iQ2 iW3 hK _ _ kj hs)))
 | p1 n q0_ q1_ q2_=>
  dsimp only at hF;intro K Ls iQ0 iQ1 iQ2 iW3 hK tm st hf hs;refine en hf (rn 0 z (W.o (l1 z (hs.g 0 z) z) (rn 1 z (ci hF z (fun c_4 hF=>?_) (fun c_4 hF=>?_)))))
  ·cases hF;exact rS bG (hK _ hs) z
  refine rn 1 z (W.o (bK z) (W.o (aB z) (W.o (aI z (DP.cN (DP.refl _) (bI n))) (rn 2 z (ci hF z (fun c_5 hF=>?_) (fun c_5 hF=>?_))))))
  ·refine rn 0 z (W.o (l1 z (hs.g 1 z) z) (rn 1 z (sr hs 1 z z z (cs':=cI .i64 (IntKind.wrap .i64 (q1_+1))) z z fun st hs=>rn 0 z ?_)));have h0:=hs;refine qq (dn 1 z (de z (bK z) (de z (aB z) (de z (aI z (DP.cN (DP.refl _) (bF n))) (de z (l1 z (h0.g 1 z) z) (dn 2 z (bi hF (fun c_6 hF=>?_) (fun c_6 hF=>?_))))))))
   ·exact qL 28 z c_6 (gu z z (de z (l1 z (h0.g 1 z) z) (dn 2 z (dz (sr hs 0 z z z (cs':=cB (decide ((IntKind.wrap .i64 (q1_+1))≤99))) z z fun st hs=>rj 0 1 z (ih _ _ hF K Ls iQ0 iQ1 iQ2 iW3 hK _ _ iG hs))))))
   exact qL 28 z c_6 (dn 3 z (dz (sr hs 0 z z z (cs':=cB false) z z fun st hs=>rj 0 1 z (ih _ _ hF K Ls iQ0 iQ1 iQ2 iW3 hK _ _ iG hs))))
  refine rn 2 z (ci hF z (fun c_7 hF=>?_) (fun c_7 hF=>?_))
  ·have hs:=(hs.p 4 [2,0,0,0] z);obtain ⟨j_8,hs⟩:=SH.fm hs;have h0:=hs;refine qq (dn 1 z (de z (bK z) (de z (aB z) (de z (aI z (DP.cN (DP.refl _) (bF n))) (dn 2 z (bi hF (fun c_9 hF=>?_) (fun c_9 hF=>?_)))))))
   ·refine qL 42 z c_9 (dn 1 z (gu z z (de z (bK z) (gu z z (de z (aB z) (gu z z (de z (aI z (DP.cN (DP.refl _) (bF n))) (dn 3 z (bi hF (fun c_10 hF=>?_) (fun c_10 hF=>?_))))))))))
    ·refine qL 49 z c_10 (dn 1 z (gu z z (de z (bK z) (gu z z (de z (aB z) (gu z z (de z (aI z (DP.cN (DP.refl _) (bF n))) (gu z z (de z (l1 z (h0.g 3 z) z) (dn 3 z (bi hF (fun c_11 hF=>?_) (fun c_11 hF=>?_))))))))))))
     ·refine qL 57 z c_11 (gu z z (de z (l1 z (h0.g 0 z) z) (dn 1 z (gu z z (de z (bK z) (gu z z (de z (aB z) (gu z z (de z (aI z (DP.cN (DP.refl _) (bF n))) (bj hF fun v_12 g_13 hF=>dn 1 z (gu z z (de z (dJ h0 1 z z z g_13) ?_))))))))))));refine gu z z (de z (fS z (SH.gv h0 1 z g_13) (LR.cast (LR.comp (LR.whole _ _) (mQ eT g_13)) (by omega))) (dn 1 z (dz (sr hs 2 z z z (cs':=cB v_12) z z fun st hs=>rj 0 2 z ?_))));have hs:SH st (dM iQ2 q2_::_):=SH.eE j_8 (hs.p 5 [0,0,0,0,0] z);exact ih _ _ hF K Ls iQ0 iQ1 iQ2 iW3 hK _ _ iG (hs.p 4 [1,1,0,0] z)
     refine qL 57 z c_11 (dn 9 z (dz (sr hs 2 z z z (cs':=cB false) z z fun st hs=>rj 0 2 z ?_)));have hs:SH st (dM iQ2 q2_::_):=SH.eE j_8 (hs.p 5 [0,0,0,0,0] z);exact ih _ _ hF K Ls iQ0 iQ1 iQ2 iW3 hK _ _ iG (hs.p 4 [1,1,0,0] z)
    refine qL 49 z c_10 (dn 17 z (dz (sr hs 2 z z z (cs':=cB false) z z fun st hs=>rj 0 2 z ?_)));have hs:SH st (dM iQ2 q2_::_):=SH.eE j_8 (hs.p 5 [0,0,0,0,0] z);exact ih _ _ hF K Ls iQ0 iQ1 iQ2 iW3 hK _ _ iG (hs.p 4 [1,1,0,0] z)
   refine qL 42 z c_9 (dn 24 z (dz (sr hs 2 z z z (cs':=cB false) z z fun st hs=>rj 0 2 z ?_)));have hs:SH st (dM iQ2 q2_::_):=SH.eE j_8 (hs.p 5 [0,0,0,0,0] z);exact ih _ _ hF K Ls iQ0 iQ1 iQ2 iW3 hK _ _ iG (hs.p 4 [1,1,0,0] z)
  exact rj 0 2 z (ih _ _ hF K Ls iQ0 iQ1 iQ2 iW3 hK _ _ iG hs)
 | p2 n q0_ q1_ q2_=>
  dsimp only at hF;intro K Ls iQ0 iQ1 iQ2 iW3 hK tm st hf hs;refine en hf ?_;have hs:=(hs.p 4 [2,0,0,0] z);obtain ⟨j_14,hs⟩:=SH.fm hs;refine rn 0 z (W.o (l1 z (hs.g 0 z) z) (bs (f:=AV.bool) ([false]:List Bool) hs z z z z fun st b_15 hs=>gj hF fun g_16 hF=>QJ (f:=AV.bool) (c:=cB) (ys:=ls (some ([false]:List Bool))) hs 2 z z (eR (cO (o:=(some ([false]:List Bool))) (id:=b_15) z)) g_16 eT (fun _=>z) (fun _=>z) fun st b_17 hs=>so hs 1 z z z (Cn (es:=1) (o:=bW q2_ (ls (some ([false]:List Bool)))) (id:=b_17)) z (cs':=[fC 1 (bW q2_ (ls (some ([false]:List Bool)))) b_17]) z z fun st hs=>rj 0 2 z ?_));have hs:SH st (dM iQ2 (bW q2_ (ls (some ([false]:List Bool))))::_):=SH.eE b_17 (hs.p 6 [1,1,0,0,0,0] z);exact ih _ _ hF K Ls iQ0 iQ1 iQ2 iW3 hK _ _ iG (hs.p 5 [2,2,0,1] z)
 | p3 n q0_ q1_ q2_=>
  dsimp only at hF;intro K Ls iQ0 iQ1 iQ2 iW3 hK tm st hf hs;exact en hf (rn 1 z (W.o (bK z) (W.o (aB z) (W.o (aI z (DP.cN (DP.refl _) (aV n))) (W.o (e_len (bJ z)) (rn 1 z (ih _ _ hF K Ls iQ0 iQ1 iQ2 iW3 hK _ _ lD hs)))))))
 | p4 n t71_ t72_ q0_ q1_ q2_=>
  dsimp only at hF;intro K Ls iQ0 iQ1 iQ2 iW3 hK tm st hf hs;refine en hf (lp (rn 1 z (ci hF z (fun c_18 hF=>?_) (fun c_18 hF=>?_))))
  ·refine rn 2 z (W.o (l1 z (hs.g 0 z) z) (rn 0 z (ci hF z (fun c_19 hF=>?_) (fun c_19 hF=>?_))))
   ·have h0:=hs;refine qq (de z (l1 z (h0.g 3 z) z) (dn 1 z (de z (bK z) (de z (aB z) (de z (aI z (DP.cN (DP.refl _) (aV n))) (bj hF fun v_20 g_21 hF=>dn 1 z (de z (aM (bJ z) z g_21) (dz (bj hF fun r_22 g_23 hF=>?_)))))))));refine cv z (by kernel_rfl) (dw z) (ih (.e v_20 q0_ q1_ q2_) _ g_23 _ _ iQ0 iQ1 iQ2 iW3 (fun st hs=>?_) _ hs);exact rn 2 z (ih _ _ hF K Ls iQ0 iQ1 iQ2 iW3 hK _ _ lD hs)
   exact rn 2 z (ih _ _ hF K Ls iQ0 iQ1 iQ2 iW3 hK _ _ lD hs)
  refine rn 0 z (W.o (l1 z (hs.g 0 z) z) (rn 1 z (bi hF (fun c_24 hF=>?_) (fun c_24 hF=>?_))))
  ·refine bL 86 z c_24 (rn 1 z (W.on z z (W.o (bK z) (W.on z z (W.o (aB z) (W.on z z (W.o (aI z (DP.cN (DP.refl _) (bI n))) (rn 2 z (ci hF z (fun c_25 hF=>?_) (fun c_25 hF=>?_))))))))))
   ·have hs:=(hs.p 4 [2,0,0,0] z);obtain ⟨j_26,hs⟩:=SH.fm hs;have h0:=hs;refine qq (de z (l1 z (h0.g 0 z) z) (dn 1 z (de z (bK z) (de z (aB z) (de z (aI z (DP.cN (DP.refl _) (bF n))) (bj hF fun v_27 g_28 hF=>dn 1 z (de z (dJ h0 1 z z z g_28) (dz (EU hs 1 z z g_28 z (LR.cast (LR.comp (LR.whole _ _) (fl eT g_28 true)) (by omega)) (eT _) z (eT _) (pJ _) z fun st hs=>?_)))))))));have hs:=hs.sK 0 z (cs':=[fC 1 (dF q2_ (IntKind.wrap .i64 (n.aH-1)) true) j_26]) (by simp only [eA]) z;refine rn 0 z ?_;have hs:SH st (dM iQ2 (dF q2_ (IntKind.wrap .i64 (n.aH-1)) true)::_):=SH.eE j_26 (hs.p 5 [0,0,0,0,0] z);cases hF;exact eS bG (hK _ (hs.p 4 [1,1,0,0] z)) z
   refine rn 0 z ?_;cases hF;exact eS bG (hK _ hs) z
  refine bL 86 z c_24 (rn 6 z (cf z z (rn 0 z ?_)));cases hF;exact eS bG (hK _ hs) z
noncomputable def WE (n:aK) (q0_:Bool) (q1_:Int) (q2_:Sl Bool):Option (Bool × Int × Sl Bool):=gX (.e n q0_ q1_ q2_)
theorem d68 (n:aK) (q0_:Bool) (q1_:Int) (q2_:Sl Bool) (r:Bool × Int × Sl Bool) (hF:WE n q0_ q1_ q2_=some r): ∀(K:AV→aA→Prop) (Ls:List bU) (iQ0:Nat) (iQ1:Nat) (iQ2:Nat) (iW3:Nat),(∀st,SH st (pt iQ0 (.cells (cB r.1))::pt iQ1 (.cells (cI .i64 r.2.1))::dM iQ2 r.2.2::pt iW3 (.cells [.fn 68 [.ptr iQ0 0,.ptr iQ1 0,.ptr iQ2 0,.ptr iW3 0]])::Ls)→K (AV.bt []) st)→ ∀(st:aA),SH st (pt iQ0 (.cells (cB q0_))::pt iQ1 (.cells (cI .i64 q1_))::dM iQ2 q2_::pt iW3 (.cells [.fn 68 [.ptr iQ0 0,.ptr iQ1 0,.ptr iQ2 0,.ptr iW3 0]])::Ls)→XCall Tryd.prog gE 68 [.aQ (bn n),.ptr iQ0 0,.ptr iQ1 0,.ptr iQ2 0,.ptr iW3 0] st K:=by
 exact w68 (.e n q0_ q1_ q2_) r hF
end Go.Proofs.YtcidnoghoifmmaaDoor
end
section
set_option maxRecDepth 4000
set_option maxHeartbeats 4000000
namespace Go.Proofs.YtcidnoghoifmmaaDoor
open Go AW
attribute [local irreducible] W WD SH XS XLoop DFun XCall XYield
def Fe:aC:=.skip
def Ff:aC:=.block 1 (.o [ql 10 3,qb 11 .add 10 (ki 1),qs 1 3 11] (.o [ql 12 3,qb 13 .gtr 12 (ki 8192)] (.cond 13 (.o [qs 1 2 (ki 3)] .ret) .skip)))
def MF:aC:=.range 8 [9] Fe Ff
def OQ:aC:=.cond 18 (.o [qs 1 2 (ki 90)] .ret) .skip
def Fg:aC:=.o [q 4 (.alloc [zi]),qs 1 4 (ki 0)] (.o [q 5 (.alloc [.aP])] (.o [q 6 (.alloc [(.bool false)]),qs 1 6 kt] (.o [q 7 (.alloc [.cQ])] (.o [q 14 (.mZ 68 [6,4,5,7]),qs 1 7 14] (.o [ql 15 7,qf 16 15 [1]] (.s (.o [ql 17 6,q 18 (.un .not 17)] OQ) (.o [qs 1 2 (ki 0)] .ret)))))))
def Sk:aC:=.o [qx 1 9 0,q 2 (.alloc [zi])] (.o [q 3 (.alloc [zi]),qs 1 3 (ki 0)] (.s (.o [qc 8 53 [1]] (.block 0 MF)) Fg))
def ZE:List RA:=[(.xq 2)]
theorem k50:au Tryd.prog (dQ [1]) 50=some ⟨19,Sk,ZE⟩:=by kernel_rfl
noncomputable abbrev X50 (r:Int):Cx:=cD Tryd.prog gE 19 ZE (AV.int .i64 r) [1]
noncomputable def kY (n:aK) (t8_:aK) (x:aK) (zz:Int × Int × Nat):Option (Bool × (Int × Int × Nat)):=if zz.2.2=0 then (if (decide ((IntKind.wrap .i64 (zz.2.1+1))>8192))=true then (some (false,(3,IntKind.wrap .i64 (zz.2.1+1),1))) else (some (true,(zz.1,IntKind.wrap .i64 (zz.2.1+1),0))))
else none
theorem UQ (n:aK) (t8_:aK) (x:aK) (zz:Int × Int × Nat) (r:Bool × (Int × Int × Nat)) (hF:kY n t8_ x zz=some r) (K:AV→aA→Prop) (Ls:List bU) (iL:Nat) (ca cb:Code) (tm0:Fr) (io0:Nat) (io1:Nat) (q1:bp Tryd.prog 19 (mW (dQ [1])) ca=some Fe) (q2:bp Tryd.prog 19 (mW (dQ [1])) cb=some Ff) (hf:dH tm0 [(1,.aQ (bn n)),(2,.ptr io0 0),(3,.ptr io1 0),(8,.fn 81 [.aQ [.aQ (bn t8_)]])]) (hK: ∀st,SH st (sG [pt iL (.loop 19 [9] ca cb tm0 (rF r.2.2.2) (qu [.ret] r.2.2.2)),pt io0 (.cells (cI .i64 r.2.1)),pt io1 (.cells (cI .i64 r.2.2.1))]::Ls)→K (.bool r.1) st) (st:aA) (hs:SH st (sG [pt iL (.loop 19 [9] ca cb tm0 (rF zz.2.2) (qu [.ret] zz.2.2)),pt io0 (.cells (cI .i64 zz.1)),pt io1 (.cells (cI .i64 zz.2.1))]::Ls)):XYield Tryd.prog gE iL [.aQ (bn x)] st K:=by
 unfold kY at hF;obtain ⟨c_,hF⟩:=jc hF;replace hs:SH st ([pt iL (.loop 19 [9] ca cb tm0 (rF zz.2.2) (qu [.ret] zz.2.2)),pt io0 (.cells (cI .i64 zz.1)),pt io1 (.cells (cI .i64 zz.2.1))]++Ls):=SH.qX hs;rw [c_] at hs;replace hs:SH st (pt iL (.loop 19 [9] ca cb tm0 .ready none)::pt io0 (.cells (cI .i64 zz.1))::pt io1 (.cells (cI .i64 zz.2.1))::Ls):=hs;replace hK:(∀st,SH st (pt iL (.loop 19 [9] ca cb tm0 (rF r.2.2.2) (qu [.ret] r.2.2.2))::pt io0 (.cells (cI .i64 r.2.1))::pt io1 (.cells (cI .i64 r.2.2.1))::Ls)→K (.bool r.1) st):=fun st hs=>hK st (SH.sG hs);refine WV (mu:=[1]) q1 q2 hs z z (fun _ _=>trivial) ?_;rw [Cj hf];refine rn 0 z (We hs fun st hs=>rn 0 z (W.o (l1 z (hs.g 2 z) z) (rn 1 z (sr hs 2 z z z (cs':=cI .i64 (IntKind.wrap .i64 (zz.2.1+1))) z z fun st hs=>rn 0 z (W.o (l1 z (hs.g 2 z) z) (rn 1 z (ci hF z (fun c_1 hF=>?_) (fun c_1 hF=>?_))))))))
 ·refine rn 0 z (sr hs 1 z z z (cs':=cI .i64 3) z z fun st hs=>rj 0 1 z ?_);cases hF;exact Zx hs (fun st hs=>hK st hs)
 refine rn 0 z ?_;cases hF;exact Lh hs (fun st hs=>hK st hs)
inductive Pg where
 | p1 (n:aK) (t8_:aK) (t2_:Int) (count:Int)
noncomputable def Tp:Pg→Option Int | .p1 n t8_ t2_ count=>(KS (kY n t8_) t8_ (t2_,count,0)>>=fun r_5=>(if r_5.2.2=0 then (WE n true 0 (none:Sl Bool)>>=fun r_12=>(if (!r_12.1)=true then (some 90) else (some 0))) else (if r_5.2.2=1 then (some r_5.1) else none)))
def M50 (x:Pg) (r:Int):Prop:=match x with | .p1 n t8_ t2_ count=> ∀(tm:Fr) (st:aA) (io0:Nat) (io1:Nat),dH tm [(1,.aQ (bn n)),(2,.ptr io0 0),(3,.ptr io1 0),(8,.fn 81 [.aQ [.aQ (bn t8_)]])]→SH st [pt io0 (.cells (cI .i64 t2_)),pt io1 (.cells (cI .i64 count))]→W (X50 r) [.code MF,.blk 0,.code Fg] tm st
theorem w50: ∀(x:Pg) (r:Int),Tp x=some r→M50 x r:=by
 intro x r hF;cases x with
 | p1 n t8_ t2_ count=>
  dsimp only [Tp] at hF;intro tm st io0 io1 hf hs;refine bj hF fun r_5 g_6 hF=>rg (N:=19) (fr:=[]) z hs hf.2.2.2.1 (by kernel_rfl) fun ca cb st iL q1 q2 hs=>?_;refine d81 (σ :=Int × Int × Nat) (H:=fun zz=>sG [pt iL (.loop 19 [9] ca cb tm (rF zz.2.2) (qu [.ret] zz.2.2)),pt io0 (.cells (cI .i64 zz.1)),pt io1 (.cells (cI .i64 zz.2.1))]) (Y:=kY n t8_) iL (fun x zz r hB K L st hs hK=>UQ n t8_ x zz r hB K L iL ca cb tm io0 io1 q1 q2 hf hK st hs) t8_ (t2_,count,0) _ g_6 _ _ (fun st hs=>?_) _ (SH.sG hs);replace hs:SH st ([pt iL (.loop 19 [9] ca cb tm (rF r_5.2.2) (qu [.ret] r_5.2.2)),pt io0 (.cells (cI .i64 r_5.1)),pt io1 (.cells (cI .i64 r_5.2.1))]++_):=SH.qX hs;refine ni hF (fun c_ hF=>?_) (fun c_ hF=>?_)
  ·rw [c_] at hs;refine Wg hs (by decide) fun st hs=>en hf (rn 0 z (al hs (cs:=cI .i64 0) z fun st b_7 hs=>sr hs 0 z z z (cs':=cI .i64 0) z z fun st hs=>?_));have hs:=hs.zA (α :=Bool) cB;refine rn 0 z (al hs (cs:=[fC 1 (none:Sl Bool) 0]) z fun st b_8 hs=>rn 0 z (al hs (cs:=cB false) z fun st b_10 hs=>sr hs 0 z z z (cs':=cB true) z z fun st hs=>rn 0 z (al hs (cs:=[.cQ]) z fun st b_11 hs=>rn 1 z (sr hs 0 z z z (cs':=[.fn 68 [.ptr b_10 0,.ptr b_7 0,.ptr b_8 0,.ptr b_11 0]]) z z fun st hs=>rn 0 z (W.o (l1 z (hs.g 0 z) z) ?_)))));have hs:SH st (dM b_8 (none:Sl Bool)::_):=SH.eE 0 (hs.p 7 [2,2,0,0,0,0,0] z);obtain ⟨r_12,g_13,hF⟩:=bind_some hF;refine cv z (by kernel_rfl) (dw z) (d68 _ _ _ _ _ g_13 _ _ b_10 b_7 b_8 b_11 (fun st hs=>?_) _ (hs.p 6 [2,2,0,0,0,0] z));refine rn 0 z (W.o (l1 z (hs.g 0 z) z) (rn 1 z (ci hF z (fun c_14 hF=>?_) (fun c_14 hF=>?_))))
   ·refine rn 0 z (sr hs 4 z z z (cs':=cI .i64 90) z z fun st hs=>rn 0 z ?_);cases hF;exact rD (mF z (hs.g 4 z) (LR.whole _ _) bG) z
   refine rn 0 z (sr hs 4 z z z (cs':=cI .i64 0) z z fun st hs=>rn 0 z ?_);cases hF;exact rD (mF z (hs.g 4 z) (LR.whole _ _) bG) z
  refine ni hF (fun c_ hF=>?_) (fun c_ hF=>?_)
  ·rw [c_] at hs;refine rgR (fun _ _=>z) hs (by decide) fun st hs=>en hf ?_;cases hF;exact eD (mF z (hs.g 0 z) (LR.whole _ _) bG) z
  cases hF
noncomputable def KP (n:aK):Option Int:=(KQ n>>=fun r_3=>(Tp (.p1 n r_3 0 0)))
theorem d50 (n:aK) (r:Int) (hF:KP n=some r):DFun Tryd.prog gE 50 [dL n] (AV.int .i64 r):=by
 unfold KP at hF;refine bD k50 z ?_;have hs:SH [] []:=SH.nil;generalize ([]:aA)=st at hs ⊢;exact rn 0 z (W.o (aY (cs:=bn n) z (by rw [aF];rfl) (aX _)) (al hs (cs:=cI .i64 0) z fun st b_1 hs=>rn 0 z (al hs (cs:=cI .i64 0) z fun st b_2 hs=>sr hs 0 z z z (cs':=cI .i64 0) z z fun st hs=>bj hF fun r_3 g_4 hF=>rn 0 z (df (d53 n _ g_4) z (rj 0 2 z (w50 (.p1 n r_3 0 0) _ hF _ _ b_1 b_2 iG (hs.p 2 [1,0] z)))))))
def SS:aC:=.o [qx 3 9 1,qm 4 (ki 0)] (.s (.draw [] 0 1 [qm 5 0,qm 6 0,qk 7 6,qa 8 0 7,ql 9 8,qn 10 9 3,q 11 (.bE 9 1 true [zb,zu,zu,zu,zu,zi,zi,zi,zi] [(0,(9,10))] false)] [q 12 (.ng 9 72 9 11),qk 13 5,qa 14 0 13,qs 1 14 12]) (.o [qm 15 0,qk 16 15,qa 17 0 16,ql 18 17,qh 19 18,qb 20 .sub 19 (ki 1),qm 4 20] .ret))
def R35:List RA:=[(.tmp 4)]
theorem k35:au Tryd.prog (dQ [3,12]) 35=some ⟨21,SS,R35⟩:=by kernel_rfl
noncomputable def ve (c:dr) (x_:aT):Option (Int × dr):=(if ((ls c.code).length+(ls (some ([x_]:List aT))).length)*72≤140737488355328 then (some (IntKind.wrap .i64 (((ls (bW c.code (ls (some ([x_]:List aT))))).length:Int)-1),({c with code:=bW c.code (ls (some ([x_]:List aT)))}:dr))) else none)
theorem d35 (c:dr) (x_:aT) (r:Int × dr) (hF:ve c x_=some r): ∀(K:AV→aA→Prop) (Ls:List bU) (iP0:Nat),(∀st,SH st (aa iP0 r.2::Ls)→K (AV.int .i64 r.1) st)→ ∀(st:aA),SH st (aa iP0 c::Ls)→XCall Tryd.prog gE 35 [.ptr iP0 0,v76 x_] st K:=by
 unfold ve at hF;intro K Ls iP0 hK  st hs;refine bS k35 z (rn 0 z (W.o (aY (cs:=dx x_) z z z) ?_));obtain ⟨j_1,hs⟩:=SH.fm hs;refine rn 1 z (Ai hs fun s_2 st h0 hs=>dn 2 z (de z (bT z (h0.g 0 z)) (de z (aJ z (h0.g 0 z)) (de z (l1 z (h0.g 0 z) z) (de z (uD (s:=dx x_) z z z) (CJ (f:=v76) ([x_]:List aT) hs 0 z z z z z z fun st hs=>dz (gj hF fun g_5 hF=>QJ (f:=v76) (c:=dx) (ys:=ls (some ([x_]:List aT))) hs 2 z z (eR (cO (o:=(some ([x_]:List aT))) (id:=(List.length s_2+0)) z)) g_5 gI (fun _=>z) (fun _=>z) fun st b_6 hs=>W.o (bT z (hs.g 1 z)) (W.o (aJ z (hs.g 1 z)) (so hs 1 z z z (Cn (es:=9) (o:=bW c.code (ls (some ([x_]:List aT)))) (id:=b_6)) z (cs':=[fC 9 (bW c.code (ls (some ([x_]:List aT)))) b_6]++((cI .i64) (c.slots)++((cI .i64) (c.free)))) z z fun st hs=>?_)))))))));refine rn 1 z (W.o (bT z (hs.g 1 z)) (W.o (aJ z (hs.g 1 z)) (W.o (l1 z (hs.g 1 z) z) (W.o (gL hs 2 z z) (rn 2 z ?_)))));have hs:SH st (aa iP0 ({c with code:=bW c.code (ls (some ([x_]:List aT)))}:dr)::_):=SH.eE b_6 (hs.p 3 [1,1,0] z);cases hF;exact rS (ah bG) (hK _ (hs.p 2 [0] z)) z
def TT:aC:=.o [qm 4 kf] (.s (.o [qm 5 0,qk 6 5,qa 7 0 6,ql 8 7,qm 9 1,qi 10 1 8 9,ql 11 10] (.cond 11 (.o [qm 4 kf] .ret) .skip)) (.o [qm 12 0,qk 13 12,qa 14 0 13,ql 15 14,qm 16 1,qi 17 1 15 16,qs 1 17 kt] (.o [qm 18 0,qm 19 0,qk 20 19,qa 21 1 20,ql 22 21,qm 23 1,q 24 (.bE 1 1 false [zi] [(0,(1,23))] false),q 25 (.app 1 8 22 24),qk 26 18,qa 27 1 26,qs 1 27 25] (.o [qm 4 kt] .ret))))
def R86:List RA:=[(.tmp 4)]
theorem k86:au Tryd.prog (dQ []) 86=some ⟨28,TT,R86⟩:=by kernel_rfl
noncomputable def KT (s:kq) (i:Int):Option (Bool × kq):=(ix (ls s.iE) i>>=fun v_3=>(if v_3=true then (some (false,s)) else (ix (ls s.iE) i>>=fun v_6=>(if ((ls s.list).length+(ls (some ([i]:List Int))).length)*8≤140737488355328 then (some (true,({s with iE:=(dF s.iE i true),list:=bW s.list (ls (some ([i]:List Int)))}:kq))) else none))))
theorem d86 (s:kq) (i:Int) (r:Bool × kq) (hF:KT s i=some r): ∀(K:AV→aA→Prop) (Ls:List bU) (iP0:Nat),(∀st,SH st (cZ iP0 r.2::Ls)→K (AV.bool r.1) st)→ ∀(st:aA),SH st (cZ iP0 s::Ls)→XCall Tryd.prog gE 86 [.ptr iP0 0,AV.int .i64 i] st K:=by
 unfold KT at hF;intro K Ls iP0 hK  st hs;refine bS k86 z ?_;obtain ⟨j_1,j_2,hs⟩:=SH.UW hs;refine rn 2 z (W.o (bT z (hs.g 0 z)) (W.o (aJ z (hs.g 0 z)) (W.o (l1 z (hs.g 0 z) z) (bj hF fun v_3 g_4 hF=>rn 1 z (W.o (dJ hs 1 z z z g_4) (W.o (fS z (SH.gv hs 1 z g_4) (LR.cast (LR.comp (LR.whole _ _) (mQ eT g_4)) (by omega))) (rn 0 z (ci hF z (fun c_5 hF=>?_) (fun c_5 hF=>?_)))))))))
 ·refine rn 1 z ?_;have hs:SH st (cZ iP0 s::_):=SH.qo j_1 j_2 (hs.p 3 [0,0,0] z);cases hF;exact rS (ah bG) (hK _ hs) z
 refine rn 1 z (W.o (bT z (hs.g 0 z)) (W.o (aJ z (hs.g 0 z)) (W.o (l1 z (hs.g 0 z) z) (bj hF fun v_6 g_7 hF=>rn 1 z (W.o (dJ hs 1 z z z g_7) (EU hs 1 z z g_7 z (LR.cast (LR.comp (LR.whole _ _) (fl eT g_7 true)) (by omega)) (eT _) z (eT _) (pJ _) z fun st hs=>?_))))));have hs:=hs.sK 0 z (cs':=[fC 1 (dF s.iE i true) j_1]++([br 1 (AV.int .i64) s.list j_2])) (by simp only [eA]) z;refine rn 2 z (W.o (bT z (hs.g 0 z)) (W.o (aJ z (hs.g 0 z)) (W.o (l1 z (hs.g 0 z) z) (rn 1 z (bs (f:=AV.int .i64) ([i]:List Int) hs z z z z fun st b_8 hs=>gj hF fun g_9 hF=>ap (ys:=ls (some ([i]:List Int))) hs 3 z z (eR (cO (o:=(some ([i]:List Int))) (id:=b_8) z)) g_9 (fun _=>z) fun st b_10 hs=>W.o (bT z (hs.g 1 z)) (W.o (aJ z (hs.g 1 z)) (so hs 1 z z z tH z (cs':=[fC 1 (dF s.iE i true) j_1]++([br 1 (AV.int .i64) (bW s.list (ls (some ([i]:List Int)))) b_10])) z z fun st hs=>rn 1 z ?_)))))));have hs:SH st (cZ iP0 ({s with iE:=(dF s.iE i true),list:=bW s.list (ls (some ([i]:List Int)))}:kq)::_):=SH.qo j_1 b_10 (hs.p 4 [1,1,1,0] z);cases hF;exact rS (ah bG) (hK _ (hs.p 2 [0] z)) z
def SQ:aC:=.o [qx 1 9 0,qm 2 (ki 0),qm 3 (ki 0)] (.s (.o [qn 6 9 1,qc 7 50 [6],qm 4 7] (.o [qm 8 4,qb 9 .neq 8 (ki 0)] (.cond 9 (.o [qm 10 4,qm 2 (ki 0),qm 3 10] .ret) .skip))) (.s (.o [qn 11 9 1,qc 12 51 [11],qm 5 12] (.o [qm 13 5,qb 14 .lss 13 (ki 16384)] (.cond 14 (.o [qm 15 5,qb 16 .add 15 (ki 1),qm 2 16,qm 3 (ki 0)] .ret) .skip))) (.o [qm 2 (ki 0),qm 3 (ki 3)] .ret)))
def R33:List RA:=[(.tmp 2),(.tmp 3)]
theorem k33:au Tryd.prog (dQ [1]) 33=some ⟨17,SQ,R33⟩:=by kernel_rfl
noncomputable def Oy (n:aK):Option (Int × Int):=(KP n>>=fun r_1=>(if (r_1 != 0)=true then (some (0,r_1)) else (Wv n>>=fun r_4=>(if (decide (r_4<16384))=true then (some (IntKind.wrap .i64 (r_4+1),0)) else (some (0,3))))))
theorem d33 (n:aK) (r:Int × Int) (hF:Oy n=some r):DFun Tryd.prog gE 33 [dL n] (AV.bt [AV.int .i64 r.1,AV.int .i64 r.2]):=by
 unfold Oy at hF;refine bD k33 z ?_;have hs:SH [] []:=SH.nil;generalize ([]:aA)=st at hs ⊢;refine rn 0 z (W.o (aY (cs:=bn n) z (by rw [aF];rfl) (aX _)) (rn 2 z (W.o (aL z (DP.refl _) (aF _)) (bj hF fun r_1 g_2 hF=>df (d50 n _ g_2) z (rn 3 z (ci hF z (fun c_3 hF=>?_) (fun c_3 hF=>?_)))))))
 ·refine rn 3 z ?_;cases hF;exact rD (ah (ah bG)) z
 refine rn 0 z (W.o (aL z (DP.refl _) (aF _)) (bj hF fun r_4 g_5 hF=>df (d51 n _ g_5) z (rn 3 z (ci hF z (fun c_6 hF=>?_) (fun c_6 hF=>?_)))))
 ·refine rn 4 z ?_;cases hF;exact rD (ah (ah bG)) z
 refine rn 2 z ?_;cases hF;exact rD (ah (ah bG)) z
def So:aC:=.o [q 0 (.alloc [.cQ,.cQ,.cQ,.cQ,.cQ,.cQ,.cQ,.cQ,.cQ,.cQ])] (.o [q 1 (.build [.cQ,.cQ,.cQ,.cQ,.cQ,.cQ,.cQ,.cQ,.cQ,.cQ] [(1,(1,(.c (.fn 72 [])))),(2,(1,(.c (.fn 73 [])))),(8,(1,(.c (.fn 74 [])))),(9,(1,(.c (.fn 75 [])))),(7,(1,(.c (.fn 76 [])))),(3,(1,(.c (.fn 77 [])))),(6,(1,(.c (.fn 78 [])))),(4,(1,(.c (.fn 79 [])))),(5,(1,(.c (.fn 80 []))))]),qs 10 0 1] .ret)
def R52:List RA:=[(.mg 0 10)]
theorem k52:au Tryd.prog (dQ []) 52=some ⟨2,So,R52⟩:=by kernel_rfl
noncomputable def WC  :Option Unit:=(some ())
theorem d52  (r:Unit) (hF:WC=some r):DFun Tryd.prog gE 52 [] (.agg [.cQ,.fn 72 [],.fn 73 [],.fn 77 [],.fn 79 [],.fn 80 [],.fn 78 [],.fn 76 [],.fn 74 [],.fn 75 []]):=by
 unfold WC at hF;refine bD k52 z ?_;have hs:SH [] []:=SH.nil;generalize ([]:aA)=st at hs ⊢;refine rn 0 z (al hs (cs:=[.cQ,.cQ,.cQ,.cQ,.cQ,.cQ,.cQ,.cQ,.cQ,.cQ]) z fun st b_1 hs=>rn 0 z (W.o (bR (cs:=[.cQ,.fn 72 [],.fn 73 [],.fn 77 [],.fn 79 [],.fn 80 [],.fn 78 [],.fn 76 [],.fn 74 [],.fn 75 []]) z z) (sr hs 0 z z z (cs':=[.cQ,.fn 72 [],.fn 73 [],.fn 77 [],.fn 79 [],.fn 80 [],.fn 78 [],.fn 76 [],.fn 74 [],.fn 75 []]) z z fun st hs=>rn 0 z ?_)));cases hF;exact rD (eJ z (hs.g 0 z) (LR.whole _ _) z bG) z
def TF:aC:=.ops [qx 3 9 1]
def R72:List RA:=[]
theorem k72:au Tryd.prog (dQ [3]) 72=some ⟨4,TF,R72⟩:=by kernel_rfl
noncomputable def WG (c:dr) (n:aK):Option dr:=(some c)
theorem d72 (c:dr) (n:aK) (r:dr) (hF:WG c n=some r): ∀(K:AV→aA→Prop) (Ls:List bU) (iP0:Nat),(∀st,SH st (aa iP0 r::Ls)→K (AV.bt []) st)→ ∀(st:aA),SH st (aa iP0 c::Ls)→XCall Tryd.prog gE 72 [.ptr iP0 0,dL n] st K:=by
 unfold WG at hF;intro K Ls iP0 hK  st hs;refine bS k72 z (rn 0 z (W.o (aY (cs:=bn n) z (by rw [aF];rfl) (aX _)) (rn 0 z ?_)));cases hF;exact eS bG (hK _ hs) z
def TG:aC:=.o [qx 3 9 1] (.ops [qm 4 0,qa 5 1 3,qn 6 4 5,q 7 (.build [zb,zu,zu,zu,zu,zi,zi,zi,zi] [(0,(1,(ku 1))),(1,(4,6))]),qc 8 35 [4,7]])
def R73:List RA:=[]
theorem k73:au Tryd.prog (dQ [3]) 73=some ⟨9,TG,R73⟩:=by kernel_rfl
noncomputable def WH (c:dr) (n:aK):Option dr:=(ve c ({Kind:=1,Set:=n.Set,To:=0,aH:=0,bP:=0,Slot:=0}:aT)>>=fun r_1=>(some r_1.2))
theorem d73 (c:dr) (n:aK) (r:dr) (hF:WH c n=some r): ∀(K:AV→aA→Prop) (Ls:List bU) (iP0:Nat),(∀st,SH st (aa iP0 r::Ls)→K (AV.bt []) st)→ ∀(st:aA),SH st (aa iP0 c::Ls)→XCall Tryd.prog gE 73 [.ptr iP0 0,dL n] st K:=by
 unfold WH at hF;intro K Ls iP0 hK  st hs;refine bS k73 z (rn 0 z (W.o (aY (cs:=bn n) z (by rw [aF];rfl) (aX _)) (rn 1 z (W.o (aB z) (W.o (aL z (DP.cN (DP.refl _) (mR n)) (eB _)) (W.o (bR (cs:=dx ({Kind:=1,Set:=n.Set,To:=0,aH:=0,bP:=0,Slot:=0}:aT)) z z) (bj hF fun r_1 g_2 hF=>?_)))))));refine cl (dw z) (d35 _ _ _ g_2 _ _ iP0 (fun st hs=>?_) _ hs);refine rn 0 z ?_;cases hF;exact eS bG (hK _ hs) z
def TH:aC:=.o [qx 3 9 1] (.ops [qm 4 0,q 5 (.build [zb,zu,zu,zu,zu,zi,zi,zi,zi] [(0,(1,(ku 10)))]),qc 6 35 [4,5]])
def R74:List RA:=[]
theorem k74:au Tryd.prog (dQ [3]) 74=some ⟨7,TH,R74⟩:=by kernel_rfl
noncomputable def WI (c:dr) (n:aK):Option dr:=(ve c ({Kind:=10,Set:=(an.rep 4 (0:Int)),To:=0,aH:=0,bP:=0,Slot:=0}:aT)>>=fun r_1=>(some r_1.2))
theorem d74 (c:dr) (n:aK) (r:dr) (hF:WI c n=some r): ∀(K:AV→aA→Prop) (Ls:List bU) (iP0:Nat),(∀st,SH st (aa iP0 r::Ls)→K (AV.bt []) st)→ ∀(st:aA),SH st (aa iP0 c::Ls)→XCall Tryd.prog gE 74 [.ptr iP0 0,dL n] st K:=by
 unfold WI at hF;intro K Ls iP0 hK  st hs;refine bS k74 z (rn 0 z (W.o (aY (cs:=bn n) z (by rw [aF];rfl) (aX _)) (rn 1 z (W.o (bR (cs:=dx ({Kind:=10,Set:=(an.rep 4 (0:Int)),To:=0,aH:=0,bP:=0,Slot:=0}:aT)) z z) (bj hF fun r_1 g_2 hF=>?_)))));refine cl (dw z) (d35 _ _ _ g_2 _ _ iP0 (fun st hs=>?_) _ hs);refine rn 0 z ?_;cases hF;exact eS bG (hK _ hs) z
def TI:aC:=.o [qx 3 9 1] (.ops [qm 4 0,q 5 (.build [zb,zu,zu,zu,zu,zi,zi,zi,zi] [(0,(1,(ku 11)))]),qc 6 35 [4,5]])
def R75:List RA:=[]
theorem k75:au Tryd.prog (dQ [3]) 75=some ⟨7,TI,R75⟩:=by kernel_rfl
noncomputable def WJ (c:dr) (n:aK):Option dr:=(ve c ({Kind:=11,Set:=(an.rep 4 (0:Int)),To:=0,aH:=0,bP:=0,Slot:=0}:aT)>>=fun r_1=>(some r_1.2))
theorem d75 (c:dr) (n:aK) (r:dr) (hF:WJ c n=some r): ∀(K:AV→aA→Prop) (Ls:List bU) (iP0:Nat),(∀st,SH st (aa iP0 r::Ls)→K (AV.bt []) st)→ ∀(st:aA),SH st (aa iP0 c::Ls)→XCall Tryd.prog gE 75 [.ptr iP0 0,dL n] st K:=by
 unfold WJ at hF;intro K Ls iP0 hK  st hs;refine bS k75 z (rn 0 z (W.o (aY (cs:=bn n) z (by rw [aF];rfl) (aX _)) (rn 1 z (W.o (bR (cs:=dx ({Kind:=11,Set:=(an.rep 4 (0:Int)),To:=0,aH:=0,bP:=0,Slot:=0}:aT)) z z) (bj hF fun r_1 g_2 hF=>?_)))));refine cl (dw z) (d35 _ _ _ g_2 _ _ iP0 (fun st hs=>?_) _ hs);refine rn 0 z ?_;cases hF;exact eS bG (hK _ hs) z
end Go.Proofs.YtcidnoghoifmmaaDoor
end
