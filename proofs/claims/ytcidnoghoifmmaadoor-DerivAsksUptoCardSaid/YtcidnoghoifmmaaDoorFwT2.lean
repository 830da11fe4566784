/-
  The rules of a function's walk, one for each kind of operation.
-/
import Derived.Test.YtcidnoghoifmmaaDoorFwT1
set_option linter.unusedSimpArgs false
set_option linter.unusedVariables false
namespace Go.Proofs.YtcidnoghoifmmaaDoor.AW
open Go

def DS (v v':AV):Prop:=v.data=true∧v.strip=v'
def uE (v v':List AV):Prop:=AV.dP v=true∧AV.cG v=v'
theorem Ug {k:IntKind} {n:Int}:DS (.int k n) (.int k n):=⟨rfl,rfl⟩
theorem Uf {b:Bool}:DS (.bool b) (.bool b):=⟨rfl,rfl⟩
theorem Uh {b:aZ}:DS (.str b) (.str b):=⟨rfl,rfl⟩
theorem gK {cs:List AV} (h:uE cs cs):DS (.agg cs) (.agg cs):=⟨h.1,by simp only [AV.strip,h.2]⟩
theorem Qe {cs cs':List AV} (h:uE cs cs'):DS (.bt cs) (.bt cs'):=⟨h.1,by simp only [AV.strip,h.2]⟩
theorem kC:uE [] []:=⟨rfl,rfl⟩
theorem lQ {v v':AV} {l l':List AV} (h:DS v v') (hl:uE l l'):uE (v::l) (v'::l'):=⟨by simp only [AV.dP,h.1,hl.1,Bool.and_self],by simp only [AV.cG,h.2,hl.2]⟩
theorem jH {a b:List AV} (h:uE a a) (hl:uE b b):uE (a++b) (a++b):=⟨by simp only [pO,h.1,hl.1,Bool.and_self],by simp only [nM,h.2,hl.2]⟩
theorem Ml {α :Type} {es:Nat} {f: α →AV} (hf: ∀x,DS (f x) (f x)) {o:Sl α} {v:AV} (h:HK es f o v):DS v (cg es f o):=⟨Cl (fun x=>(hf x).1) h,yu (fun x=>(hf x).2) h⟩
theorem IF {α :Type} {es:Nat} {f: α →AV} (hf: ∀x,DS (f x) (f x)) {o:Sl α}:DS (cg es f o) (cg es f o):=Ml hf (bJ rfl)
def cI (k:IntKind) (x:Int):List AV:=[.int k x]
def cB (x:Bool):List AV:=[.bool x]
def cS (x:aZ):List AV:=[.str x]
theorem aS (k:IntKind) (x:Int):(cI k x).length=1:=rfl
theorem eT (x:Bool):(cB x).length=1:=rfl
theorem fo (x:aZ):(cS x).length=1:=rfl
theorem Hr (k:IntKind) (x:Int):uE (cI k x) (cI k x):=⟨rfl,rfl⟩
theorem UX (x:Bool):uE (cB x) (cB x):=⟨rfl,rfl⟩
theorem UY (x:aZ):uE (cS x) (cS x):=⟨rfl,rfl⟩
theorem fL (k:IntKind) (x:Int):(cI k x).all AV.one=true:=rfl
theorem pJ (x:Bool):(cB x).all AV.one=true:=rfl
theorem Ht (x:aZ):(cS x).all AV.one=true:=rfl
theorem Md {n:Nat} {α :Type} {c: α →List AV} (hc: ∀x,uE (c x) (c x)) (a:an n α):uE (cA c a) (cA c a):=⟨sM (fun x=>(hc x).1) _,qW (fun x=>(hc x).2) _⟩
theorem Hq {n:Nat} {α :Type} {c: α →List AV} (hc: ∀x,(c x).all AV.one=true) (a:an n α):(cA c a).all AV.one=true:=yf hc _
theorem gN {a b:List AV} (h:a.all AV.one=true) (h':b.all AV.one=true):(a++b).all AV.one=true:=by rw [List.all_append,h,h'];rfl
def MM {α :Type} [DecidableEq α] (ks:List LK) (c: α →List AV):Prop:= ∀x y: α,AV.eZ ks (c x) (c y)=some (decide (x=y))
theorem iW: ∀(ks:List LK) (a b:List AV) (r:Bool),AV.eZ ks a b=some r→ ∀(ks':List LK) (a' b':List AV) (r':Bool),AV.eZ ks' a' b'=some r'→AV.eZ (ks++ks') (a++a') (b++b')=some (r&&r')
  | [],[],[],r,h,ks',a',b',r',h'=>by simp only [AV.eZ,Option.some.injEq] at h;subst h;simpa using h'
  | k::ks,x::a,y::b,r,h,ks',a',b',r',h'=>by
    simp only [AV.eZ] at h
    split at h
    · rename_i p q h1 h2
      cases h
      have:=iW ks a b q h2 ks' a' b' r' h'
      simp only [List.cons_append,AV.eZ,h1,this,Bool.and_assoc]
    cases h
  | [],[],_::_,r,h,_,_,_,_,_=>by simp [AV.eZ] at h
  | [],_::_,_,r,h,_,_,_,_,_=>by simp [AV.eZ] at h
  | _::_,[],_,r,h,_,_,_,_,_=>by simp [AV.eZ] at h
  | _::_,_::_,[],r,h,_,_,_,_,_=>by simp [AV.eZ] at h
theorem uj (k:IntKind):MM [.i] (cI k):=fun x y=>by
 simp only [cI,AV.eZ,AV.Rr,if_true,Bool.and_true];rfl
theorem yJ {α :Type} [DecidableEq α] {ks:List LK} {c: α →List AV} (hc:MM ks c): ∀(l m:List α),l.length=m.length→AV.eZ (uO ks l.length) (l.flatMap c) (m.flatMap c)=some (decide (l=m))
  | [],[],_=>by simp [uO,AV.eZ]
  | x::l,y::m,h=>by
    have h':l.length=m.length:=by simpa using h
    rw [List.flatMap_cons,List.flatMap_cons,List.length_cons,uO,iW _ _ _ _ (hc x y) _ _ _ _ (yJ hc l m h')]
    by_cases h1:x=y<;>by_cases h2:l=m<;>simp [h1,h2]
  | [],_::_,h=>by simp at h
  | _::_,[],h=>by simp at h
theorem Uu {n:Nat} {α :Type} [DecidableEq α] {ks ks':List LK} {c: α →List AV} (hc:MM ks c) (e:ks'=uO ks n):MM ks' (cA (n:=n) c):=fun x y=>by
 have h:=yJ hc x.l y.l (by rw [x.h,y.h])
 rw [x.h] at h
 rw [e,cA,cA,h]
 congr 1
 by_cases e:x=y
 ·subst e;simp
 have: ¬x.l=y.l:=fun e'=>e (an.ext e')
 simp [e,this]
theorem QV {b:Bool} {p:Prop} (h1:b=true→p) (h2:b=false→p):p:=by cases b;exact h2 rfl;exact h1 rfl
section
variable {X:Cx} {k:List KI} {tm:Fr} {st:aA} {l suf:List bZ} {d:Nat} {st0:aA} {mr r:Nat} {x y i a:AX}

theorem RM {E:bA} {t:Nat} {v:AV} {vs:List AV} {rs:List RA} (h:tm t=v) (hl:fh E tm st rs=some vs):fh E tm st (.tmp t::rs)=some (v::vs):=by
 subst h;simp only [fh,mE,hl]
theorem mF {E:bA} {t id off:Nat} {cs:List AV} {v:AV} {vs:List AV} {rs:List RA} (hp:tm t= .ptr id off) (ho:st[id]? =some (.cells cs)) (hr:LR cs off [v] [v] cs) (hl:fh E tm st rs=some vs):fh E tm st (.xq t::rs)=some (v::vs):=by
 have h:=hr.get (n:=1) rfl
 simp only [fh,mE,hp,cq,ho,if_pos h.1,h.2,hl];rfl
theorem eJ {E:bA} {t id off n:Nat} {cs s:List AV} {vs:List AV} {rs:List RA} (hp:tm t= .ptr id off) (ho:st[id]? =some (.cells cs)) (hr:LR cs off s s cs) (hn:s.length=n) (hl:fh E tm st rs=some vs):fh E tm st (.mg t n::rs)=some (.agg s::vs):=by
 have h:=hr.get hn
 simp only [fh,mE,hp,cq,ho,if_pos h.1,h.2,hl]
def Rs:List Nat→Nat→Bool
 | [],_=>false
 | n::l,i=>Nat.beq n i||Rs l i
def Vq (S:List Nat) (tm:Fr):Fr:=fun i=>bif Rs S i then (tm i).strip else tm i
def Gj (tm:Fr):List Nat→Prop
 | []=>True
 | n::S=>(tm n).data=true∧Gj tm S
theorem yQ {tm:Fr}: ∀ {S:List Nat} {i:Nat},Gj tm S→Rs S i=true→(tm i).data=true
  | [],_,_,h=>by simp [Rs] at h
  | n::S,i,hd,h=>by
    simp only [Rs,Bool.or_eq_true] at h
    rcases h with h | h
    · rw [←Nat.eq_of_beq_eq_true h];exact hd.1
    exact yQ hd.2 h
theorem gm {S:List Nat} (h:Gj tm S):xW tm (Vq S tm):=fun G a hf t=>by
 unfold Vq
 cases e:Rs S t with
 | false=>exact hf t
 | true=>exact fU (fun _ _ _ h=>h) (yQ h e) (hf t)
end
end Go.Proofs.YtcidnoghoifmmaaDoor.AW
