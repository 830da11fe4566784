/-
  Plain values of the program's types, what they stand for, and what the operations do to them.
-/
import Derived.Test.YtcidnoghoifmmaaDoorFwW
namespace Go.Proofs.YtcidnoghoifmmaaDoor.AW
open Go

abbrev aZ:=List UInt8
abbrev Sl (α :Type):=Option (List α)
def ls {α :Type} (o:Sl α):List α :=o.getD []
theorem Ca {α :Type}:ls (none:Sl α)=[]:=rfl
theorem wW {α :Type} (l:List α):ls (some l)=l:=rfl
structure an (n:Nat) (α :Type) where
 l:List α
 h:l.length=n
theorem an.ext {n:Nat} {α :Type} {a b:an n α} (h:a.l=b.l):a=b:=by
 obtain ⟨l,hl⟩:=a
 obtain ⟨m,hm⟩:=b
 cases h
 rfl
instance {n:Nat} {α :Type} [DecidableEq α]:DecidableEq (an n α):=fun a b=>
 if h:a.l=b.l then .isTrue (an.ext h) else .isFalse fun e=>h (by rw [e])
def an.rep (n:Nat) {α :Type} (x: α):an n α :=⟨List.replicate n x,by simp⟩
def iz {n:Nat} {α :Type} (a:an n α) (i:Int) (x: α):an n α :=⟨a.l.set i.toNat x,by simp [a.h]⟩
theorem pI {n:Nat} {α :Type} (a:an n α) (i:Int) (x: α):(iz a i x).l=a.l.set i.toNat x:=rfl
def ix {α :Type} (l:List α) (n:Int):Option α :=if 0≤n then l[n.toNat]? else none
theorem gx {α :Type} {l:List α} {n:Int} {x: α} (h:ix l n=some x):0≤n∧l[n.toNat]? =some x∧n<l.length:=by
 unfold ix at h
 split at h
 ·rename_i h0
  refine ⟨h0,h,?_⟩
  have:=(List.getElem?_eq_some_iff.1 h).1
  omega
 cases h
theorem RB {α :Type} (l:List α) (n:Nat):ix l (n:Int)=l[n]? :=by simp [ix]
theorem bind_some {α β :Type} {x:Option α} {f: α →Option β} {r: β} (h:(x>>=f)=some r): ∃v,x=some v∧f v=some r:=by
 cases x with
 | none=>cases h
 | some v=>exact ⟨v,rfl,h⟩
theorem jc {α :Type} {p:Prop} [Decidable p] {x:Option α} {r: α} (h:(if p then x else none)=some r):p∧x=some r:=by
 by_cases hp:p
 ·rw [if_pos hp] at h;exact ⟨hp,h⟩
 rw [if_neg hp] at h;cases h
theorem NM {α :Type} {c:Bool} {x y:Option α} {r: α} (hc:c=true) (h:(if c=true then x else y)=some r):x=some r:=by rw [if_pos hc] at h;exact h
theorem NL {α :Type} {c:Bool} {x y:Option α} {r: α} (hc:c=false) (h:(if c=true then x else y)=some r):y=some r:=by rw [if_neg (by rw [hc];decide)] at h;exact h
def xA (k:IntKind) (x y:Int):Int:=k.wrap (x*2 ^ (Nat.min y.toNat k.bits))
def jC (k:IntKind) (x y:Int):Int:=x.fdiv (2 ^ (Nat.min y.toNat k.bits))
def kz (k:IntKind) (x y:Int):Int:=k.wrap (BitVec.ofInt k.bits x &&& BitVec.ofInt k.bits y).toNat
def Zr (k:IntKind) (x y:Int):Int:=k.wrap (BitVec.ofInt k.bits x ||| BitVec.ofInt k.bits y).toNat
def Vy (k:IntKind) (x y:Int):Int:=k.wrap (BitVec.ofInt k.bits x ^^^ BitVec.ofInt k.bits y).toNat
def Bw (k:IntKind) (x y:Int):Int:=k.wrap (BitVec.ofInt k.bits x &&& ~~~(BitVec.ofInt k.bits y)).toNat
def RJ (k:IntKind) (n:Int):Int:=k.wrap (BitVec.ofInt k.bits (if k.signed then -1 else k.max) ^^^ BitVec.ofInt k.bits n).toNat

theorem RL (k k':IntKind) (x y:Int) (h:0≤y):iX .shl k x k' y=some (.int k (xA k x y)):=by simp only [iX,xA];rw [if_neg (by omega)]
theorem tG (k k':IntKind) (x y:Int) (h:0≤y):iX .shr k x k' y=some (.int k (jC k x y)):=by simp only [iX,jC];rw [if_neg (by omega)]
theorem tE (k:IntKind) (x y:Int) (h:y≠0):iX .quo k x k y=some (.int k (k.wrap (x.tdiv y))):=by simp only [iX,if_true,if_neg h]
theorem tF (k:IntKind) (x y:Int) (h:y≠0):iX .rem k x k y=some (.int k (x.tmod y)):=by simp only [iX,if_true,if_neg h]

def LR (cs:List AV) (off:Nat) (s s' cs':List AV):Prop:= ∃p q,cs=p++s++q∧cs'=p++s'++q∧p.length=off

theorem LR.whole (cs cs':List AV):LR cs 0 cs cs' cs':=⟨[],[],by simp,by simp,rfl⟩
theorem LR.comp {cs:List AV} {o o':Nat} {s t cs' u v:List AV} (h:LR cs o s t cs') (h':LR s o' u v t):LR cs (o+o') u v cs':=by
 obtain ⟨p,q,rfl,rfl,rfl⟩:=h
 obtain ⟨p',q',rfl,rfl,rfl⟩:=h'
 exact ⟨p++p',q'++q,by simp,by simp,by simp⟩
theorem LR.cast {cs:List AV} {o o':Nat} {s t cs':List AV} (h:LR cs o s t cs') (e:o=o'):LR cs o' s t cs':=e▸h
theorem LR.get {cs:List AV} {o n:Nat} {s t cs':List AV} (h:LR cs o s t cs') (hn:s.length=n):o+n≤cs.length∧(cs.drop o).take n=s:=by
 obtain ⟨p,q,rfl,rfl,rfl⟩:=h
 subst hn
 simp [List.append_assoc]
theorem LR.put {cs:List AV} {o n:Nat} {s t cs':List AV} (h:LR cs o s t cs') (hn:s.length=n):cs.take o++t++cs.drop (o+n)=cs':=by
 obtain ⟨p,q,rfl,rfl,rfl⟩:=h
 subst hn
 rw [List.append_assoc p s q,List.take_left,List.drop_append]
 simp
def DP (cs s:List AV):Prop:= ∃q,cs=s++q
theorem DP.refl (cs:List AV):DP cs cs:=⟨[],by simp⟩
theorem DP.cN {cs s u t v:List AV} {o:Nat} (h:DP cs s) (hl:LR s o u v t):DP (cs.drop o) u:=by
 obtain ⟨q,rfl⟩:=h
 obtain ⟨p,q',rfl,rfl,rfl⟩:=hl
 exact ⟨q'++q,by simp [List.append_assoc]⟩
def cA {n:Nat} {α :Type} (c: α →List AV) (a:an n α):List AV:=a.l.flatMap c

theorem sU {α :Type} {c: α →List AV} {es:Nat} (hc: ∀x,(c x).length=es): ∀l:List α,(l.flatMap c).length=l.length*es
 | []=>by simp
 | x::l=>by rw [List.flatMap_cons,List.length_append,hc,sU hc l,List.length_cons,Nat.succ_mul,Nat.add_comm]
theorem QY {n:Nat} {α :Type} {c: α →List AV} {es:Nat} (hc: ∀x,(c x).length=es) (a:an n α):(cA c a).length=n*es:=by
 rw [cA,sU hc,a.h]
theorem oN {α :Type} {c: α →List AV} {es:Nat} (hc: ∀x,(c x).length=es): ∀(l:List α) (i:Nat) (x y: α),l[i]? =some x→LR (l.flatMap c) (i*es) (c x) (c y) ((l.set i y).flatMap c)
  | [],i,x,y,h=>by simp at h
  | z::l,0,x,y,h=>by
    simp at h
    subst h
    exact ⟨[],l.flatMap c,by simp,by simp,by simp⟩
  | z::l,i+1,x,y,h=>by
    obtain ⟨p,q,h1,h2,h3⟩:=oN hc l i x y (by simpa using h)
    refine ⟨c z++p,q,by simp [h1,List.append_assoc],by simp [h2,List.append_assoc],?_⟩
    rw [List.length_append,hc,h3,Nat.succ_mul,Nat.add_comm]
theorem fD {α :Type}: ∀(l:List α) (i:Nat) (x: α),l[i]? =some x→l.set i x=l
 | [],i,x,h=>by simp
 | z::l,0,x,h=>by simp at h;simp [h]
 | z::l,i+1,x,h=>by simp only [List.set_cons_succ];rw [fD l i x (by simpa using h)]
theorem wV {n:Nat} {α :Type} {c: α →List AV} {es:Nat} (hc: ∀x,(c x).length=es) {a:an n α} {i:Int} {x: α} (h:ix a.l i=some x):LR (cA c a) (i.toNat*es) (c x) (c x) (cA c a):=by
 have:=oN hc a.l i.toNat x x (gx h).2.1
 rw [fD _ _ _ (gx h).2.1] at this
 exact this
theorem BB {n:Nat} {α :Type} {c: α →List AV} {es:Nat} (hc: ∀x,(c x).length=es) {a:an n α} {i:Int} {x: α} (h:ix a.l i=some x) (y: α):LR (cA c a) (i.toNat*es) (c x) (c y) (cA c (iz a i y)):=
 oN hc a.l i.toNat x y (gx h).2.1
theorem Ir {n:Nat} {α :Type} (a:an n α) {i:Int} {m:Int} (h:0≤i∧i<m) (e:m=n): ∃x,ix a.l i=some x:=by
 have:i.toNat<a.l.length:=by rw [a.h];omega
 exact ⟨a.l[i.toNat],by simp [ix,h.1,this]⟩
def cg {α :Type} (es:Nat) (f: α →AV):Sl α →AV
 | none=>.aP
 | some l=>.sl es (l.map f) none
def HK {α :Type} (es:Nat) (f: α →AV) (o:Sl α) (v:AV):Prop:=(o=none∧v= .aP)∨ ∃l tok,o=some l∧v= .sl es (l.map f) tok
theorem bJ {α :Type} {es:Nat} {f: α →AV} {o:Sl α} {v:AV} (h:v=cg es f o):HK es f o v:=by
 subst h
 cases o with
 | none=>exact .inl ⟨rfl,rfl⟩
 | some l=>exact .inr ⟨l,none,rfl,rfl⟩
theorem tq {α :Type} {f: α →AV} (hf: ∀x,(f x).strip=f x): ∀l:List α,AV.cG (l.map f)=l.map f
 | []=>rfl
 | x::l=>by simp only [List.map_cons,AV.cG,hf,tq hf l]
theorem uh {α :Type} {f: α →AV} (hf: ∀x,(f x).data=true): ∀l:List α,AV.dP (l.map f)=true
 | []=>rfl
 | x::l=>by simp only [List.map_cons,AV.dP,hf,uh hf l,Bool.and_self]
theorem yu {α :Type} {es:Nat} {f: α →AV} (hf: ∀x,(f x).strip=f x) {o:Sl α} {v:AV} (h:HK es f o v):v.strip=cg es f o:=by
 rcases h with ⟨rfl,rfl⟩ | ⟨l,tok,rfl,rfl⟩
 ·rfl
 simp only [cg,AV.strip,tq hf]
theorem Cl {α :Type} {es:Nat} {f: α →AV} (hf: ∀x,(f x).data=true) {o:Sl α} {v:AV} (h:HK es f o v):v.data=true:=by
 rcases h with ⟨rfl,rfl⟩ | ⟨l,tok,rfl,rfl⟩
 ·rfl
 simp only [AV.data,uh hf]
theorem nM: ∀a b:List AV,AV.cG (a++b)=AV.cG a++AV.cG b
 | [],b=>rfl
 | x::a,b=>by simp only [List.cons_append,AV.cG,nM a b]
theorem pO: ∀a b:List AV,AV.dP (a++b)=(AV.dP a&&AV.dP b)
 | [],b=>rfl
 | x::a,b=>by simp only [List.cons_append,AV.dP,pO a b,Bool.and_assoc]
theorem qW {α :Type} {c: α →List AV} (hc: ∀x,AV.cG (c x)=c x): ∀l:List α,AV.cG (l.flatMap c)=l.flatMap c
 | []=>rfl
 | x::l=>by simp only [List.flatMap_cons,nM,hc,qW hc l]
theorem sM {α :Type} {c: α →List AV} (hc: ∀x,AV.dP (c x)=true): ∀l:List α,AV.dP (l.flatMap c)=true
 | []=>rfl
 | x::l=>by simp only [List.flatMap_cons,pO,hc,sM hc l,Bool.and_self]
theorem yf {α :Type} {c: α →List AV} (hc: ∀x,(c x).all AV.one=true): ∀l:List α,(l.flatMap c).all AV.one=true
 | []=>rfl
 | x::l=>by simp only [List.flatMap_cons,List.all_append,hc,yf hc l,Bool.and_self]
def bW {α :Type}:Sl α →List α →Sl α
 | none,[]=>none
 | o,ys=>some (ls o++ys)
theorem Cb {α :Type} (o:Sl α) (ys:List α):ls (bW o ys)=ls o++ys:=by
 cases o with
 | none=>cases ys<;>rfl
 | some l=>rfl
def mG {α :Type}:Sl α →Int→Int→Option (Sl α)
 | none,lo,hi=>if lo=0∧hi=0 then some none else none
 | some l,lo,hi=>if 0≤lo∧lo≤hi∧hi≤l.length then some (some ((l.take hi.toNat).drop lo.toNat)) else none
def cL (l:List Int):aZ:=l.map fun n=>UInt8.ofNat n.toNat
def ig (s:aZ):List Int:=s.map fun b=>(b.toNat:Int)

theorem qH: ∀l:List Int,bytesOf (l.map (AV.int .u8))=some (cL l)
  | []=>rfl
  | n::l=>by
    have:=qH l
    simp only [bytesOf,cL,List.map_cons,List.mapM_cons,AV.toByte] at this ⊢
    rw [this];rfl
section
variable {E:bA} {tm:Fr} {st:aA} {x y i a:AX}

theorem Un {v:AV} (h:tm.x x=v):aE E tm st (.mv x)=some (v,st):=by rw [←h];rfl
theorem IL {c:AX} {t:Bool} {v:AV} (h:tm.x c= .bool t) (ht:t=true) (hv:tm.x a=v):aE E tm st (.pick c a y)=some (v,st):=by subst ht;subst hv;simp only [CO,h,sB,if_true]
theorem IK {c:AX} {t:Bool} {v:AV} (h:tm.x c= .bool t) (ht:t=false) (hv:tm.x y=v):aE E tm st (.pick c a y)=some (v,st):=by subst ht;subst hv;simp [CO,h,sB]
theorem LD (z cs:List AV) (h:z=cs):aE E tm st (.alloc z)=some (.ptr st.length 0,st++[.cells cs]):=by subst h;rfl
theorem Uj {n:Nat} {cs:List AV} (h:(tm.x x).cells=cs) (hn:cs.length=n):aE E tm st (.box n x)=some (.ptr st.length 0,st++[.cells cs]):=by
 subst h;simp only [Qr];rw [if_pos hn]
theorem dY {z cs:List AV} {ps:List (Nat × Nat × AX)} {l:List (Nat × List AV)} (h:bY z.length ps tm=some l) (hf:av z l=cs):aE E tm st (.build z ps)=some (.agg cs,st):=by
 subst hf;simp only [IQ,h,fO]
theorem fS {id off:Nat} {cs:List AV} {v:AV} (hp:tm.x a= .ptr id off) (ho:st[id]? =some (.cells cs)) (hl:LR cs off [v] [v] cs):aE E tm st (.kg a)=some (v,st):=by
 have h:=hl.get (n:=1) rfl
 simp only [oB,hp,cq,ho]
 rw [if_pos h.1,h.2];rfl
theorem eN {id off n:Nat} {cs s:List AV} (hp:tm.x a= .ptr id off) (ho:st[id]? =some (.cells cs)) (hl:LR cs off s s cs) (hn:s.length=n):aE E tm st (.mo n a)=some (.agg s,st):=by
 have h:=hl.get hn
 simp only [oC,hp,cq,ho]
 rw [if_pos h.1,h.2];rfl
theorem aI {cs:List AV} {v:AV} (hp:tm.x a= .aQ cs) (hd:DP cs [v]):aE E tm st (.kg a)=some (v,st):=by
 obtain ⟨q,rfl⟩:=hd
 simp [oB,hp,cq,gW]
theorem aL {n:Nat} {cs s:List AV} (hp:tm.x a= .aQ cs) (hd:DP cs s) (hn:s.length=n):aE E tm st (.mo n a)=some (.agg s,st):=by
 obtain ⟨q,rfl⟩:=hd
 subst hn
 simp [oC,hp,cq,gW]
theorem CM {id off n:Nat} {cs s s' cs':List AV} (hp:tm.x a= .ptr id off) (ho:st[id]? =some (.cells cs)) (hl:LR cs off s s' cs') (hn:s.length=n) (hx:(tm.x x).cells=s') (hn':s'.length=n) (h1:s'.all AV.one=true):
  aE E tm st (.store n a x)=some (.bt [],st.set id (.cells cs')):=by
 subst hx
 have h:=hl.get hn
 have h2:=hl.put hn
 simp only [yM,hp,xd,ho,HZ]
 rw [if_pos ⟨hn',h.1,h1⟩,h2]
theorem lG {id:Nat} {cs:List AV} (ho:st[id]? =some (.cells cs)):alive st id=true:=by simp only [alive,ho]
theorem bT {id off:Nat} {cs:List AV} (hp:tm.x x= .ptr id off) (ho:st[id]? =some (.cells cs)):aE E tm st (.jg x)=some (.ptr id off,st):=by
 simp only [yL,hp,JJ,lG ho,if_true]
theorem bK {cs:List AV} (hp:tm.x x= .aQ cs):aE E tm st (.jg x)=some (.aQ cs,st):=by simp only [yL,hp,Dn]
theorem aJ {id o off:Nat} {cs:List AV} (hp:tm.x x= .ptr id o) (ho:st[id]? =some (.cells cs)):aE E tm st (.jK off x)=some (.ptr id (o+off),st):=by
 simp only [yK,hp,uc,lG ho,if_true]
theorem aB {off:Nat} {cs:List AV} (hp:tm.x x= .aQ cs):aE E tm st (.jK off x)=some (.aQ (cs.drop off),st):=by simp only [yK,hp,rz]
theorem fZ {id o len es:Nat} {k:IntKind} {n:Int} {cs:List AV} (hp:tm.x x= .ptr id o) (ho:st[id]? =some (.cells cs)) (hi:tm.x i= .int k n) (hr:0≤n∧n<(len:Int)):aE E tm st (.ek len es x i)=some (.ptr id (o+n.toNat*es),st):=by
 simp only [uk,hi,jr]
 rw [if_pos hr]
 simp only [hp,uc,lG ho,if_true]
theorem pP {len es:Nat} {k:IntKind} {n:Int} {cs:List AV} (hp:tm.x x= .aQ cs) (hi:tm.x i= .int k n) (hr:0≤n∧n<(len:Int)):aE E tm st (.ek len es x i)=some (.aQ (cs.drop (n.toNat*es)),st):=by
 simp only [uk,hi,jr]
 rw [if_pos hr]
 simp only [hp,rz]
theorem hJ {op:BinOp} {k k':IntKind} {m n:Int} {v:AV} (hx:tm.x x= .int k m) (hy:tm.x y= .int k' n) (h:iX op k m k' n=some v):aE E tm st (.vz op x y)=some (v,st):=by
 simp only [LF,hx,hy,jr,h,Option.map_some]
theorem yF {op:BinOp} {s t:aZ} {v:AV} (hx:tm.x x= .str s) (hy:tm.x y= .str t) (h:qV op s t=some v):aE E tm st (.jt op x y)=some (v,st):=by
 simp only [LG,hx,hy,vw,h,Option.map_some]
theorem wg (s t:aZ) (h:s.length+t.length≤9223372036854775807):qV .add s t=some (.str (s++t)):=by simp only [qV];rw [if_pos h]
theorem Um {s t:Bool} (hx:tm.x x= .bool s) (hy:tm.x y= .bool t):aE E tm st (.xM false x y)=some (.bool (s==t),st):=by simp [IT,hx,hy,sB]
theorem Up {s t:Bool} (hx:tm.x x= .bool s) (hy:tm.x y= .bool t):aE E tm st (.xM true x y)=some (.bool (!(s==t)),st):=by simp [IT,hx,hy,sB]
theorem II {ks:List LK} {s t:List AV} {b:Bool} (hx:tm.x x= .agg s) (hy:tm.x y= .agg t) (h:AV.eZ ks s t=some b):aE E tm st (.Aj false ks x y)=some (.bool b,st):=by simp [IS,hx,hy,AT,h,fO]
theorem Uo {ks:List LK} {s t:List AV} {b:Bool} (hx:tm.x x= .agg s) (hy:tm.x y= .agg t) (h:AV.eZ ks s t=some b):aE E tm st (.Aj true ks x y)=some (.bool (!b),st):=by simp [IS,hx,hy,AT,h,fO]
theorem Ur {t:Bool} (hx:tm.x x= .bool t):aE E tm st (.un .not x)=some (.bool (!t),st):=by simp only [Qw,hx,sB]
theorem Uq {k:IntKind} {n:Int} (hx:tm.x x= .int k n):aE E tm st (.un .neg x)=some (.int k (k.wrap (0-n)),st):=by simp only [Qv,hx,jr]
theorem Qp {k:IntKind} {n:Int} (hx:tm.x x= .int k n):aE E tm st (.un .xor x)=some (.int k (RJ k n),st):=by simp only [Qx,hx,jr,RJ]
theorem Uk {k k':IntKind} {n:Int} (hx:tm.x x= .int k' n):aE E tm st (.Ah k x)=some (.int k (k.wrap n),st):=by simp only [Qs,hx,jr]
theorem Ul {s:aZ} (hx:tm.x x= .str s):aE E tm st (.Me x)=some (.str s,st):=by simp only [Qt,hx,vw]
theorem Qk {len es:Nat} {k:IntKind} {n:Int} {cs:List AV} {v:AV} (hx:tm.x x= .agg cs) (hi:tm.x i= .int k n) (hr:0≤n∧n<(len:Int)) (hl:LR cs (n.toNat*es) [v] [v] cs):aE E tm st (.Aq len es x i)=some (v,st):=by
 obtain ⟨p,q,rfl,_,hp⟩:=hl
 simp only [aE,hx,hi]
 rw [if_pos hr,←hp]
 simp
theorem Mm {k:IntKind} {n:Int} {s:aZ} {b:UInt8} (hx:tm.x x= .str s) (hi:tm.x i= .int k n) (h:ix s n=some b):aE E tm st (.NO x i)=some (.int .u8 b.toNat,st):=by
 have h2:=gx h
 simp only [Qu,hi,hx,jr,vw]
 rw [if_pos h2.1,h2.2.1];rfl
theorem Dc {n:Nat} {vs:List AV} {v:AV} (hx:tm.x x= .bt vs) (hv:vs[n]? =some v):aE E tm st (.extract x n)=some (v,st):=by simp only [Al,hx,QM,hv,fO]
theorem Qm {s:aZ} (hx:tm.x x= .str s):aE E tm st (.qt x)=some (.int .i64 s.length,st):=by simp only [LH,hx,vw]
theorem e_len {α :Type} {es:Nat} {f: α →AV} {o:Sl α} (h:HK es f o (tm.x x)):aE E tm st (.len x)=some (.int .i64 (ls o).length,st):=by
 rcases h with ⟨rfl,h⟩ | ⟨l,tok,rfl,h⟩
 ·simp only [wJ,h,Dm];rfl
 simp only [wJ,h,Lc,List.length_map];rfl
theorem aM {α :Type} {es:Nat} {f: α →AV} {o:Sl α} {k:IntKind} {n:Int} {v: α} (h:HK es f o (tm.x x)) (hi:tm.x i= .int k n) (hv:ix (ls o) n=some v):aE E tm st (.kG es x i)=some (.aQ (f v).cells,st):=by
 have h2:=gx hv
 rcases h with ⟨rfl,h⟩ | ⟨l,tok,rfl,h⟩
 ·simp [ls] at h2
 simp only [wW] at h2
 simp only [um,hi,jr,h,IN]
 rw [if_pos ⟨trivial,h2.1⟩,List.getElem?_map,h2.2.1];rfl
theorem Kp {z:AX} {k:IntKind} {m:Int} {d:Nat} (h:tm.x z= .int k m) (h0:0≤m):bound ((some z).map tm.x) d=some m.toNat:=by
 simp only [Option.map_some,h,bound,if_pos h0]
theorem Cp {α :Type} {o:Sl α} {o':Sl α} {m n:Int} (h:mG o m n=some o'):0≤m∧m≤n∧n≤(ls o).length:=by
  cases o with
  | none=>
    simp only [mG] at h
    split at h
    · rename_i hc;simp [hc,ls]
    cases h
  | some l=>
    simp only [mG] at h
    split at h
    · rename_i hc;exact hc
    cases h
theorem Us {α :Type} {es:Nat} {f: α →AV} {o o':Sl α} {lo hi:Option AX} {m n:Int} (hx:HK es f o (tm.x x)) (h1:bound (lo.map tm.x) 0=some m.toNat) (h2:bound (hi.map tm.x) (ls o).length=some n.toNat) (h:mG o m n=some o'):aE E tm st (.Nq es x lo hi)=some (cg es f o',st):=by
 have hlo:=Cp h
 rcases hx with ⟨rfl,hx⟩ | ⟨l,tok,rfl,hx⟩
 ·simp only [ls] at hlo
  simp only [mG] at h
  split at h
  ·rename_i hc
   obtain ⟨rfl,rfl⟩:=hc
   cases h
   simp only [aE,hx,h1]
   simp only [ls,Option.getD_none,List.length_nil] at h2
   simp only [h2]
   rfl
  cases h
 simp only [mG] at h
 split at h
 ·rename_i hc
  cases h
  simp only [wW] at h2
  simp only [aE,hx,h1,List.length_map,h2]
  rw [if_pos ⟨trivial,by omega,by omega⟩]
  simp only [cg,List.map_drop,List.map_take]
 cases h
theorem Qo {α :Type} {es:Nat} {f: α →AV} {o o':Sl α} {w:AX} {k':IntKind} {n:Int} (hx:HK es f o (tm.x x)) (hw:tm.x w= .int k' n) (h:mG o 0 n=some o'):aE E tm st (.Nq es x none (some w))=some (cg es f o',st):=
 have hh:=Cp h
 Us hx (m:=0) (by simp [bound]) (Kp hw (by omega)) h
theorem yD {o:Sl Int} (h:HK 1 (AV.int .u8) o (tm.x x)):aE E tm st (.KA x)=some (.str (cL (ls o)),st):=by
 rcases h with ⟨rfl,h⟩ | ⟨l,tok,rfl,h⟩
 ·simp only [aE,h,jI];rfl
 simp only [aE,h,jI,qH];rfl
theorem JL (s:aZ):s.map fW=(ig s).map (AV.int .u8):=by
 simp only [ig,List.map_map]
 rfl
theorem IG {α :Type} {f: α →AV} {es len:Nat} {ag:Bool} {zero:List AV} {parts:List (Nat × Nat × AX)} {ps:List (Nat × List AV)} {l:List α} (hp:bY (len*es) parts tm=some ps) (hf:(chunks es len (av (cJ zero len) ps)).map (cC ag)=l.map f)
  (h1:(av (cJ zero len) ps).all AV.one=true) (hl:l.length=len):aE E tm st (.bE es len ag zero parts false)=some (.sl es (l.map f) (some st.length),st++[.tail l.length]):=by
 subst hl
 simp only [De,hp,fO]
 rw [if_pos h1,hf]
theorem eR {α :Type} {es:Nat} {f: α →AV} {o:Sl α} {v:AV} (h:HK es f o v):dy es st v=some ((ls o).map f):=by
 rcases h with ⟨rfl,rfl⟩ | ⟨l,tok,rfl,rfl⟩
 ·rfl
 simp only [dy,if_true,wW]
theorem QH {s:aZ} {v:AV} (h:v= .str s):dy 1 st v=some ((ig s).map (AV.int .u8)):=by
 subst h
 simp only [dy,if_true,JL]
end
end Go.Proofs.YtcidnoghoifmmaaDoor.AW
