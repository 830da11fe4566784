/-
  The rules of a function's walk: what stays where objects are made and written.
-/
import Derived.Test.YtcidnoghoifmmaaDoorProg
import Derived.Test.YtcidnoghoifmmaaDoorFwT2
import Derived.KernelRfl
set_option linter.unusedSimpArgs false
set_option linter.unusedVariables false
namespace Go.Proofs.YtcidnoghoifmmaaDoor.AW
open Go

def Zp:bA:=fun _=>none

section
variable {tm:Fr}
theorem eV {total:Nat}:bY total [] tm=some []:=rfl
theorem bO {total off size:Nat} {x:AX} {v:AV} {cs:List AV} {rest:List (Nat × Nat × AX)} {l:List (Nat × List AV)} (hx:tm.x x=v) (hc:v.cells=cs) (hl:cs.length=size) (ho:off+size≤total) (h:bY total rest tm=some l):bY total ((off,size,x)::rest) tm=some ((off,cs)::l):=by
 subst hx
 subst hc
 simp only [bY,h]
 rw [if_pos ⟨hl,ho⟩]
 rfl
theorem fJ (cs:List AV):av cs []=cs:=rfl
theorem bf {cs s s' cs' out:List AV} {off:Nat} {rest:List (Nat × List AV)} (hl:LR cs off s s' cs') (hn:s.length=s'.length) (h:av cs' rest=out):av cs ((off,s')::rest)=out:=by
 simp only [av]
 rw [hl.put hn]
 exact h
end


def uL (K:AV→aA→Prop) (v:AV) (st:aA):Prop:=v.data=true∧K v.strip st
theorem Wb {K:AV→aA→Prop} {st:aA} {v v':AV} (h:DS v v') (hk:K v' st):v.data=true∧K v.strip st:=⟨h.1,by rw [h.2];exact hk⟩
theorem vO {P:Program} {E:bA} {mu:Nat→Bool} {f:FuncId} {fn:xN} {ds:List AV} {st:aA} {K:AV→aA→Prop} (hf:au P mu f=some fn) (hl:ds.length≤fn.n)
 (h:At ⟨P,E,fn.n,mu,fn.res,uL K,lR E fn.res (uL K)⟩ fn.body [] (lT ds) st):XCall P E f ds st K:=zS (zR hf hl h)
def KD (l l':List AV):Prop:= ∀(G:Gh) (us:List Value),aW G l us→aW G l' us
theorem vP {P:Program} {E:bA} {f:FuncId} {ds ds':List AV} {st:aA} {K:AV→aA→Prop} (ha:KD ds ds') (h:XCall P E f ds' st K):XCall P E f ds st K:=fun G w vs hr hs=>h G w vs (ha G vs hr) hs
section
variable {X:Cx} {k:List KI} {tm:Fr} {st:aA} {l:List bZ} {d:Nat}
end


structure Mp (κ α :Type) where
 get: κ →Option α
 n:Nat
def Mp.empty {κ α :Type}:Mp κ α :=⟨fun _=>none,0⟩
def Mp.put {κ α :Type} [DecidableEq κ] (m:Mp κ α) (k: κ) (v: α):Mp κ α :=⟨fun x=>if x=k then some v else m.get x,if (m.get k).isNone then m.n+1 else m.n⟩
def mS {α :Type} (f: α →AV) (m:Mp aZ α):Key→Option AV
 | .s l=>(m.get l).map f
 | .i _=>none
theorem JF {α :Type} (f: α →AV):mS f Mp.empty=fun _=>none:=by funext c;cases c<;>rfl
theorem RG {α :Type} (f: α →AV) (m:Mp aZ α) (k:aZ) (v: α):mb (mS f m) (.s k) (f v)=mS f (m.put k v):=by
  funext c
  cases c with
  | s l=>
    by_cases h:l=k
    · subst h;simp [mb,mS,Mp.put]
    simp [mb,mS,Mp.put,h]
  | i n=>simp [mb,mS]
section
variable {X:Cx} {k:List KI} {tm:Fr} {st:aA} {l suf:List bZ} {d:Nat} {st0:aA} {mr r:Nat} {m q x:AX} {α :Type} {f: α →AV} {id:Nat}

theorem fN {E:bA} {key:aZ} {z: α} {zero:AV} {M:Mp aZ α} {n:Nat} (hm:tm.x m= .mp id) (ho:st[id]? =some (.map none (mS f M) n)) (hq:tm.x q= .str key) (hz:zero=f z):
  aE E tm st (.lookup none zero false m q)=some (f ((M.get key).getD z),st):=by
 subst hz
 simp only [aE,hm,hq,keyOf,mapOf,ho,if_true,mS]
 cases M.get key<;>simp [qN]
end
end Go.Proofs.YtcidnoghoifmmaaDoor.AW
