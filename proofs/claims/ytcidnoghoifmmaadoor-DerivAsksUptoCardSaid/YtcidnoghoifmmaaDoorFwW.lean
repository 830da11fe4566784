/-
  The abstract walk, in its own words once more: code as what is still to come, frames as what was written last, stores as what is known of them.
-/
import Derived.Test.YtcidnoghoifmmaaDoorFwZ
set_option linter.unusedSimpArgs false
set_option linter.unusedVariables false
namespace Go.Proofs.YtcidnoghoifmmaaDoor.AW
open Go

def XS (P:Program) (E:bA) (N:Nat) (mu:Nat→Bool) (b:aC) (Q:cn→Fr→aA→Prop) (tm:Fr) (st:aA):Prop:= ∀c,bp P N mu c=some b→Wk P E N mu c Q tm st

def xW (tm tm':Fr):Prop:= ∀(G:Gh) (a:Act),er G tm a→er G tm' a

section
variable {P:Program} {E:bA} {N:Nat} {mu:Nat→Bool}

theorem Rel.weak {G:Gh} {tm tm':Fr} {st:aA} {a:Act} {w:World} {B:Nat} (hw:xW tm tm') (h:Rel B N E G tm st a w):Rel B N E G tm' st a w:=⟨h.size,h.defers,hw G a h.fr,h.st⟩
theorem xW.refl (tm:Fr):xW tm tm:=fun _ _ h=>h
theorem XS.of {b:aC} {Q:cn→Fr→aA→Prop} {tm:Fr} {st:aA} (h:eL P E N mu b Q tm st):XS P E N mu b Q tm st:=fun c hc=>gF c b hc Q tm st h
theorem XS.weak {b:aC} {Q:cn→Fr→aA→Prop} {tm tm':Fr} {st:aA} (hw:xW tm tm') (h:XS P E N mu b Q tm' st):XS P E N mu b Q tm st:=fun c hc B ro G a w hro hr=>h c hc B ro G a w hro (hr.weak hw)
theorem XLoop.weak {b:aC} {Q:cn→Fr→aA→Prop} {tm tm':Fr} {st:aA} (hw:xW tm tm') (h:XLoop P E N mu b Q tm' st):XLoop P E N mu b Q tm st:=fun c hc B ro G a w hro hr=>h c hc B ro G a w hro (hr.weak hw)
theorem Da {c:Code} {x y:aC} (h:bp P N mu c=some (.seq x y)): ∃a b,c= .seq a b∧bp P N mu a=some x∧bp P N mu b=some y:=by
  cases c<;>try simp only [bp,reduceCtorEq] at h
  case seq a b=>
    split at h
    · rename_i ax ay h1 h2;cases h;exact ⟨a,b,rfl,h1,h2⟩
    cases h
  case cond=>split at h<;>cases h
  case block=>simp only [Option.map_eq_some_iff] at h;obtain ⟨_,_,h⟩:=h;cases h
  case loop=>simp only [Option.map_eq_some_iff] at h;obtain ⟨_,_,h⟩:=h;cases h
  case region id ops d=>
    cases d with
    | false=>simp only [bp] at h;split at h<;>cases h
    | true=>
      simp only [bp,Option.some.injEq] at h
      rcases nH P N mu ops with e | ⟨_,_,_,_,_,e⟩
      · rw [e] at h;cases h
      rw [e] at h;cases h
  case rangeFunc=>
    split at h
    · split at h<;>cases h
    cases h
  all_goals cases h
theorem Ae {c:Code} {z:AX} {x y:aC} (h:bp P N mu c=some (.cond z x y)): ∃o a b,c= .cond o a b∧cX o=some z∧bp P N mu a=some x∧bp P N mu b=some y:=by
  cases c<;>try simp only [bp,reduceCtorEq] at h
  case seq=>split at h<;>cases h
  case cond o a b=>
    split at h
    · rename_i ax ay az h1 h2 h3;cases h;exact ⟨o,a,b,rfl,h1,h2,h3⟩
    cases h
  case block=>simp only [Option.map_eq_some_iff] at h;obtain ⟨_,_,h⟩:=h;cases h
  case loop=>simp only [Option.map_eq_some_iff] at h;obtain ⟨_,_,h⟩:=h;cases h
  case region id ops d=>
    cases d with
    | false=>simp only [bp] at h;split at h<;>cases h
    | true=>
      simp only [bp,Option.some.injEq] at h
      rcases nH P N mu ops with e | ⟨_,_,_,_,_,e⟩
      · rw [e] at h;cases h
      rw [e] at h;cases h
  case rangeFunc=>
    split at h
    · split at h<;>cases h
    cases h
  all_goals cases h
theorem xu {c:Code} {i:Nat} {x:aC} (h:bp P N mu c=some (.block i x)): ∃a,c= .block i a∧bp P N mu a=some x:=by
  cases c<;>try simp only [bp,reduceCtorEq] at h
  case seq=>split at h<;>cases h
  case cond=>split at h<;>cases h
  case block id a=>simp only [Option.map_eq_some_iff] at h;obtain ⟨_,h1,h⟩:=h;cases h;exact ⟨a,rfl,h1⟩
  case loop=>simp only [Option.map_eq_some_iff] at h;obtain ⟨_,_,h⟩:=h;cases h
  case region id ops d=>
    cases d with
    | false=>simp only [bp] at h;split at h<;>cases h
    | true=>
      simp only [bp,Option.some.injEq] at h
      rcases nH P N mu ops with e | ⟨_,_,_,_,_,e⟩
      · rw [e] at h;cases h
      rw [e] at h;cases h
  case rangeFunc=>
    split at h
    · split at h<;>cases h
    cases h
  all_goals cases h
theorem XS.seq {x y:aC} {Q:cn→Fr→aA→Prop} {tm:Fr} {st:aA} (h:XS P E N mu x (jk (XS P E N mu y Q) Q) tm st):XS P E N mu (.seq x y) Q tm st:=fun c hc B ro G a w hro hr=>by
 obtain ⟨c1,c2,rfl,h1,h2⟩:=Da hc
 refine wpIn_seq (wpIn_mono (h c1 h1 B ro G a w hro hr) fun e a' w' ⟨xe,tm',st',G',he,hr',hext,hq⟩=>?_)
 rcases he.cases with ⟨rfl,rfl⟩ | ⟨i,rfl,rfl⟩ | ⟨rfl,rfl⟩
 ·rw [gQ] at hq
  exact wpIn_mono (hq c2 h2 B ro G' a' w' hro hr') fun e a'' w'' ⟨xe,tm'',st'',G'',q1,q2,q3,q4⟩=>⟨xe,tm'',st'',G'',q1,q2,hext.trans q3,q4⟩
 ·rw [iy] at hq
  exact ⟨.exit i,tm',st',G',rfl,hr',hext,hq⟩
 rw [jl] at hq
 exact ⟨.ret,tm',st',G',trivial,hr',hext,hq⟩
theorem XS.cond {z:AX} {x y:aC} {Q:cn→Fr→aA→Prop} {tm:Fr} {st:aA} {t:Bool} (hz:tm.x z= .bool t) (h1:t=true→XS P E N mu x Q tm st) (h2:t=false→XS P E N mu y Q tm st):XS P E N mu (.cond z x y) Q tm st:=fun c hc B ro G a w hro hr=>by
 obtain ⟨o,c1,c2,rfl,h0,hc1,hc2⟩:=Ae hc
 have hrr:=bV hr.fr h0
 rw [hz] at hrr
 simp only [aU] at hrr
 exact wpIn_cond_split hrr (fun e=>h1 e c1 hc1 B ro G a w hro hr) (fun e=>h2 e c2 hc2 B ro G a w hro hr)
theorem XS.block {i:Nat} {x:aC} {Q:cn→Fr→aA→Prop} {tm:Fr} {st:aA} (h:XS P E N mu x (jv i Q) tm st):XS P E N mu (.block i x) Q tm st:=fun c hc B ro G a w hro hr=>by
 obtain ⟨c1,rfl,h1⟩:=xu hc
 refine wpIn_block (wpIn_mono (h c1 h1 B ro G a w hro hr) fun e a' w' ⟨xe,tm',st',G',he,hr',hext,hq⟩=>?_)
 rcases he.cases with ⟨rfl,rfl⟩ | ⟨j,rfl,rfl⟩ | ⟨rfl,rfl⟩
 ·rw [me] at hq
  exact ⟨.normal,tm',st',G',trivial,hr',hext,hq⟩
 ·simp only [jv] at hq
  simp only [Exit.inBlock]
  split
  ·rename_i hi
   rw [if_pos hi] at hq
   exact ⟨.normal,tm',st',G',trivial,hr',hext,hq⟩
  rename_i hi
  rw [if_neg hi] at hq
  exact ⟨.exit j,tm',st',G',rfl,hr',hext,hq⟩
 rw [sF] at hq
 exact ⟨.ret,tm',st',G',trivial,hr',hext,hq⟩
theorem XLoop.once {b:aC} {Q:cn→Fr→aA→Prop} {tm:Fr} {st:aA} (h:XS P E N mu b (jk (XLoop P E N mu b Q) Q) tm st):XLoop P E N mu b Q tm st:=fun c hc B ro G a w hro hr f k cs hf=>by
 obtain ⟨e,a₁,w₁,⟨x,tm',st',G',he,hr',hext',hq⟩,harr⟩:=h c hc B ro G a w hro hr f (.inLoop c::k) cs hf trivial (sS _)
 rcases he.cases with ⟨rfl,rfl⟩ | ⟨i,rfl,rfl⟩ | ⟨rfl,rfl⟩
 ·rw [gQ] at hq
  obtain ⟨e₂,a₂,w₂,⟨x,tm₂,st₂,G₂,he₂,hr₂,hext₂,hq₂⟩,harr₂⟩:=hq c hc B ro G' a₁ w₁ hro hr' f k cs hf
  exact ⟨e₂,a₂,w₂,⟨x,tm₂,st₂,G₂,he₂,hr₂,hext'.trans hext₂,hq₂⟩,.of_steps (StepsIn.trans harr (.one (fenced_calm (n:=0) trivial (sS _) rfl) stepR_inLoop)) harr₂⟩
 ·rw [iy] at hq
  exact ⟨.exit i,a₁,w₁,⟨.exit i,tm',st',G',rfl,hr',hext',hq⟩,.pass (x:=.inLoop c) rfl (fun _ _=>.inl (by simp)) harr⟩
 rw [jl] at hq
 exact ⟨.ret,a₁,w₁,⟨.ret,tm',st',G',trivial,hr',hext',hq⟩,.pass (x:=.inLoop c) rfl (fun _ _=>.inl (by simp)) harr⟩
end


inductive KI where
 | seq (c:aC)
 | blk (id:Nat)
 | lp (b:aC)

structure Cx where
 P:Program
 E:bA
 N:Nat
 mu:Nat→Bool
 res:List RA
 K:AV→aA→Prop
 fin:cn→Fr→aA→Prop

def kQ (X:Cx):List KI→cn→Fr→aA→Prop
 | []=>lR X.E X.res X.K
 | .seq c::k=>jk (XS X.P X.E X.N X.mu c (kQ X k)) (kQ X k)
 | .blk id::k=>jv id (kQ X k)
 | .lp b::k=>jk (XLoop X.P X.E X.N X.mu b (kQ X k)) (kQ X k)

def At (X:Cx) (c:aC) (k:List KI) (tm:Fr) (st:aA):Prop:=XS X.P X.E X.N X.mu c (kQ X k) tm st
section
variable {X:Cx} {k:List KI} {tm tm':Fr} {st:aA}

end


def gS (tm:Fr) (d:Nat) (v:AV):Fr:=fun i=>bif Nat.beq d i then v else tm i

theorem dZ (tm:Fr) (d:Nat) (v:AV):tm.put (.some d) v=gS tm d v:=by
 funext i
 simp only [Fr.put,gS,Option.some.injEq]
 by_cases h:d=i
 ·subst h;simp
 have:Nat.beq d i=false:=by cases e:Nat.beq d i with
  | false=>rfl
  | true=>exact absurd (Nat.eq_of_beq_eq_true e) h
 simp [h,this]
section
variable {X:Cx} {k:List KI} {tm:Fr} {st:aA} {l suf:List bZ} {d:Nat} {st0:aA} {mr r:Nat}

theorem zS {P:Program} {E:bA} {f:FuncId} {ds:List AV} {st:aA} {K:AV→aA→Prop} (h:XCall P E f ds st fun v st'=>v.data=true∧K v.strip st'):XCall P E f ds st K:=fun G w vs hr hs=>
 (h G w vs hr hs).mono fun _ _ ⟨u,r,st',G',h1,h2,h3,h4,h5,h6⟩=>⟨u,r.strip,st',G',h1,fU (fun _ _ _ h=>h) h5 h2,h3,h4,h6⟩
end

theorem zR {P:Program} {E:bA} {mu:Nat→Bool} {f:FuncId} {fn:xN} {ds:List AV} {st:aA} {K:AV→aA→Prop} (hf:au P mu f=some fn) (hl:ds.length≤fn.n)
    (h:At ⟨P,E,fn.n,mu,fn.res,K,lR E fn.res K⟩ fn.body [] (lT ds) st):XCall P E f ds st K:=by
  refine RX hf hl fun c hc=>?_
  have e:lR E fn.res K=(fun e tm st'=>match e with
      | .exit _=>False
      | _=>match fh E tm st' fn.res with
        | some vs=>K (pack vs) st'
        | none=>False):=by
    funext e tm st'
    cases e<;>rfl
  have:=h c hc
  simp only [kQ] at this
  rwa [e] at this
theorem LC {P:Program} {E:bA} {mu:Nat→Bool} {f:FuncId} {fn:xN} {ds:List AV} {r:AV} (hf:au P mu f=some fn) (hl:ds.length≤fn.n)
 (h:At ⟨P,E,fn.n,mu,fn.res,Wa (fun x=>x=r),lR E fn.res (Wa (fun x=>x=r))⟩ fn.body [] (lT ds) []):DFun P E f ds r:=zR hf hl h
end Go.Proofs.YtcidnoghoifmmaaDoor.AW
