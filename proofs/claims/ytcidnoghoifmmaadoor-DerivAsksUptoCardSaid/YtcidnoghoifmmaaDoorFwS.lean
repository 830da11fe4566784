/-
  The abstract walk: statements that draw the order of their operations. (First part: operations that look alone.)
-/
import Derived.Test.YtcidnoghoifmmaaDoorFwQ
namespace Go.Proofs.YtcidnoghoifmmaaDoor.AW
open Go

def AI.xs:AI→List AX
 | .mv x=>[x]
 | .pick c a b=>[c,a,b]
 | .alloc _=>[]
 | .box _ x=>[x]
 | .DW _ x=>[x]
 | .RR _ x lo hi=>x::(lo.toList++hi.toList)
 | .uJ _ _ _ _ ps=>ps.map fun p=>p.2.2
 | .build _ ps=>ps.map fun p=>p.2.2
 | .bE _ _ _ _ ps _=>ps.map fun p=>p.2.2
 | .kg x=>[x]
 | .mo _ x=>[x]
 | .store _ a x=>[a,x]
 | .jg x=>[x]
 | .vz _ x y=>[x,y]
 | .jt _ x y=>[x,y]
 | .xM _ x y=>[x,y]
 | .Aj _ _ x y=>[x,y]
 | .un _ x=>[x]
 | .Ah _ x=>[x]
 | .Me x=>[x]
 | .Wh _ x=>[x]
 | .KA x=>[x]
 | .Vp x lo hi=>x::(lo.toList++hi.toList)
 | .Nq _ x lo hi=>x::(lo.toList++hi.toList)
 | .jK _ x=>[x]
 | .nI _ x=>[x]
 | .wL _ _ x=>[x]
 | .ek _ _ x i=>[x,i]
 | .kG _ x i=>[x,i]
 | .Aq _ _ x i=>[x,i]
 | .LP _ _ x i=>[x,i]
 | .NO x i=>[x,i]
 | .extract x _=>[x]
 | .qt x=>[x]
 | .len x=>[x]
 | .Dl _=>[]
 | .app _ _ x y=>[x,y]
 | .qj _ _ _ x y=>[x,y]
 | .ng _ _ x y=>[x,y]
 | .max xs=>xs
 | .min xs=>xs
 | .mZ _ xs=>xs
 | .jM _ _ _ l c _=>[l,c]
 | .CI x=>[x]
 | .fI _=>[]
 | .cu _ m k x=>[m,k,x]
 | .lookup _ _ _ m k=>[m,k]
 | .La x=>[x]
 | .nD _ _ _=>[]
 | .Rt x c=>[x,c]

theorem ff {tm tm':Fr} {total:Nat}: ∀ {ps:List (Nat × Nat × AX)},(∀x∈ps.map (fun p=>p.2.2),tm.x x=tm'.x x)→bY total ps tm=bY total ps tm'
  | [],_=>rfl
  | (o,s,x)::ps,h=>by
    have h1:=h x (by simp)
    have h2:=ff (total:=total) (ps:=ps) fun y hy=>h y (by simp at hy ⊢;exact .inr hy)
    simp only [bY,h1,h2]
theorem eval_congr {E:bA} {tm tm':Fr} {st:aA} {i:AI} (h: ∀x∈i.xs,tm.x x=tm'.x x):aE E tm st i=aE E tm' st i:=by
 have ob: ∀ {o:Option AX} {d:Nat},(∀x∈o.toList,tm.x x=tm'.x x)→bound (o.map tm.x) d=bound (o.map tm'.x) d:=by
  intro o d ho
  cases o with
  | none=>rfl
  | some x=>simp only [Option.map_some];rw [ho x (by simp)]
 cases i<;>simp only [AI.xs,List.mem_cons,List.not_mem_nil,or_false,forall_eq_or_imp,forall_eq,List.mem_append] at h
 case build z ps=>simp only [aE];rw [ff h]
 case bE es len ag z ps mu=>simp only [aE];rw [ff h]
 case uJ es len ag z ps=>simp only [aE];rw [ff h]
 case Vp x lo hi=>
  simp only [aE]
  rw [h.1,ob fun y hy=>h.2 y (.inl hy)]
  cases tm'.x x<;>simp only []
  rw [ob fun y hy=>h.2 y (.inr hy)]
 case RR es x lo hi=>
  have hb: ∀d,bound (hi.map tm.x) d=bound (hi.map tm'.x) d:=fun d=>ob fun y hy=>h.2 y (.inr hy)
  simp only [aE,h.1,hb]
 case Nq es x lo hi=>
  simp only [aE]
  rw [h.1,ob fun y hy=>h.2 y (.inl hy)]
  cases tm'.x x<;>simp only []
  all_goals rw [ob fun y hy=>h.2 y (.inr hy)]
 case max xs=>simp only [aE];rw [List.map_congr_left h]
 case min xs=>simp only [aE];rw [List.map_congr_left h]
 case mZ f xs=>simp only [aE];rw [List.map_congr_left h]
 all_goals simp only [aE,h]
def AI.still:AI→Bool
 | .nD _ _ _=>false
 | .alloc _=>false
 | .box _ _=>false
 | .bE _ _ _ _ _ _=>false
 | .store _ _ _=>false
 | .Wh _ _=>false
 | .app _ _ _ _=>false
 | .qj _ _ _ _ _=>false
 | .ng _ _ _ _=>false
 | .jM _ _ _ _ _ _=>false
 | .fI _=>false
 | .cu _ _ _ _=>false
 | .CI _=>false
 | .RR _ _ _ _=>false
 | _=>true

def cz.live:cz→Bool
 | .dead=>false
 | .hid=>false
 | .bB=>false
 | _=>true

structure Agree (st st2:aA):Prop where
 l: ∀(i:Nat) (o:cz),st[i]? =some o→o.live=true→st2[i]? =some o
 hid: ∀i:Nat,st[i]? =some .hid→ ∃cs,st2[i]? =some (.cells cs)

theorem fQ {st st2:aA} {id:Nat} (hA:Agree st st2) (h:alive st id=true):alive st2 id=true:=by
 unfold alive at h ⊢
 split at h
 ·rename_i cs hc;rw [hA.l _ _ hc rfl]
 ·rename_i hc;obtain ⟨cs,h'⟩:=hA.hid _ hc;rw [h']
 cases h
theorem lI {E:bA} {st:aA} {n:Nat} {v:AV} {cs:List AV} {st2:aA} (hA:Agree st st2) (h:cq E st n v=some cs):cq E st2 n v=some cs:=by
 unfold cq at h ⊢
 split at h
 ·split at h
  ·rename_i hc
   simp only [hA.l _ _ hc rfl]
   exact h
  cases h
 ·exact h
 ·exact h
 cases h
theorem sR {st:aA} {v:AV} {xs:List AV} {st2:aA} (hA:Agree st st2) (h:jI st v=some xs):jI st2 v=some xs:=by
 unfold jI at h ⊢
 split at h
 ·exact h
 ·exact h
 ·split at h
  ·rename_i hc
   simp only [hA.l _ _ hc rfl]
   exact h
  cases h
 cases h
theorem Dg {E:bA} {tm:Fr} {st:aA} {i:AI} {v:AV} {st':aA} {st2:aA} (hA:Agree st st2) (hs:i.still=true) (h:aE E tm st i=some (v,st')):st'=st∧aE E tm st2 i=some (v,st2):=by
 cases i<;>simp only [AI.still,Bool.false_eq_true] at hs
 case mv x=>simp only [aE] at h ⊢;cases h;exact ⟨rfl,rfl⟩
 case Rt x c=>
  simp only [aE] at h ⊢
  split at h
  ·cases h;exact ⟨rfl,rfl⟩
  cases h
 case pick c a b=>
  simp only [aE] at h ⊢
  split at h
  ·cases h;exact ⟨rfl,rfl⟩
  cases h
 case uJ es len ag z ps=>
  simp only [aE] at h ⊢
  split at h
  ·split at h
   ·rename_i hc;cases h;exact ⟨rfl,if_pos hc⟩
   cases h
  cases h
 case DW n x=>
  simp only [aE] at h ⊢
  split at h
  ·rename_i hc;cases h;exact ⟨rfl,if_pos hc⟩
  cases h
 case build z ps=>
  simp only [aE] at h ⊢
  split at h
  ·cases h;exact ⟨rfl,rfl⟩
  cases h
 case kg x=>
  simp only [aE] at h ⊢
  split at h
  ·rename_i cs hc
   cases h
   rw [lI hA hc]
   exact ⟨rfl,rfl⟩
  cases h
 case mo n x=>
  simp only [aE] at h ⊢
  split at h
  ·rename_i cs hc
   cases h
   rw [lI hA hc]
   exact ⟨rfl,rfl⟩
  cases h
 case jg x=>
  simp only [aE] at h ⊢
  split at h<;>first | (cases h;done) | skip
  ·split at h
   ·rename_i hal;cases h;rw [fQ hA hal];exact ⟨rfl,rfl⟩
   cases h
  all_goals (cases h;exact ⟨rfl,rfl⟩)
 case vz op x y=>
  simp only [aE] at h ⊢
  split at h
  ·simp only [Option.map_eq_some_iff] at h ⊢
   obtain ⟨r,hr,he⟩:=h
   cases he
   exact ⟨rfl,_,hr,rfl⟩
  cases h
 case jt op x y=>
  simp only [aE] at h ⊢
  split at h
  ·simp only [Option.map_eq_some_iff] at h ⊢
   obtain ⟨r,hr,he⟩:=h
   cases he
   exact ⟨rfl,_,hr,rfl⟩
  cases h
 case xM n x y=>
  simp only [aE] at h ⊢
  split at h
  ·cases h;exact ⟨rfl,rfl⟩
  cases h
 case Aj n ks x y=>
  simp only [aE] at h ⊢
  split at h
  ·split at h
   ·cases h;exact ⟨rfl,rfl⟩
   cases h
  cases h
 case un op x=>
  simp only [aE] at h ⊢
  split at h<;>first | (cases h;done) | skip
  all_goals (cases h;exact ⟨rfl,rfl⟩)
 case Ah k x=>
  simp only [aE] at h ⊢
  split at h
  ·cases h;exact ⟨rfl,rfl⟩
  cases h
 case Me x=>
  simp only [aE] at h ⊢
  split at h
  ·cases h;exact ⟨rfl,rfl⟩
  cases h
 case KA x=>
  simp only [aE] at h ⊢
  split at h
  ·rename_i xs hx
   rw [sR hA hx]
   simp only
   split at h
   ·cases h;exact ⟨rfl,rfl⟩
   cases h
  cases h
 case Vp x lo hi=>
  simp only [aE] at h ⊢
  split at h
  ·split at h
   ·split at h
    ·rename_i hc;cases h;rw [if_pos hc];exact ⟨rfl,rfl⟩
    cases h
   cases h
  cases h
 case Nq es x lo hi=>
  simp only [aE] at h ⊢
  split at h<;>first | (cases h;done) | skip
  ·split at h
   ·split at h
    ·rename_i hc;cases h;rw [if_pos hc];exact ⟨rfl,rfl⟩
    cases h
   cases h
  ·split at h
   ·cases h;exact ⟨rfl,rfl⟩
   cases h
  split at h
  ·split at h
   ·rename_i hc;cases h;rw [if_pos ⟨fQ hA hc.1,hc.2⟩];exact ⟨rfl,rfl⟩
   cases h
  cases h
 case jK off x=>
  simp only [aE] at h ⊢
  split at h<;>first | (cases h;done) | skip
  ·split at h
   ·rename_i hal;cases h;rw [fQ hA hal];exact ⟨rfl,rfl⟩
   cases h
  all_goals (cases h;exact ⟨rfl,rfl⟩)
 case nI off x=>
  simp only [aE] at h ⊢
  split at h
  ·split at h
   ·cases h;exact ⟨rfl,rfl⟩
   cases h
  cases h
 case wL off n x=>
  simp only [aE] at h ⊢
  split at h
  ·split at h
   ·rename_i hc;cases h;rw [if_pos hc];exact ⟨rfl,rfl⟩
   cases h
  cases h
 case ek len es x j=>
  simp only [aE] at h ⊢
  split at h
  ·split at h
   ·rename_i hc
    rw [if_pos hc]
    split at h<;>first | (cases h;done) | skip
    ·split at h
     ·rename_i hal;cases h;rw [fQ hA hal];exact ⟨rfl,rfl⟩
     cases h
    all_goals (cases h;exact ⟨rfl,rfl⟩)
   cases h
  cases h
 case kG es x j=>
  simp only [aE] at h ⊢
  split at h
  ·split at h<;>first | (cases h;done) | skip
   ·split at h
    ·rename_i hc
     rw [if_pos hc]
     split at h
     ·cases h;exact ⟨rfl,rfl⟩
     cases h
    cases h
   split at h
   ·rename_i hc;cases h;rw [if_pos ⟨fQ hA hc.1,hc.2⟩];exact ⟨rfl,rfl⟩
   cases h
  cases h
 case Aq len es x j=>
  simp only [aE] at h ⊢
  split at h
  ·split at h
   ·rename_i hc
    rw [if_pos hc]
    split at h
    ·cases h;exact ⟨rfl,rfl⟩
    cases h
   cases h
  cases h
 case LP len es x j=>
  simp only [aE] at h ⊢
  split at h
  ·split at h
   ·rename_i hc;cases h;rw [if_pos hc];exact ⟨rfl,rfl⟩
   cases h
  cases h
 case NO x j=>
  simp only [aE] at h ⊢
  split at h
  ·split at h
   ·rename_i hc
    rw [if_pos hc]
    split at h
    ·cases h;exact ⟨rfl,rfl⟩
    cases h
   cases h
  cases h
 case extract x j=>
  simp only [aE] at h ⊢
  split at h
  ·split at h
   ·cases h;exact ⟨rfl,rfl⟩
   cases h
  cases h
 case qt x=>
  simp only [aE] at h ⊢
  split at h
  ·cases h;exact ⟨rfl,rfl⟩
  cases h
 case len x=>
  simp only [aE] at h ⊢
  split at h<;>first | (cases h;done) | skip
  ·cases h;exact ⟨rfl,rfl⟩
  ·cases h;exact ⟨rfl,rfl⟩
  split at h
  ·rename_i hal;cases h;rw [fQ hA hal];exact ⟨rfl,rfl⟩
  cases h
 case Dl n=>simp only [aE] at h ⊢;cases h;exact ⟨rfl,rfl⟩
 case max xs=>
  simp only [aE,Option.map_eq_some_iff] at h ⊢
  obtain ⟨r,hr,he⟩:=h
  cases he
  exact ⟨rfl,_,hr,rfl⟩
 case min xs=>
  simp only [aE,Option.map_eq_some_iff] at h ⊢
  obtain ⟨r,hr,he⟩:=h
  cases he
  exact ⟨rfl,_,hr,rfl⟩
 case mZ f xs=>simp only [aE] at h ⊢;cases h;exact ⟨rfl,rfl⟩
 case lookup kd z ok m k=>
  simp only [aE] at h ⊢
  split at h
  ·rename_i f c hm hk
   cases h
   have:mapOf kd st2 (tm.x m)=some f:=by
    unfold mapOf at hm ⊢
    split at hm
    ·exact hm
    ·split at hm
     ·rename_i hc
      simp only [hA.l _ _ hc rfl]
      exact hm
     cases hm
    cases hm
   simp only [this,hk]
   first | exact ⟨rfl,rfl⟩ | exact ⟨trivial,rfl⟩ | trivial
  cases h
 case La x=>
  simp only [aE] at h ⊢
  split at h
  ·cases h;exact ⟨rfl,rfl⟩
  ·split at h
   ·rename_i hc
    cases h
    simp only [hA.l _ _ hc rfl]
    first | exact ⟨rfl,rfl⟩ | exact ⟨trivial,rfl⟩ | trivial
   cases h
  cases h
end Go.Proofs.YtcidnoghoifmmaaDoor.AW
