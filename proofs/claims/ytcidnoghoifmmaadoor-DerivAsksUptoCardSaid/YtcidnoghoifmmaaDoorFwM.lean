/-
  The abstract walk: what each operation of the program's does is what its plain operation says: all of them.
-/
import Derived.Test.YtcidnoghoifmmaaDoorFwL
namespace Go.Proofs.YtcidnoghoifmmaaDoor.AW
open Go

section
variable {P:Program} {E:bA} {G:Gh} {st:aA} {w:World}

theorem BY {ts:Array TypeId} {t ty:TypeId} {s:List UInt8} {u:Value} (hs:aG E G st w) (hr:aU G (.str s) u) (ht0:ts[0]? =some t) (ht:P.underlying t=some .string):
  bN P E (Builtin.len_ ts ty #[u]) w G (.int .i64 s.length) st:=by
 simp only [aU] at hr
 obtain ⟨b,rfl,rfl⟩:=hr
 have hsz:b.data.toList.length=b.size:=Array.length_toList
 refine bN.same hs (u:=.int .i64 b.size) (by simp [Builtin.len_,ht0,run_underlying ht,goInt]) ?_
 rw [hsz];exact gO _ _
theorem EE {ts:Array TypeId} {t ty e:TypeId} {v r:AV} {u:Value} (hs:aG E G st w) (hr:aU G v u) (ht0:ts[0]? =some t) (ht:P.underlying t=some (.slice e))
  (h:(match (generalizing:=false) v with
   | .aP=>some (AV.int .i64 0)
   | .sl _ xs _=>some (.int .i64 xs.length)
   | .row id _ _ n=>if alive st id then some (.int .i64 n) else none
   | _=>none)=some r):bN P E (Builtin.len_ ts ty #[u]) w G r st:=by
 have hsl: ∀a n c,(Builtin.len_ ts ty #[.slice a n c]).run P w= .ok (.int .i64 n) w:=by
  intro a n c
  simp [Builtin.len_,ht0,run_underlying ht,goInt]
 cases v<;>simp only [reduceCtorEq] at h
 case aP=>
  cases h
  simp only [aU] at hr
  subst hr
  exact bN.same hs (hsl _ _ _) (gO _ _)
 case sl es xs tok=>
  cases h
  simp only [aU] at hr
  obtain ⟨b,o,c,_,_,_,_,_,rfl⟩:=hr
  exact bN.same hs (hsl _ _ _) (gO _ _)
 case row id es off n=>
  split at h
  ·rename_i hal
   cases h
   obtain ⟨b,hb⟩:=gZ hs hal
   simp only [aU,hb] at hr
   obtain ⟨c,_,_,_,_,_,rfl⟩:=hr
   exact bN.same hs (hsl _ _ _) (gO _ _)
  cases h
theorem sq: ∀(n:Nat) (vs:List AV) (us:List Value) (v:AV),vs.length=n→aW G vs us→BD vs=some v→ ∃x rest u,us=x::rest∧(rest.foldlM Builtin.max2 x).run P w= .ok u w∧aU G v u
  | 0,vs,us,v,hn,hr,h=>by
    have:vs=[]:=List.eq_nil_of_length_eq_zero hn
    subst this
    simp [BD] at h
  | n+1,vs,us,v,hn,hr,h=>by
    match vs,hn with
    | [x],_=>
      simp only [BD,Option.some.injEq] at h
      subst h
      simp only [aW] at hr
      obtain ⟨u,us',rfl,hu,rfl⟩:=hr
      exact ⟨u,[],u,rfl,by simp,hu⟩
    | x::y::rest,hn=>
      unfold BD at h
      split at h<;>first | (cases h;done) | skip
      · rename_i heq;cases heq
      rename_i heq
      cases heq
      simp only [aW,aU] at hr
      obtain ⟨_,_,rfl,rfl,_,_,rfl,rfl,hr⟩:=hr
      obtain ⟨x',rest',u,he,hrun,hu⟩:=sq n _ _ v (by simpa using hn) (by simp only [aW,aU];exact ⟨_,_,rfl,rfl,hr⟩) h
      cases he
      exact ⟨_,_,u,rfl,by simp only [List.foldlM_cons,Builtin.max2,pure_bind];exact hrun,hu⟩
theorem sv: ∀(n:Nat) (vs:List AV) (us:List Value) (v:AV),vs.length=n→aW G vs us→BE vs=some v→ ∃x rest u,us=x::rest∧(rest.foldlM Builtin.min2 x).run P w= .ok u w∧aU G v u
  | 0,vs,us,v,hn,hr,h=>by
    have:vs=[]:=List.eq_nil_of_length_eq_zero hn
    subst this
    simp [BE] at h
  | n+1,vs,us,v,hn,hr,h=>by
    match vs,hn with
    | [x],_=>
      simp only [BE,Option.some.injEq] at h
      subst h
      simp only [aW] at hr
      obtain ⟨u,us',rfl,hu,rfl⟩:=hr
      exact ⟨u,[],u,rfl,by simp,hu⟩
    | x::y::rest,hn=>
      unfold BE at h
      split at h<;>first | (cases h;done) | skip
      · rename_i heq;cases heq
      rename_i heq
      cases heq
      simp only [aW,aU] at hr
      obtain ⟨_,_,rfl,rfl,_,_,rfl,rfl,hr⟩:=hr
      obtain ⟨x',rest',u,he,hrun,hu⟩:=sv n _ _ v (by simpa using hn) (by simp only [aW,aU];exact ⟨_,_,rfl,rfl,hr⟩) h
      cases he
      exact ⟨_,_,u,rfl,by simp only [List.foldlM_cons,Builtin.min2,pure_bind];exact hrun,hu⟩
def ec (P:Program) (E:bA) (s:Sem Next) (w:World) (G:Gh) (v:AV) (st':aA):Prop:=
 ∃u w' G',(s.run P w= .ok (.value u) w'∨(s.run P w= .ok .skip w'∧u=undef))∧aU G' v u∧aG E G' st' w'∧Ext G w G' w'

theorem bN.op {s:Sem Value} {v:AV} {st':aA} (h:bN P E s w G v st'):ec P E (do pure (Next.value (←s))) w G v st':=by
 obtain ⟨u,w',G',hr,h1,h2,h3⟩:=h
 exact ⟨u,w',G',.inl (by simp [hr]),h1,h2,h3⟩
end
end Go.Proofs.YtcidnoghoifmmaaDoor.AW
