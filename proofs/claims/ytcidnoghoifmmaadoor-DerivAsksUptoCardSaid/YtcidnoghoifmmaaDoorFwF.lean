/-
  The abstract walk: what each operation of the program's does is what its plain operation says (second part: comparisons of composites).
-/
import Derived.Test.YtcidnoghoifmmaaDoorFwE
import Derived.ChangeKeysEq
namespace Go.Proofs.YtcidnoghoifmmaaDoor.AW
open Go

def sC (P:Program) (t:TypeId) (us:List Value):Value:=
 if dU P t=some true then .agg us.toArray else us.headD undef

theorem jJ: ∀ {ks:List LK} {xs ys:List AV} {r:Bool},AV.eZ ks xs ys=some r→xs.length=ks.length∧ys.length=ks.length
  | [],xs,ys,r,h=>by
    match xs,ys with
    | [],[]=>exact ⟨rfl,rfl⟩
    | [],_::_=>simp [AV.eZ] at h
    | _::_,_=>simp [AV.eZ] at h
  | k::ks,xs,ys,r,h=>by
    match xs,ys with
    | [],_=>simp [AV.eZ] at h
    | _::_,[]=>simp [AV.eZ] at h
    | x::xs,y::ys=>
      simp only [AV.eZ] at h
      split at h
      · rename_i a b ha hb
        obtain ⟨h1,h2⟩:=jJ hb
        simp [h1,h2]
      cases h
theorem lS: ∀ {ks ls:List LK} {xs ys:List AV} {r:Bool},AV.eZ (ks++ls) xs ys=some r→
    ∃a b,AV.eZ ks (xs.take ks.length) (ys.take ks.length)=some a∧AV.eZ ls (xs.drop ks.length) (ys.drop ks.length)=some b∧r=(a&&b)
  | [],ls,xs,ys,r,h=>⟨true,r,by simp [AV.eZ],by simpa using h,by simp⟩
  | k::ks,ls,xs,ys,r,h=>by
    match xs,ys with
    | [],_=>simp [AV.eZ] at h
    | _::_,[]=>simp [AV.eZ] at h
    | x::xs,y::ys=>
      simp only [List.cons_append,AV.eZ] at h
      split at h
      · rename_i a b ha hb
        cases h
        obtain ⟨c,d,h1,h2,rfl⟩:=lS hb
        exact ⟨a&&c,d,by simp [AV.eZ,ha,h1],by simpa using h2,by simp [Bool.and_assoc]⟩
      cases h
section
variable {P:Program} {G:Gh}

theorem kS {t:TypeId} {n:Nat} (ha:dU P t=some true) (hn:cx P t=some n) (cs:Array Value) (off:Nat) (w:World):
  (part t cs off).run P w= .ok (.agg (cs.extract off (off+n))) w:=by
 simp [part,iN ha,run_sizeOf hn]
theorem kT {t:TypeId} {v:Value} (ha:dU P t=some false) {cs:Array Value} {off:Nat} (h:cs[off]? =some v) (w:World):
  (part t cs off).run P w= .ok v w:=by
 simp [part,iN ha,h]
theorem Dk {d:Nat} {t:TypeId} {ks:List LK} (h:jd P d t=some ks):dU P t=some true∨(dU P t=some false∧ks.length=1):=by
  cases d with
  | zero=>simp [jd] at h
  | succ d=>
    simp only [jd] at h
    unfold dU
    split at h<;>first | (cases h;done) | skip
    all_goals rename_i hu;rw [hu]
    · cases h;exact .inr ⟨rfl,rfl⟩
    · cases h;exact .inr ⟨rfl,rfl⟩
    · cases h;exact .inr ⟨rfl,rfl⟩
    · exact .inl rfl
    exact .inl rfl
theorem extract_toArray (us:List Value) (a n:Nat):us.toArray.extract a (a+n)=((us.drop a).take n).toArray:=by
 apply Array.ext'
 simp
theorem gz {d:Nat} {t:TypeId} {ks:List LK} (h:jd P d t=some ks) (hs:cx P t=some ks.length) {us:List Value} {off:Nat} (hl:off+ks.length≤us.length) (w:World):
  (part t us.toArray off).run P w= .ok (sC P t ((us.drop off).take ks.length)) w:=by
 rcases Dk h with ha | ⟨ha,h1⟩
 ·rw [kS ha hs,extract_toArray]
  simp [sC,ha]
 rw [h1] at hl ⊢
 have hlt:off<us.length:=by omega
 rw [kT ha (v:=us[off]) (by simp [hlt])]
 simp only [sC,ha]
 have:(us.drop off).take 1=[us[off]]:=by
  rw [List.take_one,List.head?_drop]
  simp [hlt]
 rw [this]
 simp
theorem kD: ∀(d:Nat) (t:TypeId) (ks:List LK),jd P d t=some ks→ ∀(xs ys:List AV) (us vs:List Value) (r:Bool),aW G xs us→aW G ys vs→AV.eZ ks xs ys=some r→
    ∀(D:Nat),d≤D→ ∀w,(Op.equalIn D t (sC P t us) (sC P t vs)).run P w= .ok r w
  | 0,t,ks,h=>by simp [jd] at h
  | d+1,t,ks,h=>by
    intro xs ys us vs r hx hy hk D hD w
    obtain ⟨D,rfl⟩: ∃D',D=D'+1:=⟨D-1,by omega⟩
    have one: ∀ {k:LK},AV.eZ [k] xs ys=some r→ ∃x y u v,AV.Rr k x y=some r∧us=[u]∧vs=[v]∧aU G x u∧aU G y v:=by
      intro k hk
      obtain ⟨l1,l2⟩:=jJ hk
      match xs,ys,l1,l2 with
      | [x],[y],_,_=>
        simp only [AV.eZ] at hk
        simp only [aW] at hx hy
        obtain ⟨u,us',rfl,hxu,rfl⟩:=hx
        obtain ⟨v,vs',rfl,hyv,rfl⟩:=hy
        split at hk
        · rename_i a b ha hb
          cases hb
          cases hk
          exact ⟨x,y,u,v,by simpa using ha,rfl,rfl,hxu,hyv⟩
        cases hk
    simp only [jd] at h
    split at h<;>first | (cases h;done) | skip
    · rename_i hu
      cases h
      obtain ⟨x,y,u,v,he,rfl,rfl,hxu,hyv⟩:=one hk
      have ha:dU P t=some false:=by unfold dU;rw [hu]
      cases x<;>cases y<;>simp only [AV.Rr] at he<;>first | (cases he;done) | skip
      simp only [aU] at hxu hyv
      subst hxu;subst hyv
      cases he
      simp only [sC,ha,List.headD_cons]
      exact run_equalIn_bool w D t _ _ hu
    · rename_i k hu
      cases h
      obtain ⟨x,y,u,v,he,rfl,rfl,hxu,hyv⟩:=one hk
      have ha:dU P t=some false:=by unfold dU;rw [hu]
      cases x<;>cases y<;>simp only [AV.Rr] at he<;>first | (cases he;done) | skip
      split at he
      · rename_i hkk
        subst hkk
        simp only [aU] at hxu hyv
        subst hxu;subst hyv
        cases he
        simp only [sC,ha,List.headD_cons]
        exact run_equalIn_int w D t _ _ _ _ hu
      cases he
    · rename_i hu
      cases h
      obtain ⟨x,y,u,v,he,rfl,rfl,hxu,hyv⟩:=one hk
      have ha:dU P t=some false:=by unfold dU;rw [hu]
      cases x<;>cases y<;>simp only [AV.Rr] at he<;>first | (cases he;done) | skip
      simp only [aU] at hxu hyv
      obtain ⟨a,rfl,rfl⟩:=hxu
      obtain ⟨b,rfl,rfl⟩:=hyv
      cases he
      simp only [sC,ha,List.headD_cons]
      refine (run_equalIn_string w D t _ _ hu).trans ?_
      rw [ByteArray.toList_eq,ByteArray.toList_eq]
    · rename_i fs hu
      split at h
      · cases h
      rename_i hst
      have ha:dU P t=some true:=by unfold dU;rw [hu]
      simp only [sC,ha,if_true]
      have hf:P.fieldsOf t=fs:=by simp [Program.fieldsOf,hu]
      rw [run_equalIn_struct w D t _ _ (by rw [hf];exact hu) (by simpa using hst),hf]
      -- the fields,one behind the other
      have key: ∀(l:List Field) (o:Nat) (ls:List LK),iY (jd P d) (cx P) l o=some ls→ ∀(r:Bool),AV.eZ ls (xs.drop o) (ys.drop o)=some r→
          ∀w,(Op.eqFields D us.toArray vs.toArray l).run P w= .ok r w:=by
        intro l
        induction l with
        | nil=>
          intro o ls hl r hr w
          simp only [iY,Option.some.injEq] at hl
          subst hl
          have hr':r=true:=by
            cases hxo:xs.drop o<;>cases hyo:ys.drop o<;>rw [hxo,hyo] at hr<;>simp [AV.eZ] at hr<;>exact hr
          subst hr'
          rfl
        | cons f l ih=>
          intro o ls hl r hr w
          simp only [iY] at hl
          split at hl
          · rename_i fk hfk
            split at hl
            · rename_i hc
              obtain ⟨hn,ho,hpos,hsz⟩:=hc
              simp only [Option.map_eq_some_iff] at hl
              obtain ⟨ls',hl',rfl⟩:=hl
              obtain ⟨a,b,h1,h2,rfl⟩:=lS hr
              obtain ⟨e1,e2⟩:=jJ h1
              simp only [List.length_take,List.length_drop] at e1 e2
              have p1:=gz hfk hsz (us:=us) (off:=o) (by rw [aj hx];omega)
              have p2:=gz hfk hsz (us:=vs) (off:=o) (by rw [aj hy];omega)
              have e:=fun w=>kD d f.type fk hfk _ _ _ _ a (dO fk.length (dN o hx)) (dO fk.length (dN o hy)) h1 D (by omega) w
              simp only [List.drop_drop] at h2
              have ih':=ih (o+fk.length) ls' hl' b h2
              simp only [Op.eqFields,hn,ne_eq,not_false_eq_true,if_true,Sem.run_bind,ho,p1,p2,e,Result.andThen_ok]
              cases a
              · simp
              simpa using ih' w
            cases hl
          cases hl
      exact key fs.toList 0 ks h r (by simpa using hk) w
    rename_i n e hu
    split at h
    · rename_i fk hfk
      split at h
      · rename_i hsz0
        obtain ⟨hpos,hsz⟩:=hsz0
        cases h
        have ha:dU P t=some true:=by unfold dU;rw [hu]
        simp only [sC,ha,if_true]
        have hsz':=hsz
        unfold cx at hsz'
        simp only [Option.map_eq_some_iff] at hsz'
        obtain ⟨i,hi,hsi⟩:=hsz'
        have hc:P.cellsOf e=fk.length:=by simp [Program.cellsOf,hi,hsi]
        rw [run_equalIn_array w D _ _ hu hi,hc]
        have key: ∀(m k:Nat) (r:Bool),AV.eZ (uO fk m) (xs.drop (k*fk.length)) (ys.drop (k*fk.length))=some r→
            ∀w,(Op.eqItems D e fk.length us.toArray vs.toArray (List.range' k m)).run P w= .ok r w:=by
          intro m
          induction m with
          | zero=>
            intro k r hr w
            simp only [uO] at hr
            have hr':r=true:=by
              cases hxo:xs.drop (k*fk.length)<;>cases hyo:ys.drop (k*fk.length)<;>rw [hxo,hyo] at hr<;>simp [AV.eZ] at hr<;>exact hr
            subst hr'
            rfl
          | succ m ih=>
            intro k r hr w
            simp only [uO] at hr
            obtain ⟨a,b,h1,h2,rfl⟩:=lS hr
            obtain ⟨e1,e2⟩:=jJ h1
            simp only [List.length_take,List.length_drop] at e1 e2
            have p1':=gz hfk hsz (us:=us) (off:=k*fk.length) (by rw [aj hx];omega)
            have p2':=gz hfk hsz (us:=vs) (off:=k*fk.length) (by rw [aj hy];omega)
            have ee:=fun w=>kD d e fk hfk _ _ _ _ a (dO fk.length (dN _ hx)) (dO fk.length (dN _ hy)) h1 D (by omega) w
            simp only [List.drop_drop] at h2
            have ih':=ih (k+1) b (by rw [Nat.add_mul,Nat.one_mul];exact h2)
            simp only [List.range'_succ,Op.eqItems,Sem.run_bind,p1',p2',ee,Result.andThen_ok]
            cases a
            · simp
            simpa using ih' w
        rw [List.range_eq_range']
        exact key n 0 r (by simpa using hk) w
      cases h
    cases h
end
end Go.Proofs.YtcidnoghoifmmaaDoor.AW
