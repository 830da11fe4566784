/-
  The abstract walk: an operation of the program's, run, does what its plain operation says.
-/
import Derived.Test.YtcidnoghoifmmaaDoorFwX
namespace Go.Proofs.YtcidnoghoifmmaaDoor.AW
open Go

section
variable {P:Program} {E:bA} {G:Gh} {st:aA} {w:World}

theorem ec.value {s:Sem Next} {u:Value} {v:AV} (hs:aG E G st w) (h:s.run P w= .ok (.value u) w) (hr:aU G v u):ec P E s w G v st:=
 ⟨u,w,G,.inl h,hr,hs,Ext.refl G w⟩
theorem zJ {v r:AV} {u:Value} (hs:aG E G st w) (hr:aU G v u)
  (h:(match (generalizing:=false) v with
   | .ptr id off=>if alive st id then some (AV.ptr id off) else none
   | .aQ cs=>some (.aQ cs)
   | .fV g off=>some (.fV g off)
   | .fn f caps=>some (.fn f caps)
   | _=>none)=some r) (ρ :Operand→Value) (x:Operand) (hx: ρ x=u) (o:Oper) (ho:o.op= .nilCheck x):ec P E (execOp ρ o) w G r st:=by
 have hexec: ∀a,u= .pointer (some a)→(execOp ρ o).run P w= .ok (.value u) w:=by
  intro a ha
  simp [execOp,ho,hx,ha]
 cases v<;>simp only [reduceCtorEq] at h
 case ptr id off=>
  split at h
  ·rename_i hal
   cases h
   obtain ⟨b,hb⟩:=gZ hs hal
   have hr':=hr
   simp only [aU,hb] at hr'
   exact ec.value hs (hexec _ hr') hr
  cases h
 case aQ cs=>
  cases h
  have hr':=hr
  simp only [aU] at hr'
  obtain ⟨b,o,us,_,_,rfl⟩:=hr'
  exact ec.value hs (hexec _ rfl) hr
 case fV g off=>
  cases h
  have hr':=hr
  simp only [aU] at hr'
  exact ec.value hs (hexec _ hr') hr
 case fn f caps=>
  cases h
  have hr':=hr
  simp only [aU] at hr'
  obtain ⟨us,_,rfl⟩:=hr'
  refine ec.value hs (u:=.func (.func f) #[] us.toArray) ?_ hr
  simp [execOp,ho,hx]
theorem uK {op:BinOp} {t:TypeId} {x y:Operand} {ax ay:AX} {ai:AI} {tm:Fr} {a:Act} {v:AV} {st':aA} (hs:aG E G st w) (hf:er G tm a) (hx:cX x=some ax) (hy:cX y=some ay)
  (hc:nr P op t ax ay=some ai) (he:aE E tm st ai=some (v,st')):
  bN P E (do eqGuard op t x y (a.eval x) (a.eval y);binOp op t (a.eval x) (a.eval y)) w G v st':=by
 have rx:=bV hf hx
 have ry:=bV hf hy
 have agg: ∀(ks:List LK) (neg:Bool),jd P 20 t=some ks→P.eqGuardType P.depth t=false→(P.underlying t).isSome=true→op=(if neg then .neq else .eql)→dU P t=some true→
   aE E tm st (.Aj neg ks ax ay)=some (v,st')→bN P E (do eqGuard op t x y (a.eval x) (a.eval y);binOp op t (a.eval x) (a.eval y)) w G v st':=by
  intro ks neg hl hg _ hop hag he
  simp only [aE] at he
  split at he<;>first | (cases he;done) | skip
  rename_i as bs ha hb
  split at he
  ·rename_i r hk
   cases he
   rw [ha] at rx
   rw [hb] at ry
   simp only [aU] at rx ry
   obtain ⟨us,hu,ex⟩:=rx
   obtain ⟨vs,hv,ey⟩:=ry
   have:=kD 20 t ks hl as bs us vs r hu hv hk 10000 (by omega) w
   simp only [sC,hag,if_true] at this
   rw [ex,ey]
   refine bN.same hs (u:=.bool (r != neg)) ?_ (mD _)
   subst hop
   cases neg
   ·simp only [Bool.false_eq_true,if_false,Sem.run_bind,run_eqGuard_agg w .eql t x y us.toArray vs.toArray hg,Result.andThen_ok,run_eql_struct,this]
    cases r<;>rfl
   simp only [if_true,Sem.run_bind,run_eqGuard_agg w .neq t x y us.toArray vs.toArray hg,Result.andThen_ok,run_neq_struct,this]
   cases r<;>rfl
  cases he
 unfold nr at hc
 split at hc
 ·cases hc
  simp only [aE] at he
  split at he
  ·rename_i k a' k' b' ha hb
   simp only [Option.map_eq_some_iff] at he
   obtain ⟨r,hr,he⟩:=he
   cases he
   rw [ha] at rx
   rw [hb] at ry
   simp only [aU] at rx ry
   rw [rx,ry]
   exact uS hs hr
  cases he
 ·cases hc
  simp only [aE] at he
  split at he
  ·rename_i a' b' ha hb
   simp only [Option.map_eq_some_iff] at he
   obtain ⟨r,hr,he⟩:=he
   cases he
   rw [ha] at rx
   rw [hb] at ry
   simp only [aU] at rx ry
   obtain ⟨p,rfl,ep⟩:=rx
   obtain ⟨q,rfl,eq⟩:=ry
   rw [ep,eq]
   exact uT hs hr
  cases he
 ·rename_i hu
  have eqb: ∀neg:Bool,op=(if neg then .neq else .eql)→aE E tm st (.xM neg ax ay)=some (v,st')→bN P E (do eqGuard op t x y (a.eval x) (a.eval y);binOp op t (a.eval x) (a.eval y)) w G v st':=by
   intro neg hop he
   simp only [aE] at he
   split at he
   ·rename_i a' b' ha hb
    cases he
    rw [ha] at rx
    rw [hb] at ry
    simp only [aU] at rx ry
    rw [rx,ry,hop]
    exact EC hs hu
   cases he
  split at hc
  ·cases hc;exact eqb false rfl he
  ·cases hc;exact eqb true rfl he
  cases hc
 ·rename_i fs hu
  split at hc
  ·cases hc
  rename_i hg
  have hag:dU P t=some true:=by unfold dU;rw [hu]
  split at hc
  ·rename_i ks hl
   split at hc
   ·cases hc;exact agg ks false hl (by simpa using hg) (by simp [hu]) rfl hag he
   ·cases hc;exact agg ks true hl (by simpa using hg) (by simp [hu]) rfl hag he
   cases hc
  cases hc
 ·rename_i n e hu
  split at hc
  ·cases hc
  rename_i hg
  have hag:dU P t=some true:=by unfold dU;rw [hu]
  split at hc
  ·rename_i ks hl
   split at hc
   ·cases hc;exact agg ks false hl (by simpa using hg) (by simp [hu]) rfl hag he
   ·cases hc;exact agg ks true hl (by simpa using hg) (by simp [hu]) rfl hag he
   cases hc
  cases hc
 cases hc
theorem lK {c:Call} {ty:TypeId} {ai:AI} {tm:Fr} {a:Act} {v:AV} {st':aA} (hs:aG E G st w) (hf:er G tm a)
    {mu:Bool} (hc:ja P mu c=some ai) (he:aE E tm st ai=some (v,st')) (o:Oper) (ho:o.op= .call c) (hty:o.type=ty):
    ec P E (execOp a.eval o) w G v st':=by
  have exec: ∀(b:Builtin) (xs:List AX),c.callee= .builtin b→c.args.toList.mapM cX=some xs→ ∃us:List Value,aW G (xs.map tm.x) us∧execOp a.eval o=builtin b c.argTypes ty (c.args.map fun | .const _=>true | _=>false) us.toArray:=by
    intro b xs hb hxs
    have:=iZ hf hxs
    refine ⟨_,this,?_⟩
    simp only [execOp,ho,resolve,hb,pure_bind,invoke,hty]
    congr 1
    apply Array.ext'
    simp
  unfold ja at hc
  split at hc
  · rename_i x hb hx
    obtain ⟨us,hus,hex⟩:=exec _ _ hb hx
    simp only [List.map_cons,List.map_nil,aW] at hus
    obtain ⟨u,_,rfl,hu,rfl⟩:=hus
    rw [hex]
    split at hc
    · rename_i hu0
      cases hc
      simp only [Option.bind_eq_some_iff] at hu0
      obtain ⟨t,ht0,ht⟩:=hu0
      simp only [aE] at he
      split at he
      · rename_i s hsx
        cases he
        rw [hsx] at hu
        exact bN.op (BY hs hu ht0 ht)
      cases he
    · rename_i e hu0
      cases hc
      simp only [Option.bind_eq_some_iff] at hu0
      obtain ⟨t,ht0,ht⟩:=hu0
      simp only [aE] at he
      have: ∃r,(match tm.x x with
        | .aP=>some (AV.int .i64 0)
        | .sl _ xs _=>some (.int .i64 xs.length)
        | .row id _ _ n=>if alive st id then some (.int .i64 n) else none
        | _=>none)=some r∧v=r∧st'=st:=by
        split at he<;>first | (cases he;done) | skip
        · rename_i h;cases he;exact ⟨_,by rw [h],rfl,rfl⟩
        · rename_i h;cases he;exact ⟨_,by rw [h],rfl,rfl⟩
        rename_i h
        split at he
        · rename_i hal;cases he;exact ⟨_,by rw [h];simp [hal],rfl,rfl⟩
        cases he
      obtain ⟨r,hr,rfl,rfl⟩:=this
      exact bN.op (EE hs hu ht0 ht hr)
    · rename_i n e hu0
      cases hc
      simp only [Option.bind_eq_some_iff] at hu0
      obtain ⟨t,ht0,ht⟩:=hu0
      simp only [aE] at he
      cases he
      exact bN.op (bN.same hs (u:=.int .i64 n) (by simp [Builtin.len_,ht0,run_underlying ht,goInt]) (gO _ _))
    · rename_i kt et hu0
      cases hc
      simp only [Option.bind_eq_some_iff] at hu0
      obtain ⟨t,ht0,ht⟩:=hu0
      simp only [aE] at he
      have: ∃r,(match tm.x x with
        | .lZ=>some (AV.int .i64 0)
        | .mp id=>(match st[id]? with
          | some (.map _ _ n)=>some (.int .i64 n)
          | _=>none)
        | _=>none)=some r∧v=r∧st'=st:=by
        split at he<;>first | (cases he;done) | skip
        · rename_i h;cases he;exact ⟨_,by rw [h],rfl,rfl⟩
        rename_i h
        split at he
        · rename_i hm;cases he;exact ⟨_,by rw [h];simp [hm],rfl,rfl⟩
        cases he
      obtain ⟨r,hr,rfl,rfl⟩:=this
      exact bN.op (BX hs hu ht0 ht hr)
    cases hc
  · rename_i xs hb hx
    cases hc
    obtain ⟨us,hus,hex⟩:=exec _ _ hb hx
    simp only [aE,Option.map_eq_some_iff] at he
    obtain ⟨r,hr,he⟩:=he
    cases he
    rw [hex]
    obtain ⟨x,rest,u,rfl,hrun,hu⟩:=sq (P:=P) (w:=w) _ _ _ _ rfl hus hr
    exact bN.op (bN.same hs (by simp only [Builtin.max_];exact hrun) hu)
  · rename_i xs hb hx
    cases hc
    obtain ⟨us,hus,hex⟩:=exec _ _ hb hx
    simp only [aE,Option.map_eq_some_iff] at he
    obtain ⟨r,hr,he⟩:=he
    cases he
    rw [hex]
    obtain ⟨x,rest,u,rfl,hrun,hu⟩:=sv (P:=P) (w:=w) _ _ _ _ rfl hus hr
    exact bN.op (bN.same hs (by simp only [Builtin.min_];exact hrun) hu)
  · rename_i x y hb hx
    obtain ⟨us,hus,hex⟩:=exec _ _ hb hx
    simp only [List.map_cons,List.map_nil,aW] at hus
    obtain ⟨u,_,rfl,hu,y',_,rfl,hy,rfl⟩:=hus
    rw [hex]
    have main: ∀(e:TypeId) (i:TypeInfo) (t t':TypeId),c.argTypes[0]? =some t→c.argTypes[1]? =some t'→P.underlying t=some (.slice e)→((∃f,P.underlying t'=some (.slice f))∨P.underlying t'=some .string)→
        P.info? e=some i→0<i.size→0<i.bytes→(zeroOf P e).isSome=true→ ∀b:Bool,aE E tm st (if b then .qj e i.size i.bytes x y else .app i.size i.bytes x y)=some (v,st')→
        ec P E (builtin .append c.argTypes ty (c.args.map fun | .const _=>true | _=>false) #[u,y']) w G v st':=by
      intro e i t t' h0 h1 ht ht' hi hsz hby hz b he
      obtain ⟨zs,hz⟩:=Option.isSome_iff_exists.1 hz
      obtain ⟨i',z,hi',z1,z2,_,_⟩:=ez hz
      rw [hi] at hi';cases hi'
      have hrun2: ∀s q,(Builtin.append_ c.argTypes ty #[s,q]).run P w=(Builtin.append_ #[t,t'] ty #[s,q]).run P w:=by
        intro s q
        simp only [Builtin.append_,h0,h1]
        rfl
      have T:vR P #[t,t'] e i z:=⟨⟨t,t',rfl,ht,ht'⟩,hi,z1,z2,hsz,hby⟩
      have lift: ∀ {s q:Value} {r:AV} {st2:aA},bN P E (Builtin.append_ #[t,t'] ty #[s,q]) w G r st2→bN P E (Builtin.append_ c.argTypes ty #[s,q]) w G r st2:=by
        rintro s q r st2 ⟨u,w',G',hr,rest⟩
        exact ⟨u,w',G',(hrun2 s q).trans hr,rest⟩
      cases b with
      | false=>
        simp only [Bool.false_eq_true,if_false,aE] at he
        split at he
        · rename_i ys hys
          obtain ⟨S⟩:=AS hs hy hys
          split at he
          · rename_i hxn
            rw [hxn] at hu
            simp only [aU] at hu
            subst hu
            split at he
            · cases he
              have hn0:S.news=[]:=List.eq_nil_of_length_eq_zero (by simpa using S.len)
              have hrd:=S.read
              rw [hn0] at hrd
              refine bN.op (lift (bN.same hs (kP T S.lenOf (by simpa using hrd)) (by simp only [aU])))
            split at he
            · rename_i hfit
              cases he
              exact bN.op (lift (mz T hs S (by simp) hfit))
            cases he
          · rename_i es' xs id hxs
            split at he
            · rename_i n hst
              split at he
              · rename_i hcond
                obtain ⟨rfl,rfl,hfit⟩:=hcond
                cases he
                rw [hxs] at hu
                exact bN.op (lift (kV T hs hu (fun _ h=>by cases h) hst S hfit))
              cases he
            cases he
          · rename_i id es' off len hxs
            split at he
            · rename_i cs hst
              split at he
              · rename_i hcond
                obtain ⟨rfl,rfl,hlen,hone,hfit⟩:=hcond
                cases he
                rw [hxs] at hu
                obtain ⟨G1,s1,x1,r1⟩:=sV hs hu hst hlen hsz hone
                have hxl:((chunks i.size len cs).map (cC (!(i.size==1)))).length=len:=by simp [nF]
                have hto:(st.set id .dead++[cz.tail len])[st.length]? =some (.tail ((chunks i.size len cs).map (cC (!(i.size==1)))).length):=by
                  rw [hxl,List.getElem?_append_right (by simp)];simp
                obtain ⟨u2,w2,G2,k1,k2,k3,k4⟩:=kV T s1 r1 (fun _ h=>by cases h) hto (S.mono x1.g) (by rw [hxl];exact hfit)
                have est:(st.set id .dead++[cz.tail len]).set st.length (.tail (((chunks i.size len cs).map (cC (!(i.size==1)))).length+ys.length))=st.set id .dead++[.tail (len+ys.length)]:=by
                  have h5:=og (cz.tail len) (.tail (len+ys.length)) (st.set id .dead)
                  rw [List.length_set] at h5
                  rw [hxl];exact h5
                rw [est] at k3
                exact bN.op (lift ⟨u2,w2,G2,k1,k2,k3,x1.trans k4⟩)
              cases he
            cases he
          cases he
        cases he
      | true=>
        simp only [if_true,aE] at he
        split at he
        · rename_i ys hys
          obtain ⟨S⟩:=AS hs hy hys
          split at he
          · rename_i hxn
            rw [hxn] at hu
            simp only [aU] at hu
            subst hu
            split at he
            · cases he
              have hn0:S.news=[]:=List.eq_nil_of_length_eq_zero (by simpa using S.len)
              have hrd:=S.read
              rw [hn0] at hrd
              refine bN.op (lift (bN.same hs (kP T S.lenOf (by simpa using hrd)) (by simp only [aU])))
            split at he
            · rename_i hfit
              cases he
              exact bN.op (lift (mz T hs S (by simp) hfit (some e) (fun _ h=>by cases h;rfl)))
            cases he
          · rename_i es' xs id hxs
            split at he
            · rename_i n T' hst
              split at he
              · rename_i hcond
                obtain ⟨rfl,rfl,rfl,hfit⟩:=hcond
                cases he
                rw [hxs] at hu
                exact bN.op (lift (kV T hs hu (fun _ h=>by cases h;rfl) hst S hfit))
              cases he
            cases he
          cases he
        cases he
    have mainR: ∀(e:TypeId) (i:TypeInfo) (t t':TypeId),c.argTypes[0]? =some t→c.argTypes[1]? =some t'→P.underlying t=some (.slice e)→((∃f,P.underlying t'=some (.slice f))∨P.underlying t'=some .string)→
        P.info? e=some i→0<i.size→0<i.bytes→(zeroOf P e).isSome=true→aE E tm st (.ng i.size i.bytes x y)=some (v,st')→
        ec P E (builtin .append c.argTypes ty (c.args.map fun | .const _=>true | _=>false) #[u,y']) w G v st':=by
      intro e i t t' h0 h1 ht ht' hi hsz hby hz he
      obtain ⟨zs,hz⟩:=Option.isSome_iff_exists.1 hz
      obtain ⟨i',z,hi',z1,z2,_,_⟩:=ez hz
      rw [hi] at hi';cases hi'
      have hrun2: ∀s q,(Builtin.append_ c.argTypes ty #[s,q]).run P w=(Builtin.append_ #[t,t'] ty #[s,q]).run P w:=by
        intro s q
        simp only [Builtin.append_,h0,h1]
        rfl
      have T:vR P #[t,t'] e i z:=⟨⟨t,t',rfl,ht,ht'⟩,hi,z1,z2,hsz,hby⟩
      have lift: ∀ {s q:Value} {r:AV} {st2:aA},bN P E (Builtin.append_ #[t,t'] ty #[s,q]) w G r st2→bN P E (Builtin.append_ c.argTypes ty #[s,q]) w G r st2:=by
        rintro s q r st2 ⟨u,w',G',hr,rest⟩
        exact ⟨u,w',G',(hrun2 s q).trans hr,rest⟩
      simp only [aE] at he
      split at he
      · rename_i ys hys
        obtain ⟨S⟩:=AS hs hy hys
        split at he
        · rename_i hxn
          rw [hxn] at hu
          simp only [aU] at hu
          subst hu
          split at he
          · cases he
            have hn0:S.news=[]:=List.eq_nil_of_length_eq_zero (by simpa using S.len)
            have hrd:=S.read
            rw [hn0] at hrd
            refine bN.op (lift (bN.same hs (kP T S.lenOf (by simpa using hrd)) (by simp only [aU])))
          split at he
          · rename_i hfit
            cases he
            exact bN.op (lift (th T hs S (by simp) hfit))
          cases he
        · rename_i id es' off len hxs
          split at he
          · rename_i cs hst
            split at he
            · rename_i hcond
              obtain ⟨rfl,rfl,hlen,hfit⟩:=hcond
              cases he
              rw [hxs] at hu
              exact bN.op (lift (uR T hs hu hst hlen S hfit))
            cases he
          cases he
        cases he
      cases he
    split at hc<;>first | (cases hc;done) | skip
    all_goals
      rename_i hu0 hu1
      simp only [Option.bind_eq_some_iff] at hu0 hu1 hc
      obtain ⟨t,ht0,ht⟩:=hu0
      obtain ⟨t',ht1,ht'⟩:=hu1
      obtain ⟨i,hi,hc⟩:=hc
      split at hc
      · rename_i hcond
        simp only [Bool.and_eq_true,decide_eq_true_eq] at hcond
        cases hc
        cases mu with
        | false=>exact main _ i t t' ht0 ht1 ht (by first | exact .inl ⟨_,ht'⟩ | exact .inr ht') hi hcond.1.1 hcond.1.2 hcond.2 false he
        | true=>
          simp only [if_true] at he
          split at he
          · exact main _ i t t' ht0 ht1 ht (by first | exact .inl ⟨_,ht'⟩ | exact .inr ht') hi hcond.1.1 hcond.1.2 hcond.2 true he
          exact mainR _ i t t' ht0 ht1 ht (by first | exact .inl ⟨_,ht'⟩ | exact .inr ht') hi hcond.1.1 hcond.1.2 hcond.2 he
      cases hc
  cases hc
end
end Go.Proofs.YtcidnoghoifmmaaDoor.AW
