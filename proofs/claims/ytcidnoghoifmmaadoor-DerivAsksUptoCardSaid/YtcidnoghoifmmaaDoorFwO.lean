/-
  The abstract walk: every operation that has a plain one does what the plain one says.
-/
import Derived.Test.YtcidnoghoifmmaaDoorFwN
namespace Go.Proofs.YtcidnoghoifmmaaDoor.AW
open Go

section
variable {P:Program} {E:bA} {G:Gh} {st:aA} {w:World}

theorem Am {mu:Bool} {o:Oper} {ai:AI} {tm:Fr} {a:Act} {v:AV} {st':aA} (hs:aG E G st w) (hf:er G tm a) (hc:comp P mu o.op=some ai) (he:aE E tm st ai=some (v,st')):
    ec P E (execOp a.eval o) w G v st':=by
  generalize hop:o.op=op at hc
  have vex: ∀ {s:Sem Value},execOp a.eval o=(do pure (Next.value (←s)))→bN P E s w G v st'→ec P E (execOp a.eval o) w G v st':=fun h hr=>by rw [h];exact hr.op
  cases op<;>simp only [comp,reduceCtorEq] at hc
  case move x=>
    simp only [Option.map_eq_some_iff] at hc
    obtain ⟨y,hy,rfl⟩:=hc
    simp only [aE] at he
    cases he
    exact ec.value hs (by simp [execOp,hop]) (bV hf hy)
  case assign x=>
    simp only [Option.map_eq_some_iff] at hc
    obtain ⟨y,hy,rfl⟩:=hc
    simp only [aE] at he
    cases he
    exact ec.value hs (by simp [execOp,hop]) (bV hf hy)
  case pick c x y=>
    split at hc
    · rename_i c' x' y' h1 h2 h3
      cases hc
      simp only [aE] at he
      split at he
      · rename_i b hb
        cases he
        have r1:=bV hf h1
        rw [hb] at r1
        simp only [aU] at r1
        refine ec.value hs (u:=if b then a.eval x else a.eval y) (by simp [execOp,hop,r1,asBool]) ?_
        cases b
        · exact bV hf h3
        exact bV hf h2
      cases he
    cases hc
  case alloc t=>
    simp only [Option.map_eq_some_iff] at hc
    obtain ⟨z,hz,rfl⟩:=hc
    by_cases hB:hasB P t=true
    · rw [if_pos hB] at he
      simp only [aE] at he
      cases he
      exact vex (by simp only [execOp,hop]) (xC hs hz)
    rw [if_neg hB] at he
    simp only [aE] at he
    cases he
    exact vex (by simp only [execOp,hop]) (zD hs hz)
  case box t x=>
    split at hc
    · rename_i n y hn hy
      cases hc
      cases mu
      · simp only [Bool.false_eq_true,if_false,aE] at he
        split at he
        · cases he
          exact vex (by simp only [execOp,hop]) (Dy (t:=t) hs (bV hf hy))
        cases he
      simp only [if_true,aE] at he
      split at he
      · rename_i hcond
        cases he
        exact vex (by simp only [execOp,hop]) (BT (t:=t) hs (bV hf hy) hcond.2)
      cases he
    cases hc
  case build t parts=>
    split at hc
    · cases hc
    rename_i hns
    split at hc
    · rename_i z ps hz hp
      cases hc
      simp only [aE] at he
      split at he
      · rename_i l hl
        cases he
        exact vex (by simp only [execOp,hop]) (zE hs hf (fun e h=>hns e h) hz hp hl)
      cases he
    cases hc
  case buildSlice t len parts=>
    split at hc
    · rename_i e ht
      split at hc
      · rename_i z ps s ag hz hp hsz hag
        split at hc
        · rename_i hcond
          cases hc
          cases mu with
          | true=>
            simp only [if_true,aE] at he
            split at he
            · rename_i l hl
              split at he
              · rename_i h1
                cases he
                exact vex (by simp only [execOp,hop]) (BU hs hf ht hz hp hsz hcond.1 hcond.2.1 hcond.2.2 hl h1)
              cases he
            cases he
          | false=>
            simp only [Bool.false_eq_true,if_false,aE] at he
            split at he
            · rename_i l hl
              split at he
              · rename_i h1
                cases he
                have:=oh false hs hf ht hz hp hsz hcond.1 hcond.2.1 hcond.2.2 hl (.inr h1)
                simp only [Bool.false_eq_true,if_false] at this
                exact vex (by simp only [execOp,hop]) this
              cases he
            cases he
        cases hc
      cases hc
    cases hc
  case load t x=>
    split at hc
    · rename_i n y ha hn hy
      cases hc
      simp only [aE] at he
      split at he
      · rename_i cs hcs
        cases he
        exact vex (by simp only [execOp,hop]) (zH hs (bV hf hy) ha hn hcs)
      cases he
    · rename_i y ha hn hy
      cases hc
      simp only [aE] at he
      split at he
      · rename_i cs hcs
        cases he
        exact vex (by simp only [execOp,hop]) (zG hs (bV hf hy) ha hcs)
      cases he
    cases hc
  case store t x y=>
    split at hc
    · rename_i n x' y' hn hx hy
      cases hc
      simp only [aE] at he
      split at he
      · rename_i id off hp
        split at he
        · rename_i cs hcs
          split at he
          · rename_i hcond
            cases he
            obtain ⟨w',G',h1,h2,h3⟩:=zK hs (bV hf hx) hp (bV hf hy) hn hcs hcond.1 hcond.2.1 hcond.2.2
            refine ⟨undef,w',G',.inr ⟨?_,rfl⟩,?_,h2,h3⟩
            · simp [execOp,hop,h1]
            simp only [aU,aW];exact ⟨[],rfl,rfl⟩
          cases he
        cases he
      cases he
    cases hc
  case nilCheck x=>
    simp only [Option.map_eq_some_iff] at hc
    obtain ⟨y,hy,rfl⟩:=hc
    simp only [aE] at he
    have hr:=bV hf hy
    have: ∃r,(match tm.x y with
      | .ptr id off=>if alive st id then some (AV.ptr id off) else none
      | .aQ cs=>some (.aQ cs)
      | .fV g off=>some (.fV g off)
      | .fn f caps=>some (.fn f caps)
      | _=>none)=some r∧v=r∧st'=st:=by
      split at he<;>first | (cases he;done) | skip
      · rename_i h
        split at he
        · rename_i hal;cases he;exact ⟨_,by rw [h];simp [hal],rfl,rfl⟩
        cases he
      · rename_i h;cases he;exact ⟨_,by rw [h],rfl,rfl⟩
      · rename_i h;cases he;exact ⟨_,by rw [h],rfl,rfl⟩
      rename_i h;cases he;exact ⟨_,by rw [h],rfl,rfl⟩
    obtain ⟨r,hr',rfl,rfl⟩:=this
    exact zJ hs hr hr' a.eval x rfl o hop
  case binOp op t x y t'=>
    split at hc
    · rename_i x' y' hx hy
      exact vex (by simp only [execOp,hop]) (uK hs hf hx hy hc he)
    cases hc
  case unOp op t x=>
    simp only [Option.map_eq_some_iff] at hc
    obtain ⟨y,hy,rfl⟩:=hc
    simp only [aE] at he
    have hr:=bV hf hy
    have: ∃r,(match op,tm.x y with
      | .neg,.int k n=>some (AV.int k (k.wrap (0-n)))
      | .xor,.int k n=>some (.int k (k.wrap (BitVec.ofInt k.bits (if k.signed then -1 else k.max) ^^^ BitVec.ofInt k.bits n).toNat))
      | .not,.bool b=>some (.bool (!b))
      | _,_=>none)=some r∧v=r∧st'=st:=by
      split at he<;>first | (cases he;done) | skip
      all_goals (rename_i h;cases he;exact ⟨_,by rw [h],rfl,rfl⟩)
    obtain ⟨r,hr',rfl,rfl⟩:=this
    exact vex (s:=Op.unary op (a.eval x)) (by simp only [execOp,hop]) (Jj hs hr hr')
  case convert src dst x=>
    split at hc
    · rename_i k k' y h1 h2 hy
      cases hc
      simp only [aE] at he
      have hr:=bV hf hy
      split at he
      · rename_i n hx
        cases he
        rw [hx] at hr
        simp only [aU] at hr
        refine vex (s:=convert src dst (a.eval x)) (by simp only [execOp,hop]) ?_
        rw [hr]
        exact EA hs h1 h2
      cases he
    · rename_i y h1 h2 hy
      cases hc
      simp only [aE] at he
      have hr:=bV hf hy
      split at he
      · rename_i s hx
        cases he
        rw [hx] at hr
        simp only [aU] at hr
        obtain ⟨b,hb,hu⟩:=hr
        refine vex (s:=convert src dst (a.eval x)) (by simp only [execOp,hop]) ?_
        rw [hu]
        exact EB hs hb h1 h2
      cases he
    · rename_i e y h1 h2 hy
      split at hc
      · rename_i h3
        cases hc
        simp only [aE] at he
        have hr:=bV hf hy
        split at he
        · rename_i s hx
          rw [hx] at hr
          simp only [aU] at hr
          obtain ⟨b,hb,hu⟩:=hr
          have:=EF (E:=E) (G:=G) (st:=st) (w:=w) mu hs hb h1 h2 h3
          refine vex (s:=convert src dst (a.eval x)) (by simp only [execOp,hop]) ?_
          rw [hu]
          cases mu
          · simp only [Bool.false_eq_true,if_false] at he this
            cases he
            exact this
          simp only [if_true] at he this
          cases he
          exact this
        cases he
      cases hc
    · rename_i e y h1 h2 hy
      split at hc
      · rename_i h3
        cases hc
        simp only [aE] at he
        have hr:=bV hf hy
        split at he
        · rename_i xs hxs
          split at he
          · rename_i bs hbs
            cases he
            exact vex (by simp only [execOp,hop]) (Dx hs hr hxs hbs h1 h2 h3)
          cases he
        cases he
      cases hc
    · rename_i e0 e y h1 h2 hy
      split at hc
      · rename_i hsd
        split at hc
        · rename_i h3
          cases hc
          simp only [aE] at he
          have hr:=bV hf hy
          split at he
          · rename_i es xs id hx
            rw [hx] at hr
            split at he
            · rename_i n hn
              split at he
              · rename_i hl
                cases he
                have hd:=hsd
                refine vex (s:=convert src dst (a.eval x)) (by simp only [execOp,hop]) ?_
                rw [hd]
                exact Dz hs hr hn hl h2 h3
              cases he
            cases he
          cases he
        cases hc
      cases hc
    cases hc
  case makeFunc fn first caps=>
    cases fn<;>simp only [reduceCtorEq] at hc
    rename_i f
    split at hc
    · rename_i h0
      simp only [Option.map_eq_some_iff] at hc
      obtain ⟨ys,hys,rfl⟩:=hc
      simp only [aE] at he
      cases he
      have hr:=iZ hf hys
      have hfirst:first= #[]:=Array.eq_empty_of_size_eq_zero h0
      refine ec.value hs (u:=.func (.func f) #[] (caps.map a.eval)) (by simp [execOp,hop,Instr.makeFunc,hfirst]) ?_
      simp only [aU]
      exact ⟨_,hr,by congr 1;apply Array.ext';simp⟩
    cases hc
  case makeSlice t l c=>
    split at hc
    · rename_i e ht
      split at hc
      · rename_i z i l' c' hz hi hl hcc
        split at hc
        · rename_i hpos
          obtain ⟨hpos,hby⟩:=hpos
          cases hc
          simp only [aE] at he
          split at he
          · rename_i k n k' m hn hm
            have r1:=bV hf hl
            have r2:=bV hf hcc
            rw [hn] at r1
            rw [hm] at r2
            simp only [aU] at r1 r2
            refine vex (s:=Instr.makeSlice t (a.eval l) (a.eval c)) (by simp only [execOp,hop]) ?_
            rw [r1,r2]
            have bd: ∀q:Int,0≤q→(i.bytes:Int)*q≤281474976710656→q≤9223372036854775807:=fun q h0 hq=>by
              have h1:(1:Int)*q≤(i.bytes:Int)*q:=Int.mul_le_mul_of_nonneg_right (by omega) h0
              omega
            cases mu
            · simp only [Bool.false_eq_true,if_false] at he
              split at he
              · rename_i hcond
                cases he
                have:=nA (E:=E) (G:=G) (st:=st) (w:=w) (k:=k) (k':=k') (n:=n) (m:=m) false hs ht hz hi hpos (by simpa using hcond) (bd m hcond.2.1 hcond.2.2)
                simpa using this
              cases he
            simp only [if_true] at he
            split at he
            · rename_i hcond
              cases he
              have:=nA (E:=E) (G:=G) (st:=st) (w:=w) (k:=k) (k':=k') (n:=n) (m:=m) true hs ht hz hi hpos (by simpa using hcond) (by rw [hcond.2.1];exact bd n hcond.1 hcond.2.2)
              simpa using this
            cases he
          cases he
        cases hc
      cases hc
    cases hc
  case slice t x lo hi mx=>
    cases mx<;>simp only [reduceCtorEq] at hc
    split at hc
    · rename_i y l h ht hy hl hh
      cases hc
      simp only [aE] at he
      have hr:=bV hf hy
      split at he
      · rename_i s hx
        rw [hx] at hr
        simp only [aU] at hr
        obtain ⟨b,hb,hu⟩:=hr
        split at he
        · rename_i p q hp hq
          split at he
          · rename_i hcond
            cases he
            refine vex (s:=Instr.sliceAt t (a.eval x) (lo.map a.eval) (hi.map a.eval) none) (by simp only [execOp,hop];rfl) ?_
            rw [hu]
            exact EH hs hf hb ht hl hh hp hq hcond.1 hcond.2
          cases he
        cases he
      cases he
    · rename_i e y l h ht hy hl hh
      simp only [Option.map_eq_some_iff] at hc
      obtain ⟨s,hsz,rfl⟩:=hc
      have hr:=bV hf hy
      cases mu with
      | true=>
        simp only [if_true,aE] at he
        refine vex (s:=Instr.sliceAt t (a.eval x) (lo.map a.eval) (hi.map a.eval) none) (by simp only [execOp,hop];rfl) ?_
        split at he<;>first | (cases he;done) | skip
        · rename_i hx
          rw [hx] at hr
          have hlo:lo=none:=by
            cases lo with
            | none=>rfl
            | some z=>simp only [cOpt,Option.map_eq_some_iff] at hl;obtain ⟨_,_,hl⟩:=hl;cases hl
          subst hlo
          split at he
          · rename_i hq
            cases he
            exact mX (v:=.aP) (lo:=none) (lx:=none) hs hf hr ht hsz rfl hh (by rw [hq];rfl)
          cases he
        rename_i id es' off len hx
        rw [hx] at hr
        have hlo:lo=none:=by
          cases lo with
          | none=>rfl
          | some z=>simp only [cOpt,Option.map_eq_some_iff] at hl;obtain ⟨_,_,hl⟩:=hl;cases hl
        subst hlo
        split at he
        · rename_i cs ho
          split at he
          · rename_i y hq
            split at he
            · rename_i hcond
              obtain ⟨rfl,rfl,hlen,hle⟩:=hcond
              cases he
              exact EG hs hf hr ht hsz hh ho hq hlen hle
            cases he
          cases he
        cases he
      | false=>
      simp only [Bool.false_eq_true,if_false,aE] at he
      refine vex (s:=Instr.sliceAt t (a.eval x) (lo.map a.eval) (hi.map a.eval) none) (by simp only [execOp,hop];rfl) ?_
      split at he<;>first | (cases he;done) | skip
      · rename_i es' xs tok hx
        split at he
        · rename_i p q hp hq
          split at he
          · rename_i hcond
            cases he
            exact mX hs hf hr ht hsz hl hh (by rw [hx];simp only [hp,hq];rw [if_pos hcond])
          cases he
        cases he
      · rename_i hx
        split at he
        · rename_i hp hq
          cases he
          exact mX hs hf hr ht hsz hl hh (by rw [hx];simp only [hp,hq])
        cases he
      rename_i id es' off len hx
      split at he
      · rename_i p q hp hq
        split at he
        · rename_i hcond
          cases he
          exact mX hs hf hr ht hsz hl hh (by rw [hx];simp only [hp,hq];rw [if_pos hcond])
        cases he
      cases he
    cases hc
  case fieldAddr t x i=>
    split at hc
    · rename_i fs y ht hy
      split at hc
      · rename_i f hfi
        split at hc
        · rename_i n hsz
          cases hc
          simp only [aE] at he
          have hr:=bV hf hy
          have: ∃r,(match tm.x y with
            | .ptr id o=>if alive st id then some (AV.ptr id (o+f.offset)) else none
            | .aQ cs=>some (.aQ (cs.drop f.offset))
            | .fV g o=>some (.fV g (o+f.offset))
            | _=>none)=some r∧v=r∧st'=st:=by
            split at he<;>first | (cases he;done) | skip
            · rename_i h
              split at he
              · rename_i hal;cases he;exact ⟨_,by rw [h];simp [hal],rfl,rfl⟩
              cases he
            · rename_i h;cases he;exact ⟨_,by rw [h],rfl,rfl⟩
            rename_i h;cases he;exact ⟨_,by rw [h],rfl,rfl⟩
          obtain ⟨r,hr',rfl,rfl⟩:=this
          exact vex (by simp only [execOp,hop]) (zF hs hr ht hfi hsz hr')
        cases hc
      cases hc
    cases hc
  case field t x i=>
    split at hc
    · rename_i fs y ht hy
      split at hc
      · rename_i f hfi
        split at hc
        · rename_i n ha hn
          cases hc
          simp only [aE] at he
          have hr:=bV hf hy
          split at he
          · rename_i cs hx
            split at he
            · cases he
              rw [hx] at hr
              exact vex (by simp only [execOp,hop]) (xE hs hr ht hfi ha hn)
            cases he
          cases he
        · rename_i ha hn
          cases hc
          simp only [aE] at he
          have hr:=bV hf hy
          split at he
          · rename_i cs hx
            split at he
            · rename_i y' hy'
              cases he
              rw [hx] at hr
              exact vex (by simp only [execOp,hop]) (xD hs hr ht hfi ha hy')
            cases he
          cases he
        cases hc
      cases hc
    cases hc
  case indexAddr t x i=>
    split at hc
    · rename_i n e y j ht hy hj
      simp only [Option.map_eq_some_iff] at hc
      obtain ⟨s,hsz,rfl⟩:=hc
      simp only [aE] at he
      have hr:=bV hf hy
      have hi:=bV hf hj
      split at he
      · rename_i k m hm
        rw [hm] at hi
        simp only [aU] at hi
        split at he
        · rename_i hcond
          have: ∃r,(match tm.x y with
            | .ptr id o=>if alive st id then some (AV.ptr id (o+m.toNat*s)) else none
            | .aQ cs=>some (.aQ (cs.drop (m.toNat*s)))
            | .fV g o=>some (.fV g (o+m.toNat*s))
            | _=>none)=some r∧v=r∧st'=st:=by
            split at he<;>first | (cases he;done) | skip
            · rename_i h
              split at he
              · rename_i hal;cases he;exact ⟨_,by rw [h];simp [hal],rfl,rfl⟩
              cases he
            · rename_i h;cases he;exact ⟨_,by rw [h],rfl,rfl⟩
            rename_i h;cases he;exact ⟨_,by rw [h],rfl,rfl⟩
          obtain ⟨r,hr',rfl,rfl⟩:=this
          refine vex (s:=Instr.indexAt t (a.eval x) (a.eval i)) (by simp only [execOp,hop]) ?_
          rw [hi]
          exact xF hs hr ht hsz hcond.1 hcond.2 hr'
        cases he
      cases he
    · rename_i e y j ht hy hj
      simp only [Option.map_eq_some_iff] at hc
      obtain ⟨s,hsz,rfl⟩:=hc
      simp only [aE] at he
      have hr:=bV hf hy
      have hi:=bV hf hj
      split at he
      · rename_i k m hm
        rw [hm] at hi
        simp only [aU] at hi
        refine vex (s:=Instr.indexAt t (a.eval x) (a.eval i)) (by simp only [execOp,hop]) ?_
        rw [hi]
        split at he<;>first | (cases he;done) | skip
        · rename_i es' xs tok hx
          split at he
          · rename_i hcond
            split at he
            · rename_i z hz
              cases he
              exact om hs hr ht hsz (by rw [hx];simp only;rw [if_pos hcond,hz])
            cases he
          cases he
        rename_i id es' off len hx
        split at he
        · rename_i hcond
          cases he
          exact om hs hr ht hsz (by rw [hx];simp only;rw [if_pos hcond])
        cases he
      cases he
    cases hc
  case index t x i=>
    split at hc
    · rename_i n e y j ht hy hj
      have hr:=bV hf hy
      have hi:=bV hf hj
      split at hc
      · rename_i s ha hsz
        cases hc
        simp only [aE] at he
        split at he
        · rename_i k m cs hm hx
          split at he
          · rename_i hcond
            cases he
            rw [hm] at hi
            rw [hx] at hr
            simp only [aU] at hi
            refine vex (s:=Instr.index t (a.eval x) (a.eval i)) (by simp only [execOp,hop]) ?_
            rw [hi]
            exact BW hs hr ht hsz ha hcond.1 hcond.2.1
          cases he
        cases he
      · rename_i s ha hsz
        cases hc
        simp only [aE] at he
        split at he
        · rename_i k m cs hm hx
          split at he
          · rename_i hcond
            split at he
            · rename_i z hz
              cases he
              rw [hm] at hi
              rw [hx] at hr
              simp only [aU] at hi
              refine vex (s:=Instr.index t (a.eval x) (a.eval i)) (by simp only [execOp,hop]) ?_
              rw [hi]
              exact BV hs hr ht hsz ha hcond.1 hcond.2 hz
            cases he
          cases he
        cases he
      cases hc
    · rename_i y j ht hy hj
      cases hc
      have hr:=bV hf hy
      have hi:=bV hf hj
      simp only [aE] at he
      split at he
      · rename_i k m s hm hx
        split at he
        · rename_i h0
          split at he
          · rename_i b hb
            cases he
            rw [hm] at hi
            rw [hx] at hr
            simp only [aU] at hi hr
            obtain ⟨q,hq,hu⟩:=hr
            refine vex (s:=Instr.index t (a.eval x) (a.eval i)) (by simp only [execOp,hop]) ?_
            rw [hi,hu]
            exact ED hs hq ht h0 hb
          cases he
        cases he
      cases he
    cases hc
  case extract x i=>
    simp only [Option.map_eq_some_iff] at hc
    obtain ⟨y,hy,rfl⟩:=hc
    simp only [aE] at he
    have hr:=bV hf hy
    split at he
    · rename_i vs hx
      split at he
      · rename_i z hz
        cases he
        rw [hx] at hr
        exact vex (by simp only [execOp,hop]) (uU hs hr hz)
      cases he
    cases he
  case makeMap t r=>
    cases r with
    | some x=>simp only [reduceCtorEq] at hc
    | none=>
      simp only at hc
      split at hc
      · simp only [Option.map_eq_some_iff] at hc
        obtain ⟨kd,_,rfl⟩:=hc
        simp only [aE] at he
        cases he
        exact vex (s:=Instr.makeMap t none) (by simp only [execOp,hop,Option.map_none]) (zI hs)
      cases hc
  case insert t m k x=>
    split at hc
    · rename_i kt et m' k' x' ht hm hk hx
      simp only [Option.map_eq_some_iff] at hc
      obtain ⟨kd,hkd,rfl⟩:=hc
      simp only [aE] at he
      split at he
      · rename_i id c hm' hk'
        split at he
        · rename_i kd' f n hst
          split at he
          · rename_i e
            subst e
            cases he
            obtain ⟨w',G',hrun,q1,q2⟩:=oq hs ht hkd (bV hf hm) hm' (bV hf hk) (bV hf hx) hst hk'
            exact ⟨undef,w',G',.inr ⟨by simp [execOp,hop,hrun],rfl⟩,by simp only [aU,aW,undef];exact ⟨[],rfl,rfl⟩,q1,q2⟩
          cases he
        cases he
      cases he
    cases hc
  case mapUpdate t m k x=>
    split at hc
    · rename_i kt et m' k' x' ht hm hk hx
      simp only [Option.map_eq_some_iff] at hc
      obtain ⟨kd,hkd,rfl⟩:=hc
      simp only [aE] at he
      split at he
      · rename_i id c hm' hk'
        split at he
        · rename_i kd' f n hst
          split at he
          · rename_i e
            subst e
            cases he
            obtain ⟨w',G',hrun,q1,q2⟩:=oq hs ht hkd (bV hf hm) hm' (bV hf hk) (bV hf hx) hst hk'
            exact ⟨undef,w',G',.inr ⟨by simp [execOp,hop,hrun],rfl⟩,by simp only [aU,aW,undef];exact ⟨[],rfl,rfl⟩,q1,q2⟩
          cases he
        cases he
      cases he
    cases hc
  case lookup t m k ok=>
    split at hc
    · rename_i kt et m' k' ht hm hk
      split at hc
      · rename_i kd z hkd hz
        cases hc
        simp only [aE] at he
        split at he
        · rename_i f c hm' hk'
          cases he
          exact vex (by simp only [execOp,hop]) (xG ok hs ht hkd hz (bV hf hm) (bV hf hk) hm' hk')
        cases he
      cases hc
    cases hc
  case call c=>exact lK hs hf hc he o hop rfl
theorem wu {o:Oper} {ai:AI} {tm:Fr} {a:Act} {v:AV} {st':aA} (hs:aG E G st w) (hf:er G tm a) (hc:kN P o.op=some ai) (he:aE E tm st ai=some (v,st')):ec P E (execOp a.eval o) w G v st':=by
 generalize hop:o.op=op at hc
 have vex: ∀ {s:Sem Value},execOp a.eval o=(do pure (Next.value (←s)))→bN P E s w G v st'→ec P E (execOp a.eval o) w G v st':=fun h hr=>by rw [h];exact hr.op
 cases op<;>simp only [kN,reduceCtorEq] at hc
 case buildSlice t len parts=>
  split at hc
  ·rename_i e ht
   split at hc
   ·rename_i z ps s ag hz hp hsz hag
    split at hc
    ·rename_i hcond
     cases hc
     simp only [aE] at he
     split at he
     ·rename_i l hl
      simp only [if_true] at he
      cases he
      have:=oh true hs hf ht hz hp hsz hcond.1 hcond.2.1 hcond.2.2 hl (.inl rfl)
      simp only [if_true] at this
      exact vex (by simp only [execOp,hop]) this
     cases he
    cases hc
   cases hc
  cases hc
end
end Go.Proofs.YtcidnoghoifmmaaDoor.AW
