/-
  The abstract walk: one object turns; cells are read and written.
-/
import Derived.Test.YtcidnoghoifmmaaDoorFwC
import Derived.Laws.CopyRow
import Derived.Laws.Append
namespace Go.Proofs.YtcidnoghoifmmaaDoor.AW
open Go

theorem AV.Dp {G:Gh} {v:AV} {u:Value} (h:aU G v u) (h1:v.one=true):u.oneCell'=true:=by
 cases v<;>simp only [AV.one] at h1<;>first | (cases h1;done) | skip
 case ptr id off=>
  simp only [aU] at h
  split at h
  ·subst h;rfl
  ·obtain ⟨a,rfl⟩:=h;rfl
  exact h.elim
 case row id es off len=>
  simp only [aU] at h
  split at h
  ·obtain ⟨c,_,_,_,_,_,rfl⟩:=h;rfl
  ·obtain ⟨a,l,c,rfl⟩:=h;rfl
  exact h.elim
 case mp id=>
  simp only [aU] at h
  split at h
  ·subst h;rfl
  ·obtain ⟨a,rfl⟩:=h;rfl
  exact h.elim
 case pS id T n=>
  simp only [aU] at h
  obtain ⟨rfl,_⟩:=h;rfl
 case nR id=>
  simp only [aU] at h
  split at h
  ·subst h;rfl
  ·obtain ⟨a,rfl⟩:=h;rfl
  exact h.elim
 all_goals
  simp only [aU] at h
  first
   | (subst h;rfl)
   | (obtain ⟨_,_,rfl⟩:=h;rfl)
   | (obtain ⟨_,_,_,_,_,rfl⟩:=h;rfl)
   | (obtain ⟨_,_,_,_,_,_,_,_,rfl⟩:=h;rfl)
   | (obtain ⟨_,_,_,_,_,_,rfl⟩:=h;rfl)
theorem ij {G:Gh} {vs:List AV} {us:List Value} (h:aW G vs us) (h1:vs.all AV.one=true): ∀u∈us,u.oneCell'=true:=by
 intro u hu
 obtain ⟨i,hi⟩:=List.getElem?_of_mem hu
 have hl:i<vs.length:=by rw [←aj h];exact aD hi
 obtain ⟨u',hu',hr⟩:=fP h i vs[i] (by simp [hl])
 rw [hi] at hu';cases hu'
 exact AV.Dp hr (List.all_eq_true.1 h1 _ (by simp))
theorem kU {E:bA} {G:Gh} {st:aA} {w w':World} (h:aG E G st w) {id b c:Nat} {s s':Slot} {o':cz} {M:Nat→Nat→Option Value}
  (hid:G.slots[id]? =some s) (hb:s.blk=some b) (hs':s'.blk=some c) (hc:c=b∨w.heap.size≤c)
  (hw: ∀k,k<w.heap.size→k≠b→w'.heap[k]? =w.heap[k]?) (hz:w.heap.size≤w'.heap.size) (hos:w'.os=w.os) (ht:w'.tape=w.tape) (hout:w'.output=w.output)
  (hsh: ∀e n,G.sh b=some (e,n)→ ∃arr fz,w'.heap[b]? =some (.cells arr e fz)∧arr.size=n)
  (hg:cj G {slots:=G.slots.set id s',M:=M,sh:=G.sh})
  (hnew: ∀b' o u,M b' o=some u→G.M b' o=some u∨b'=b∨w.heap.size≤b')
  (hmem: ∀b' o u,M b' o=some u→(b'=b∨w.heap.size≤b')→w'.cell? ⟨b',o,none⟩=some u∧u.oneCell'=true)
  (ho:bl {slots:=G.slots.set id s',M:=M,sh:=G.sh} w' o' s'):
  aG E {slots:=G.slots.set id s',M:=M,sh:=G.sh} (st.set id o') w'∧Ext G w {slots:=G.slots.set id s',M:=M,sh:=G.sh} w':=by
 have hidl:=aD hid
 have hmemS:s∈G.slots:=List.mem_of_getElem? hid
 have hbl:=h.block hmemS hb
 refine ⟨⟨by simp [h.len],?_,?_,?_,?_,fun k e n hx=>by
  by_cases hk:k=b
  ·subst hk;exact hsh e n hx
  have hkl:=h.RQ hx
  obtain ⟨arr,fz,h1,h2⟩:=h.jU k e n hx
  exact ⟨arr,fz,by rw [hw k hkl hk];exact h1,h2⟩,h.gG.mono hg⟩,⟨hg,hos,ht,hout,hz,?_,?_,?_⟩⟩
 ·intro i o t hi hti
  by_cases e:id=i
  ·subst e
   have:o=o':=by rw [List.getElem?_set_self (by rw [←h.len];exact hidl)] at hi;cases hi;rfl
   have:t=s':=by
    have hti':(G.slots.set id s')[id]? =some t:=hti
    rw [List.getElem?_set_self hidl] at hti';cases hti';rfl
   subst_vars
   exact ho
  rw [List.getElem?_set_ne e] at hi
  have hti':(G.slots.set id s')[i]? =some t:=hti
  rw [List.getElem?_set_ne e] at hti'
  have hr:=h.obj i o t hi hti'
  have hap: ∀b',t.blk=some b'→b'≠b:=fun b' hb' eb=>h.apart i id t s b' (Ne.symm e) hti' hid hb' (eb▸hb)
  refine hr.keep hg (fun b' hb'=>hw b' (hr.block hb') (hap b' hb')) fun b' o u hb' hu=>?_
  rcases hnew b' o u hu with h' | h' | h'
  ·exact h'
  ·exact absurd h' (hap b' hb')
  have:=hr.block hb';omega
 ·intro i j t t' b' hij hti htj hbt
  have hti':(G.slots.set id s')[i]? =some t:=hti
  have htj':(G.slots.set id s')[j]? =some t':=htj
  by_cases ei:id=i
  ·subst ei
   rw [List.getElem?_set_self hidl] at hti';cases hti'
   rw [List.getElem?_set_ne hij] at htj'
   rw [hs'] at hbt;cases hbt
   intro hbt'
   rcases hc with rfl | hc
   ·exact h.apart id j s t' c hij hid htj' hb hbt'
   have:=h.block (List.mem_of_getElem? htj') hbt';omega
  rw [List.getElem?_set_ne ei] at hti'
  by_cases ej:id=j
  ·subst ej
   rw [List.getElem?_set_self hidl] at htj';cases htj'
   rw [hs']
   intro e;cases e
   rcases hc with rfl | hc
   ·exact h.apart i id t s c hij hti' hid hbt hb
   have:=h.block (List.mem_of_getElem? hti') hbt;omega
  rw [List.getElem?_set_ne ej] at htj'
  exact h.apart i j t t' b' hij hti' htj' hbt
 ·intro b' o u hu
  by_cases e:b'=b∨w.heap.size≤b'
  ·exact (hmem b' o u hu e).1
  rcases hnew b' o u hu with h' | h'
  ·have:=h.mem b' o u h'
   have hlt:b'<w.heap.size:=by omega
   rw [←this]
   exact World.cell?_of_block (w:=w) (a:=⟨b',o,none⟩) (hw b' hlt (by omega))
  exact absurd h' e
 ·intro b' o u hu
  by_cases e:b'=b∨w.heap.size≤b'
  ·exact (hmem b' o u hu e).2
  rcases hnew b' o u hu with h' | h'
  ·exact h.one b' o u h'
  exact absurd h' e
 ·intro k hk hn
  exact hw k hk fun e=>hn s hmemS (e▸hb)
 ·intro b' o u hu
  rcases hnew b' o u hu with h' | rfl | h'
  ·exact .inl h'
  ·exact .inr (.inl ⟨s,hmemS,hb⟩)
  exact .inr (.inr h')
 intro t htm b' hbt
 have htm':t∈G.slots.set id s':=htm
 rcases List.mem_or_eq_of_mem_set htm' with h' | rfl
 ·exact .inl ⟨t,h',hbt⟩
 rw [hs'] at hbt;cases hbt
 rcases hc with rfl | hc
 ·exact .inl ⟨s,hmemS,hb⟩
 exact .inr hc
theorem dB {G:Gh} {id:Nat} {s:Slot} (h:G.slots[id]? =some s):({slots:=G.slots.set id s,M:=G.M,sh:=G.sh}:Gh)=G:=by
 have:G.slots.set id s=G.slots:=by
  apply List.ext_getElem?
  intro i
  by_cases e:id=i
  ·subst e;rw [List.getElem?_set_self (aD h),h]
  rw [List.getElem?_set_ne e]
 rw [this]
theorem Cq {E:bA} {G:Gh} {st:aA} {w:World} (h:aG E G st w) {id b:Nat} {cs':List AV} {arr arr':Array Value} {e:TypeId} {fz:Nat × Nat}
  (hid:G.slots[id]? =some (.box b)) (harr:w.heap[b]? =some (.cells arr e fz)) (hM: ∀o u,G.M b o≠some u) (hsz:arr'.size=arr.size) (hl:cs'.length≤arr'.size) (hr:aW G cs' (arr'.toList.take cs'.length))
  (hfz:Jy fz arr'.size):
  aG E G (st.set id (.cells cs')) (w.setRow b arr')∧Ext G w G (w.setRow b arr'):=by
 have key:=kU (M:=G.M) (s':=.box b) (o':=.cells cs') (w':=w.setRow b arr') h hid rfl rfl (.inl rfl) (fun k _ hk=>setRow_other w b k _ hk) (by simp) rfl rfl rfl
  (fun e' n hx=>by
   obtain ⟨arr2,fz2,h1,h2⟩:=h.jU b e' n hx
   rw [harr] at h1;cases h1
   exact ⟨arr',fz,setRow_heap w b arr _ e _ harr,by rw [hsz];exact h2⟩)
  (by rw [dB hid];exact cj.refl G) (fun _ _ _ h'=>.inl h')
  (fun b' o u hu e=>by
   rcases e with rfl | e
   ·exact absurd hu (hM o u)
   have:=h.cV hu;omega)
  (by rw [dB hid];exact ⟨⟨arr',e,fz,setRow_heap w b arr _ e _ harr,hl,hr,hfz⟩,hM⟩)
 rwa [dB hid] at key
theorem gP (P:Program) (g o:Nat) (t:TypeId) (fz:Nat × Nat): ∀(vs:List Value) (i:Nat) (cur:Array Value) (w:World),w.heap[g]? =some (.cells cur t fz)→(∀j,o+i≤j→j<o+i+vs.length→jY fz j)→o+i+vs.length≤cur.size→(∀v∈vs,v.oneCell'=true)→
    (storeCells ⟨g,o,none⟩ vs i).run P w= .ok () (w.setRow g (cur.toList.take (o+i)++vs++cur.toList.drop (o+i+vs.length)).toArray)
  | [],i,cur,w,hg,_,_,_=>by
    simp only [storeCells,List.append_nil,List.length_nil,Nat.add_zero,List.take_append_drop,Array.toArray_toList]
    rw [setRow_self w g cur t fz hg]
    rfl
  | v::rest,i,cur,w,hg,hfz,hl,h1=>by
    have hi:o+i<cur.size:=by simp at hl;omega
    have hadd:(⟨g,o,none⟩:Addr).add i=⟨g,o+i,none⟩:=by unfold Addr.add;split<;>simp_all
    have hcell:w.cell? ⟨g,o+i,none⟩=some cur[o+i]:=by simp [World.cell?,hg,hi]
    have hfro:w.frozen? ⟨g,o+i,none⟩=false:=by
      have:=hfz (o+i) (Nat.le_refl _) (by simp)
      obtain ⟨lo,hi'⟩:=fz
      simp only [jY] at this
      simp only [World.frozen?,hg,Bool.and_eq_false_iff,decide_eq_false_iff_not]
      omega
    have hst:(store ((⟨g,o,none⟩:Addr).add i) v).run P w= .ok () (w.setRow g (cur.setIfInBounds (o+i) v)):=by
      rw [hadd,run_store P w _ v _ (h1 v (by simp)),hcell]
      simp [hfro,setCell_eq_setRow w g (o+i) cur t fz v hg]
    have ih:=gP P g o t fz rest (i+1) (cur.setIfInBounds (o+i) v) (w.setRow g (cur.setIfInBounds (o+i) v)) (setRow_heap w g cur _ t _ hg) (fun j h1 h2=>hfz j (by omega) (by simp;omega)) (by simp at hl ⊢;omega) (fun x hx=>h1 x (by simp [hx]))
    simp only [storeCells,Sem.run_bind,hst,Result.andThen_ok,ih,setRow_setRow]
    congr 3
    rw [Array.toList_setIfInBounds]
    have e1:(cur.toList.set (o+i) v).take (o+(i+1))=cur.toList.take (o+i)++[v]:=by
      rw [show o+(i+1)=(o+i)+1 by omega,List.take_add_one,List.take_set_of_le (Nat.le_refl _),List.getElem?_set_self (by simpa using hi)]
      rfl
    have e2:(cur.toList.set (o+i) v).drop (o+(i+1)+rest.length)=cur.toList.drop (o+i+(v::rest).length):=by
      rw [List.drop_set_of_lt (by omega)]
      congr 1
      simp
      omega
    rw [e1,e2]
    simp
theorem fG (b o n:Nat):(⟨b,o,none⟩:Addr).add n=⟨b,o+n,none⟩:=by unfold Addr.add;split<;>simp_all
theorem jP {P:Program} {w:World} {b off n:Nat} {arr:Array Value} {e:TypeId} {fz:Nat × Nat} (harr:w.heap[b]? =some (.cells arr e fz)) (hl:off+n≤arr.size):
  (loadCells ⟨b,off,none⟩ n).run P w= .ok ((arr.toList.drop off).take n).toArray w:=by
 have hlen:((arr.toList.drop off).take n).length=n:=by simp;omega
 have:=run_loadCells_list (P:=P) w ⟨b,off,none⟩ ((arr.toList.drop off).take n) fun j v hv=>by
  have hj:j<n:=by have:=aD hv;omega
  rw [fG]
  rw [List.getElem?_take_of_lt hj,List.getElem?_drop] at hv
  simp [World.cell?,harr]
  simpa using hv
 rw [hlen] at this
 exact this
theorem dc {P:Program} {w:World} {b o:Nat} {us:List Value} (h: ∀j v,us[j]? =some v→w.cell? ⟨b,o+j,none⟩=some v):
  (loadCells ⟨b,o,none⟩ us.length).run P w= .ok us.toArray w:=
 run_loadCells_list (P:=P) w ⟨b,o,none⟩ us fun j v hv=>by rw [fG];exact h j v hv
end Go.Proofs.YtcidnoghoifmmaaDoor.AW
