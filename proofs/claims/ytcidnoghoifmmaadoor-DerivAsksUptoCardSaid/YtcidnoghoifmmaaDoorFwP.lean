/-
  The abstract walk: code, and what it asks for.
-/
import Derived.Test.YtcidnoghoifmmaaDoorFwO
import Derived.Laws.Externs
import Derived.RangeFuncRecord
import Derived.OrdersIn
import Derived.TacticsIn
import Derived.KernelRfl
namespace Go.Proofs.YtcidnoghoifmmaaDoor.AW
open Go

inductive AK where
 | plain (i:AI)
 | call (f:FuncId) (args:List AX)
 | fH (f:AX) (args:List AX)
 deriving Inhabited

structure bZ where
 dst:Option Nat
 guard:Option (Nat × Bool)
 ins:AK
 deriving Inhabited

def Is (P:Program) (f:FuncId):Bool:=
 match P.funcs[f]? with
 | some fn=>fn.name== "internal/bytealg.IndexByteString" &&fn.body.isNone&&(Extern.findNext fn).isNone
 | none=>false

def gV (P:Program) (mu:Bool):Op→Option AK
  | .call c=>match c.callee with
    | .value (.func f)=>match c.args.toList.mapM cX with
      | some as=>if eH P f then some (if mu=true then .fH (.c (.fn f [])) as else .call f as) else if Is P f then (match as with
        | [x,y]=>some (.plain (.Rt x y))
        | _=>none) else none
      | none=>none
    | .value f=>match cX f,c.args.toList.mapM cX with
      | some x,some as=>some (.fH x as)
      | _,_=>none
    | _=>(ja P mu c).map .plain
  | op=>(comp P mu op).map .plain

def CL (N:Nat):Option Nat→Bool
 | none=>true
 | some d=>decide (d<N)

def RH (mu:Nat→Bool):Option Nat→Bool
 | none=>false
 | some d=>mu d

def wE (P:Program) (N:Nat) (mu:Nat→Bool) (ops:Array Oper) (o:Oper):Option bZ:=
  match gV P (RH mu o.dst) o.op with
  | some i=>
    if CL N o.dst then
      match o.guard with
      | none=>some ⟨o.dst,none,i⟩
      | some (j,b)=>match (ops[j]?).bind (·.dst) with
        | some d=>some ⟨o.dst,some (d,b),i⟩
        | none=>none
    else none
  | none=>none

def mu2 (mu:Nat→Bool):Option Nat→Bool
 | none=>false
 | some d=>mu (d+2000000)
def iI (P:Program) (N:Nat) (mu:Nat→Bool) (ops:Array Oper) (o:Oper):Option bZ:=
 if mu2 mu o.dst=true then match kN P o.op with
  | some i=>if CL N o.dst=true∧o.guard=none then some ⟨o.dst,none,.plain i⟩ else none
  | none=>none
 else wE P N mu ops o

abbrev jW (ro:Option Nat):Fence:={Fence.wide with round:=ro}
theorem sS {ro:Option Nat} (n:Nat):(jW ro).room n:=room_wide n
def Marks (B:Nat) (G:Gh) (l:List Deferred) (w:World):Prop:=
 B≤w.heap.size∧ ∃ms:List Nat,l=ms.map (fun D=>{target:=.collected D,args:= #[]})∧ms.Nodup∧ ∀D∈ms,B≤D∧w.heap[D]? =some (.deferred (some []))∧ ∀s∈G.slots,s.blk≠some D

theorem Marks.nil {B:Nat} (G:Gh) {w:World} (h:B≤w.heap.size):Marks B G [] w:=⟨h,[],rfl,List.nodup_nil,fun D h=>by cases h⟩
theorem wM {w:World} {b:Nat} {x:Obj} (h:w.heap[b]? =some x):b<w.heap.size:=by
 rcases Nat.lt_or_ge b w.heap.size with h' | h'
 ·exact h'
 rw [Array.getElem?_eq_none h'] at h;cases h
theorem Marks.ext {B:Nat} {G G':Gh} {l:List Deferred} {w w':World} (h:Marks B G l w) (he:Ext G w G' w'):Marks B G' l w':=by
 obtain ⟨h0,ms,h1,h2,h3⟩:=h
 refine ⟨Nat.le_trans h0 he.size,ms,h1,h2,fun D hD=>?_⟩
 obtain ⟨k1,k2,k3⟩:=h3 D hD
 have hl:=wM k2
 refine ⟨k1,by rw [he.block D hl k3];exact k2,fun s hs hb=>?_⟩
 rcases he.sx s hs D hb with ⟨s',hs',hb'⟩ | h'
 ·exact k3 s' hs' hb'
 omega
structure Rel (B:Nat) (N:Nat) (E:bA) (G:Gh) (tm:Fr) (st:aA) (a:Act) (w:World):Prop where
 size:a.tmps.size=N
 defers:Marks B G a.defers w
 fr:er G tm a
 st:aG E G st w

def XCall (P:Program) (E:bA) (f:FuncId) (ds:List AV) (st:aA) (K:AV→aA→Prop):Prop:=
 ∀(G:Gh) (w:World) (vs:List Value),aW G ds vs→aG E G st w→
  Calls P f vs.toArray w fun e w'=> ∃u r st' G',e= .returned u∧aU G' r u∧aG E G' st' w'∧Ext G w G' w'∧K r st'

theorem XCall.mono {P:Program} {E:bA} {f:FuncId} {ds:List AV} {st:aA} {K K':AV→aA→Prop} (h:XCall P E f ds st K) (hk: ∀r st',K r st'→K' r st'):XCall P E f ds st K':=fun G w vs hr hs=>
 (h G w vs hr hs).mono fun _ _ ⟨u,r,st',G',h1,h2,h3,h4,h5⟩=>⟨u,r,st',G',h1,h2,h3,h4,hk _ _ h5⟩
def XYield (P:Program) (E:bA) (id:Nat) (ds:List AV) (st:aA) (K:AV→aA→Prop):Prop:=
 ∀(G:Gh) (w:World) (vs:List Value),aW G ds vs→aG E G st w→ ∃b r,G.slots[id]? =some (.box b)∧w.heap[b]? =some (.loop r)∧vs.length=r.params.size∧
  RoundIn Fence.wide 0 P b r.fn ((r.params.zip vs.toArray).foldl (fun tmps (t,a)=>tmps.setIfInBounds t a) r.tmps) r.assign r.body w
   fun e w'=> ∃u x st' G',e= .returned u∧aU G' x u∧aG E G' st' w'∧Ext G w G' w'∧K x st'

theorem XYield.mono {P:Program} {E:bA} {id:Nat} {ds:List AV} {st:aA} {K K':AV→aA→Prop} (h:XYield P E id ds st K) (hk: ∀r st',K r st'→K' r st'):XYield P E id ds st K':=fun G w vs hr hs=>
 let ⟨b,r,h1,h2,h3,h4⟩:=h G w vs hr hs
 ⟨b,r,h1,h2,h3,h4.mono fun _ _ ⟨u,x,st',G',q1,q2,q3,q4,q5⟩=>⟨u,x,st',G',q1,q2,q3,q4,hk _ _ q5⟩⟩
def zV (P:Program) (E:bA) (i:AK) (tm:Fr) (st:aA) (K:AV→aA→Prop):Prop:=
  match i with
  | .call f as=>XCall P E f (as.map tm.x) st K
  | .fH x as=>match tm.x x with
    | .fn g caps=>eH P g=true∧XCall P E g (as.map tm.x++caps) st K
    | .nR id=>XYield P E id (as.map tm.x) st K
    | _=>False
  | .plain i=>match aE E tm st i with
    | some (v,st')=>K v st'
    | none=>False

def eY (P:Program) (E:bA):List bZ→(Fr→aA→Prop)→Fr→aA→Prop
  | [],K,tm,st=>K tm st
  | o::l,K,tm,st=>
    match o.guard with
    | none=>zV P E o.ins tm st fun v st'=>eY P E l K (tm.put o.dst v) st'
    | some (d,b)=>match tm d with
      | .bool t=>if t=b then zV P E o.ins tm st fun v st'=>eY P E l K (tm.put o.dst v) st' else eY P E l K (tm.put o.dst (.bt [])) st
      | .bt _=>eY P E l K (tm.put o.dst (.bt [])) st
      | _=>False

section
variable {P:Program} {E:bA} {B N:Nat} {ro:Option Nat} {mu:Nat→Bool}

theorem JT (a:Act) (d:Option Nat) (v:Value):(a.put d v).tmps.size=a.tmps.size:=by cases d<;>simp [Act.put]
theorem put_defers (a:Act) (d:Option Nat) (v:Value):(a.put d v).defers=a.defers:=by cases d<;>rfl
theorem er.put {G:Gh} {tm:Fr} {a:Act} {d:Option Nat} {v:AV} {u:Value} (hf:er G tm a) (hd: ∀x,d=some x→x<a.tmps.size) (hr:aU G v u):er G (tm.put d v) (a.put d u):=by
  intro t
  cases d with
  | none=>
    have:(tm.put none v) t=tm t:=by simp [Fr.put]
    rw [this];exact hf t
  | some x=>
    by_cases e:x=t
    · subst e
      have h1:(tm.put (some x) v) x=v:=by simp [Fr.put]
      have h2:(a.put (some x) u).tmps.getD x undef=u:=by simp [Act.put,hd x rfl]
      rw [h1,h2];exact hr
    have h1:(tm.put (some x) v) t=tm t:=by simp [Fr.put,e]
    have h2:(a.put (some x) u).tmps.getD t undef=a.tmps.getD t undef:=by simp [Act.put,Array.getElem?_setIfInBounds_ne e]
    rw [h1,h2];exact hf t
theorem Rel.put {G:Gh} {tm:Fr} {st:aA} {a:Act} {w:World} {d:Option Nat} {v:AV} {u:Value} (h:Rel B N E G tm st a w) (hd: ∀x,d=some x→x<N) (hr:aU G v u):Rel B N E G (tm.put d v) st (a.put d u) w:=
 ⟨by rw [JT];exact h.size,by rw [put_defers];exact h.defers,h.fr.put (fun x hx=>by rw [h.size];exact hd x hx) hr,h.st⟩
theorem Rel.ext {G G':Gh} {tm:Fr} {st st':aA} {a:Act} {w w':World} (h:Rel B N E G tm st a w) (hg:Ext G w G' w') (hs:aG E G' st' w'):Rel B N E G' tm st' a w':=⟨h.size,h.defers.ext hg,h.fr.mono hg.g,hs⟩
theorem ji (G:Gh):aU G (.bt []) undef:=by simp only [aU,aW,undef];exact ⟨[],rfl,rfl⟩
theorem xw {ops:Array Oper} {o:Oper} {x:bZ} (h:wE P N mu ops o=some x):x.dst=o.dst∧(∀d,o.dst=some d→d<N)∧gV P (RH mu o.dst) o.op=some x.ins∧
  ((o.guard=none∧x.guard=none)∨ ∃j b d,o.guard=some (j,b)∧(ops[j]?).bind (·.dst)=some d∧x.guard=some (d,b)):=by
 unfold wE at h
 split at h
 ·rename_i i hi
  split at h
  ·rename_i hd
   have hd': ∀d,o.dst=some d→d<N:=by
    intro d e
    rw [e] at hd
    simpa [CL] using hd
   split at h
   ·rename_i hg
    cases h
    exact ⟨rfl,hd',hi,.inl ⟨hg,rfl⟩⟩
   rename_i j b hg
   split at h
   ·rename_i d hj
    cases h
    exact ⟨rfl,hd',hi,.inr ⟨j,b,d,hg,hj,rfl⟩⟩
   cases h
  cases h
 cases h
theorem mq {α β :Type} {f: α →Option β}: ∀ {l:List α} {l':List β},l.mapM f=some l'→ ∀(i:Nat) a,l[i]? =some a→ ∃b,l'[i]? =some b∧f a=some b
  | [],l',h,i,a,ha=>by simp at ha
  | x::l,l',h,i,a,ha=>by
    simp only [List.mapM_cons,Option.bind_eq_bind,Option.bind_eq_some_iff,Option.pure_def,Option.some.injEq] at h
    obtain ⟨y,hy,ys,hys,rfl⟩:=h
    cases i with
    | zero=>simp at ha;subst ha;exact ⟨y,rfl,hy⟩
    | succ i=>simpa using mq hys i a (by simpa using ha)
theorem jx {f:FuncId} {args:Array Value} {w:World} (h:eH P f=true):(callFunc f args).run P w= .ok (.enter f args) w:=by
 unfold eH at h
 split at h
 ·rename_i fn hfn
  simp only [Bool.and_eq_true,Bool.not_eq_eq_eq_not,Bool.not_true] at h
  have hb:fn.body.isNone=false:=by
   cases hbd:fn.body with
   | none=>rw [hbd] at h;simp at h
   | some c=>rfl
  have hn:(fn.name== "runtime.NumGoroutine")=false:=h.2
  simp only [callFunc,Sem.run_bind,run_program,Result.andThen_ok,hfn,hn,hb,Bool.false_eq_true,if_false,Sem.run_pure]
 cases h
theorem LI {fn:Func} (h:fn.name= "internal/bytealg.IndexByteString"):Extern.find fn=some Extern.BytealgIndexByte.indexByte:=by
 have key: ∀(a b c:Array TypeId) (n:String),n= "internal/bytealg.IndexByteString" →((Extern.allGenericRows.lookup n).map (fun (g:Extern.Generic)=>g a b c) <|> (Extern.allTypedRows.lookup n).map (fun (g:Extern.Typed)=>g b c) <|> Extern.allRows.lookup n)=some Extern.BytealgIndexByte.indexByte:=by
  intro a b c n hn
  subst hn
  kernel_rfl
 unfold Extern.find
 simp only [key _ _ _ _ h]
 rfl
theorem LQ {f:FuncId} (h:Is P f=true) (s:ByteArray) (c:Int) (w:World):(callFunc f #[.string s,.int .u8 c]).run P w= .ok (.value (.int .i64 (Lib.indexByte s.data.toList c.toNat.toUInt8))) w:=by
 unfold Is at h
 split at h
 ·rename_i fn hfn
  simp only [Bool.and_eq_true,beq_iff_eq] at h
  obtain ⟨⟨hn,hb⟩,hx⟩:=h
  have hx':Extern.findNext fn=none:=by simpa using hx
  rw [run_callFunc_extern hfn (by rw [hn];decide) hb hx' (LI hn),Lib.run_indexByteString]
  rfl
 cases h
theorem jS {m:Bool} {op:Op} {i:AK} (h:gV P m op=some i): ∀c,op≠ .defer c:=fun c e=>by
 subst e
 simp [gV,comp] at h
theorem ov {o:Oper} {a:Act} {w:World} {next:Act→World→Prop} {Q:Exit→Act→World→Prop} (hd: ∀c,o.op≠ .defer c) (h:o.uponIn (jW ro) 0 P a next Q ((execOp a.eval o).run P w)):o.wpIn (jW ro) 0 P a w next Q:=by
 refine ⟨fun _ _=>trivial,?_⟩
 rw [Oper.semAt_eq ro a.eval o hd]
 exact h
theorem wY {α :Prop} {x:Option Nat} (h:x=none):x.isSome=true→ α :=fun e=>by rw [h] at e;cases e
def DJ (P:Program) (E:bA) (o:Oper) (a:Act) (tm:Fr) (st:aA) (G:Gh) (w:World) (i:AI):Prop:=
 ∀v st',aE E tm st i=some (v,st')→ec P E (execOp a.eval o) w G v st'

theorem vL {o:Oper} {m:Bool} {i:AK} {G:Gh} {tm:Fr} {st:aA} {a:Act} {w:World} {K:AV→aA→Prop} {next:Act→World→Prop} {Q:Exit→Act→World→Prop} (h:Rel B N E G tm st a w) (hc:gV P m o.op=some i) (hx:zV P E i tm st K)
  (hn: ∀u v st' G' w',aU G' v u→aG E G' st' w'→Ext G w G' w'→K v st'→next (a.put o.dst u) w'):o.wpIn (jW ro) 0 P a w next Q:=by
 have hnd:=jS hc
 have plain: ∀i,DJ P E o a tm st G w i→(match aE E tm st i with | some (v,st')=>K v st' | none=>False)→o.wpIn (jW ro) 0 P a w next Q:=by
  intro i hp hh
  split at hh
  ·rename_i v st' he
   obtain ⟨u,w',G',hr,h1,h2,h3⟩:=hp v st' he
   refine ov hnd ?_
   rcases hr with hr | ⟨hr,rfl⟩
   ·rw [hr];exact hn _ _ _ _ _ h1 h2 h3 hh
   rw [hr];exact hn _ _ _ _ _ h1 h2 h3 hh
  exact hh.elim
 have callcase: ∀(f:FuncId) (ds:List AV) (us:List Value),aW G ds us→(execOp a.eval o).run P w= .ok (.enter f us.toArray) w→XCall P E f ds st K→o.wpIn (jW ro) 0 P a w next Q:=by
  intro f ds us hr hrun hcall
  refine ov hnd ?_
  rw [hrun]
  refine ⟨wY rfl,(callsIn_wide.2 (hcall G w us hr h.st)).mono (F:=Fence.wide) fun e w' ⟨u,r,st',G',he,h1,h2,h3,h4⟩=>?_⟩
  subst he
  exact hn _ _ _ _ _ h1 h2 h3 h4
 have gen: ∀op,o.op=op→(∀c,op≠ .call c)→gV P m op=some i→o.wpIn (jW ro) 0 P a w next Q:=by
  intro op hop hne hc
  have: ∃i',i= .plain i'∧comp P m op=some i':=by
   cases op<;>simp only [gV,Option.map_eq_some_iff] at hc<;>first
    | exact absurd rfl (hne _)
    | (obtain ⟨i',h1,h2⟩:=hc;exact ⟨i',h2.symm,h1⟩)
  obtain ⟨i',rfl,hci⟩:=this
  exact plain i' (fun v st' he=>Am h.st h.fr (hop▸hci) he) hx
 by_cases hcall: ∃c,o.op= .call c
 ·obtain ⟨c,hop⟩:=hcall
  rw [hop] at hc
  simp only [gV] at hc
  split at hc
  ·rename_i f hcal
   split at hc
   ·rename_i as has
    split at hc
    ·rename_i hcb
     cases hc
     have hx2:XCall P E f (as.map tm.x) st K:=by
      by_cases hm:m=true
      ·subst hm
       simp only [if_true,zV,Fr.x,List.append_nil] at hx
       exact hx.2
      rw [if_neg hm] at hx
      exact hx
     refine callcase f _ _ (iZ h.fr has) ?_ hx2
     have:=jx (P:=P) (w:=w) (args:=(c.args.toList.map a.eval).toArray) hcb
     simp only [execOp,hop,resolve,hcal,Deferred.ofValue,Act.eval,pure_bind,invoke,Array.append_empty,Array.empty_append]
     rw [←this]
     congr 2
     apply Array.ext'
     simp
    split at hc
    ·rename_i hixb
     split at hc
     ·rename_i x y
      cases hc
      refine plain (.Rt x y) (fun v st' he=>?_) hx
      simp only [aE] at he
      split at he
      ·rename_i s n hx1 hy1
       cases he
       have hm:=iZ h.fr has
       simp only [List.map_cons,List.map_nil,aW] at hm
       obtain ⟨u1,us1,e1,hr1,u2,us2,e2,hr2,e3⟩:=hm
       rw [hx1] at hr1
       rw [hy1] at hr2
       simp only [aU] at hr1 hr2
       obtain ⟨b,hb,rfl⟩:=hr1
       subst hr2;subst e3;subst e2
       refine ⟨.int .i64 (Lib.indexByte s n.toNat.toUInt8),w,G,.inl ?_,gO _ _,h.st,Ext.refl G w⟩
       have:=LQ (P:=P) hixb b n w
       rw [hb] at this
       simp only [execOp,hop,resolve,hcal,Deferred.ofValue,Act.eval,pure_bind,invoke,Array.append_empty,Array.empty_append]
       rw [←this]
       congr 2
       apply Array.ext'
       simpa using e1
      cases he
     cases hc
    cases hc
   cases hc
  ·rename_i f _ hcal
   split at hc
   ·rename_i x as hx' has
    cases hc
    simp only [zV] at hx
    split at hx
    ·rename_i g caps hg
     obtain ⟨hcb,hx⟩:=hx
     have hf:=bV h.fr hx'
     rw [hg] at hf
     simp only [aU] at hf
     obtain ⟨us,hus,hev⟩:=hf
     refine callcase g _ _ (dX (iZ h.fr has) hus) ?_ hx
     have:=jx (P:=P) (w:=w) (args:=(c.args.toList.map a.eval++us).toArray) hcb
     simp only [execOp,hop,resolve,hcal,Deferred.ofValue,hev,pure_bind,invoke,Array.empty_append]
     rw [←this]
     congr 2
     apply Array.ext'
     simp
    ·rename_i id hg
     have hf:=bV h.fr hx'
     rw [hg] at hf
     obtain ⟨b,r,k1,k2,k3,k4⟩:=hx G w _ (iZ h.fr has) h.st
     simp only [aU,k1] at hf
     refine ov hnd ?_
     have hrun:(execOp a.eval o).run P w= .ok (.round b r.fn ((r.params.zip (c.args.toList.map a.eval).toArray).foldl (fun tmps (t,a)=>tmps.setIfInBounds t a) r.tmps) r.assign r.body) w:=by
      have:=run_yield (P:=P) (args:=(c.args.toList.map a.eval).toArray) k2 (by simpa using k3)
      simp only [execOp,hop,resolve,hcal,Deferred.ofValue,hf,pure_bind,invoke,Array.empty_append]
      rw [←this]
      congr 2
      apply Array.ext'
      simp
     rw [hrun]
     refine ⟨wY rfl,RoundIn.mono (F:=Fence.wide) k4 fun e w' ⟨u,x,st',G',he,h1,h2,h3,h4⟩=>?_⟩
     subst he
     exact hn _ _ _ _ _ h1 h2 h3 h4
    exact hx.elim
   cases hc
  simp only [Option.map_eq_some_iff] at hc
  obtain ⟨i',hi',rfl⟩:=hc
  exact plain i' (fun v st' he=>lK h.st h.fr hi' he o hop rfl) hx
 exact gen o.op rfl (fun c e=>hcall ⟨c,e⟩) hc
def AL (P:Program) (N:Nat) (mu:Nat→Bool) (ops:Array Oper) (o:Oper) (x:bZ):Prop:=x.dst=o.dst∧(∀d,o.dst=some d→d<N)∧(gV P (RH mu o.dst) o.op=some x.ins∨ ∃i,kN P o.op=some i∧x.ins= .plain i)∧
 ((o.guard=none∧x.guard=none)∨ ∃j b d,o.guard=some (j,b)∧(ops[j]?).bind (·.dst)=some d∧x.guard=some (d,b))
theorem Dq {ops:Array Oper} {o:Oper} {x:bZ} (h:wE P N mu ops o=some x):AL P N mu ops o x:=by
 obtain ⟨h1,h2,h3,h4⟩:=xw h
 exact ⟨h1,h2,.inl h3,h4⟩
theorem tD {ops:Array Oper} {o:Oper} {x:bZ} (h:iI P N mu ops o=some x):AL P N mu ops o x:=by
 unfold iI at h
 split at h
 ·split at h
  ·rename_i i hi
   split at h
   ·rename_i hd
    cases h
    refine ⟨rfl,fun d e=>?_,.inr ⟨i,hi,rfl⟩,.inl ⟨hd.2,rfl⟩⟩
    have hd1:=hd.1
    rw [e] at hd1
    simpa [CL] using hd1
   cases h
  cases h
 exact Dq h
theorem Be {o:Oper} {m:Bool} {i:AK} {G:Gh} {tm:Fr} {st:aA} {a:Act} {w:World} {K:AV→aA→Prop} {next:Act→World→Prop} {Q:Exit→Act→World→Prop} (h:Rel B N E G tm st a w) (hc:gV P m o.op=some i∨ ∃i',kN P o.op=some i'∧i= .plain i') (hx:zV P E i tm st K)
  (hn: ∀u v st' G' w',aU G' v u→aG E G' st' w'→Ext G w G' w'→K v st'→next (a.put o.dst u) w'):o.wpIn (jW ro) 0 P a w next Q:=by
 rcases hc with hc | ⟨i',hc,rfl⟩
 ·exact vL h hc hx hn
 have hnd: ∀c,o.op≠ .defer c:=fun c e=>by
  rw [e] at hc
  simp [kN] at hc
 simp only [zV] at hx
 split at hx
 ·rename_i v st' he
  obtain ⟨u,w',G',hr,h1,h2,h3⟩:=wu h.st h.fr hc he
  refine ov hnd ?_
  rcases hr with hr | ⟨hr,rfl⟩
  ·rw [hr];exact hn _ _ _ _ _ h1 h2 h3 hx
  rw [hr];exact hn _ _ _ _ _ h1 h2 h3 hx
 exact hx.elim
theorem jQ {cop:Oper→Option bZ} {ops:Array Oper} {Q:Exit→Act→World→Prop} {K:Fr→aA→Prop} (hcop: ∀o x,cop o=some x→AL P N mu ops o x): ∀(l:List Oper) (al:List bZ),l.mapM cop=some al→ ∀ {G:Gh} {tm:Fr} {st:aA} {a:Act} {w:World},Rel B N E G tm st a w→eY P E al K tm st→
    (∀G' tm' st' a' w',Rel B N E G' tm' st' a' w'→Ext G w G' w'→K tm' st'→Q .normal a' w')→wpListIn (jW ro) 0 P ops Q l a w
  | [],al,hm,G,tm,st,a,w,h,hx,hq=>by
    simp at hm;subst hm
    exact hq G tm st a w h (Ext.refl G w) hx
  | o::l,al,hm,G,tm,st,a,w,h,hx,hq=>by
    simp only [List.mapM_cons,Option.bind_eq_bind,Option.bind_eq_some_iff,Option.pure_def,Option.some.injEq] at hm
    obtain ⟨x,hxo,al',hal,rfl⟩:=hm
    obtain ⟨hdst,hdn,hcomp,hg⟩:=hcop _ _ hxo
    have run:Region.wanted o (yielded ops a.tmps)=true→zV P E x.ins tm st (fun v st'=>eY P E al' K (tm.put x.dst v) st')→wpListIn (jW ro) 0 P ops Q (o::l) a w:=by
      intro hw hx
      unfold wpListIn
      rw [if_pos hw]
      refine Be h hcomp hx fun u v st' G' w' h1 h2 h3 h4=>?_
      rw [hdst] at h4
      exact jQ hcop l al' hal ((h.ext h3 h2).put hdn h1) h4 fun G'' tm' st'' a' w'' q1 q2 q3=>hq _ _ _ _ _ q1 (h3.trans q2) q3
    simp only [eY] at hx
    rcases hg with ⟨g1,g2⟩ | ⟨j,b,d,g1,gj,g2⟩
    · rw [g2] at hx
      exact run (by simp [Region.wanted,g1]) hx
    rw [g2] at hx
    simp only at hx
    split at hx
    · rename_i t ht
      have hd:=h.fr d
      rw [ht] at hd
      simp only [aU] at hd
      have hy:yielded ops a.tmps j=some t:=by
        have hlt:d<a.tmps.size:=by
          rcases Nat.lt_or_ge d a.tmps.size with h' | h'
          · exact h'
          exfalso
          simp [Array.getElem?_eq_none h',undef] at hd
        have:a.tmps[d]? =some (.bool t):=by
          simp [hlt] at hd ⊢
          exact hd
        simp [yielded,gj,this]
      split at hx
      · rename_i hb
        exact run (by simp [Region.wanted,g1,hy,hb]) hx
      rename_i hb
      unfold wpListIn
      rw [if_neg (by simp [Region.wanted,g1,hy,hb])]
      rw [hdst] at hx
      refine ⟨fun _ _=>trivial,?_⟩
      exact jQ hcop l al' hal (h.put hdn (ji G)) hx hq
    · rename_i vs ht
      have hd:=h.fr d
      rw [ht] at hd
      simp only [aU] at hd
      obtain ⟨us,_,hd⟩:=hd
      have hy:yielded ops a.tmps j=none:=by
        have:a.tmps[d]? =none∨a.tmps[d]? =some (.tuple us.toArray):=by
          rcases Nat.lt_or_ge d a.tmps.size with h' | h'
          · right;simp [h'] at hd ⊢;exact hd
          left;exact Array.getElem?_eq_none h'
        rcases this with this | this<;>simp [yielded,gj,this]
      unfold wpListIn
      rw [if_neg (by simp [Region.wanted,g1,hy])]
      rw [hdst] at hx
      refine ⟨fun _ _=>trivial,?_⟩
      exact jQ hcop l al' hal (h.put hdn (ji G)) hx hq
    exact hx.elim
theorem qY {ops:Array Oper} {Q:Exit→Act→World→Prop} {K:Fr→aA→Prop} (l:List Oper) (al:List bZ) (hm:l.mapM (iI P N mu ops)=some al) {G:Gh} {tm:Fr} {st:aA} {a:Act} {w:World} (h:Rel B N E G tm st a w) (hx:eY P E al K tm st)
  (hq: ∀G' tm' st' a' w',Rel B N E G' tm' st' a' w'→Ext G w G' w'→K tm' st'→Q .normal a' w'):wpListIn (jW ro) 0 P ops Q l a w:=
 jQ (mu:=mu) (fun _ _=>tD) l al hm h hx hq
end
end Go.Proofs.YtcidnoghoifmmaaDoor.AW
