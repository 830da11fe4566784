/-
  The abstract walk: the operations in the form in which they are stepped.
-/
import Derived.Test.YtcidnoghoifmmaaDoorFwR
namespace Go.Proofs.YtcidnoghoifmmaaDoor.AW
open Go

section
variable {α β :Type}

def gW (o:Option α) (F: α →Option β):Option β :=
 match o with
 | some a=>F a
 | none=>none
theorem fO (a: α) (F: α →Option β):gW (some a) F=F a:=rfl
def UK (v:AV) (F:Bool→Option β):Option β :=match v with
 | .bool t=>F t
 | _=>none
def ET (v:AV) (F:IntKind→Int→Option β):Option β :=match v with
 | .int k n=>F k n
 | _=>none
def QL (v:AV) (F:List UInt8→Option β):Option β :=match v with
 | .str s=>F s
 | _=>none
def Rj (v:AV) (F:List AV→Option β):Option β :=match v with
 | .agg s=>F s
 | _=>none
def Xc (v:AV) (F:List AV→Option β):Option β :=match v with
 | .bt s=>F s
 | _=>none
def Zg (o:Option cz) (F:List AV→Option β):Option β :=match o with
 | some (.cells cs)=>F cs
 | _=>none
theorem sB (t:Bool) (F:Bool→Option β):UK (.bool t) F=F t:=rfl
theorem jr (k:IntKind) (n:Int) (F:IntKind→Int→Option β):ET (.int k n) F=F k n:=rfl
theorem vw (s:List UInt8) (F:List UInt8→Option β):QL (.str s) F=F s:=rfl
theorem AT (s:List AV) (F:List AV→Option β):Rj (.agg s) F=F s:=rfl
theorem QM (s:List AV) (F:List AV→Option β):Xc (.bt s) F=F s:=rfl
theorem HZ (cs:List AV) (F:List AV→Option β):Zg (some (.cells cs)) F=F cs:=rfl
end

section
variable {E:bA} {tm:Fr} {st:aA}

theorem CO (c a b:AX):aE E tm st (.pick c a b)=UK (tm.x c) fun t=>some (if t then tm.x a else tm.x b,st):=by simp only [aE];cases tm.x c<;>rfl
theorem Qr (n:Nat) (x:AX):aE E tm st (.box n x)=if (tm.x x).cells.length=n then some (.ptr st.length 0,st++[.cells (tm.x x).cells]) else none:=by simp only [aE]
theorem IQ (z:List AV) (ps:List (Nat × Nat × AX)):aE E tm st (.build z ps)=gW (bY z.length ps tm) fun l=>some (.agg (av z l),st):=by simp only [aE];cases bY z.length ps tm<;>rfl
theorem oB (x:AX):aE E tm st (.kg x)=gW (cq E st 1 (tm.x x)) fun cs=>some (cs.headD (.bt []),st):=by simp only [aE];cases cq E st 1 (tm.x x)<;>rfl
theorem oC (n:Nat) (x:AX):aE E tm st (.mo n x)=gW (cq E st n (tm.x x)) fun cs=>some (.agg cs,st):=by simp only [aE];cases cq E st n (tm.x x)<;>rfl
def He {β :Type} (v:AV) (F:Nat→Nat→Option β):Option β :=match v with
 | .ptr id o=>F id o
 | _=>none
theorem xd {β :Type} (id o:Nat) (F:Nat→Nat→Option β):He (.ptr id o) F=F id o:=rfl
theorem yM (n:Nat) (a x:AX):aE E tm st (.store n a x)=He (tm.x a) fun id off=>Zg st[id]? fun cs=>
  if (tm.x x).cells.length=n∧off+n≤cs.length∧(tm.x x).cells.all AV.one=true then some (.bt [],st.set id (.cells (cs.take off++(tm.x x).cells++cs.drop (off+n)))) else none:=by
 simp only [aE]
 cases tm.x a<;>simp only [He]
 rename_i id off
 cases st[id]? with
 | none=>rfl
 | some o=>cases o<;>rfl
def RI (st:aA):AV→Option (AV × aA)
 | .ptr id off=>if alive st id then some (.ptr id off,st) else none
 | .aQ cs=>some (.aQ cs,st)
 | .fV g off=>some (.fV g off,st)
 | .fn f caps=>some (.fn f caps,st)
 | _=>none
theorem yL (x:AX):aE E tm st (.jg x)=RI st (tm.x x):=by simp only [aE];cases tm.x x<;>rfl
theorem JJ (id off:Nat):RI st (.ptr id off)=if alive st id then some (.ptr id off,st) else none:=rfl
theorem Dn (cs:List AV):RI st (.aQ cs)=some (.aQ cs,st):=rfl
theorem LF (op:BinOp) (x y:AX):aE E tm st (.vz op x y)=ET (tm.x x) fun k a=>ET (tm.x y) fun k' b=>(iX op k a k' b).map (fun v=>(v,st)):=by
 simp only [aE]
 cases tm.x x<;>cases tm.x y<;>rfl
theorem LG (op:BinOp) (x y:AX):aE E tm st (.jt op x y)=QL (tm.x x) fun a=>QL (tm.x y) fun b=>(qV op a b).map (fun v=>(v,st)):=by
 simp only [aE]
 cases tm.x x<;>cases tm.x y<;>rfl
theorem IT (neg:Bool) (x y:AX):aE E tm st (.xM neg x y)=UK (tm.x x) fun a=>UK (tm.x y) fun b=>some (.bool ((a==b) != neg),st):=by
 simp only [aE]
 cases tm.x x<;>cases tm.x y<;>rfl
theorem IS (neg:Bool) (ks:List LK) (x y:AX):aE E tm st (.Aj neg ks x y)=Rj (tm.x x) fun a=>Rj (tm.x y) fun b=>gW (AV.eZ ks a b) fun r=>some (.bool (r != neg),st):=by
 simp only [aE]
 cases tm.x x<;>cases tm.x y<;>first | rfl | (rename_i a b;simp only [Rj,gW];cases AV.eZ ks a b<;>rfl)
theorem Qw (x:AX):aE E tm st (.un .not x)=UK (tm.x x) fun b=>some (.bool (!b),st):=by
 simp only [aE]
 cases tm.x x<;>rfl
theorem Qv (x:AX):aE E tm st (.un .neg x)=ET (tm.x x) fun k n=>some (.int k (k.wrap (0-n)),st):=by
 simp only [aE]
 cases tm.x x<;>rfl
theorem Qx (x:AX):aE E tm st (.un .xor x)=ET (tm.x x) fun k n=>some (.int k (k.wrap (BitVec.ofInt k.bits (if k.signed then -1 else k.max) ^^^ BitVec.ofInt k.bits n).toNat),st):=by
 simp only [aE]
 cases tm.x x<;>rfl
theorem Qs (k:IntKind) (x:AX):aE E tm st (.Ah k x)=ET (tm.x x) fun _ n=>some (.int k (k.wrap n),st):=by
 simp only [aE]
 cases tm.x x<;>rfl
theorem Qt (x:AX):aE E tm st (.Me x)=QL (tm.x x) fun s=>some (.str s,st):=by
 simp only [aE]
 cases tm.x x<;>rfl
def Bu (st:aA) (d:Nat):AV→Option (AV × aA)
 | .ptr id o=>if alive st id then some (.ptr id (o+d),st) else none
 | .aQ cs=>some (.aQ (cs.drop d),st)
 | .fV g o=>some (.fV g (o+d),st)
 | _=>none
theorem uc (d id o:Nat):Bu st d (.ptr id o)=if alive st id then some (.ptr id (o+d),st) else none:=rfl
theorem rz (d:Nat) (cs:List AV):Bu st d (.aQ cs)=some (.aQ (cs.drop d),st):=rfl
theorem yK (off:Nat) (x:AX):aE E tm st (.jK off x)=Bu st off (tm.x x):=by simp only [aE];cases tm.x x<;>rfl
theorem uk (len es:Nat) (x i:AX):aE E tm st (.ek len es x i)=ET (tm.x i) fun _ n=>if 0≤n∧n<len then Bu st (n.toNat*es) (tm.x x) else none:=by
 simp only [aE]
 cases tm.x i<;>simp only [ET]
 cases tm.x x<;>rfl
def CN (st:aA) (es:Nat) (n:Int):AV→Option (AV × aA)
 | .sl es' xs _=>if es'=es∧0≤n then gW xs[n.toNat]? fun v=>some (.aQ v.cells,st) else none
 | .row id es' off len=>if alive st id∧es'=es∧0≤n∧n<len then some (.ptr id ((off+n.toNat)*es),st) else none
 | _=>none
theorem IN (es:Nat) (n:Int) (es':Nat) (xs:List AV) (tok:Option Nat):CN st es n (.sl es' xs tok)=if es'=es∧0≤n then gW xs[n.toNat]? fun v=>some (.aQ v.cells,st) else none:=rfl
theorem Dd (es:Nat) (n:Int) (id es' off len:Nat):CN st es n (.row id es' off len)=if alive st id∧es'=es∧0≤n∧n<len then some (.ptr id ((off+n.toNat)*es),st) else none:=rfl
theorem um (es:Nat) (x i:AX):aE E tm st (.kG es x i)=ET (tm.x i) fun _ n=>CN st es n (tm.x x):=by
 simp only [aE]
 cases tm.x i<;>simp only [ET]
 cases tm.x x<;>simp only [CN]
 rename_i n es' xs tok
 by_cases h:es'=es∧0≤n
 ·simp only [if_pos h];cases xs[n.toNat]? <;>rfl
 simp only [if_neg h]
theorem Df (off:Nat) (x:AX):aE E tm st (.nI off x)=Rj (tm.x x) fun cs=>gW cs[off]? fun v=>some (v,st):=by
 simp only [aE]
 cases tm.x x<;>simp only [Rj]
 rename_i cs
 cases cs[off]? <;>rfl
theorem Qu (x i:AX):aE E tm st (.NO x i)=ET (tm.x i) fun _ n=>QL (tm.x x) fun s=>if 0≤n then gW s[n.toNat]? fun b=>some (fW b,st) else none:=by
 simp only [aE]
 cases tm.x i<;>cases tm.x x<;>simp only [ET,QL]
 rename_i k n s
 by_cases h:0≤n
 ·simp only [if_pos h];cases s[n.toNat]? <;>rfl
 simp only [if_neg h]
theorem Al (x:AX) (i:Nat):aE E tm st (.extract x i)=Xc (tm.x x) fun vs=>gW vs[i]? fun v=>some (v,st):=by
 simp only [aE]
 cases tm.x x<;>simp only [Xc]
 rename_i vs
 cases vs[i]? <;>rfl
theorem LH (x:AX):aE E tm st (.qt x)=QL (tm.x x) fun s=>some (.int .i64 s.length,st):=by
 simp only [aE]
 cases tm.x x<;>rfl
def Lb (st:aA):AV→Option (AV × aA)
 | .aP=>some (.int .i64 0,st)
 | .sl _ xs _=>some (.int .i64 xs.length,st)
 | .row id _ _ n=>if alive st id then some (.int .i64 n,st) else none
 | _=>none
theorem wJ (x:AX):aE E tm st (.len x)=Lb st (tm.x x):=by simp only [aE];cases tm.x x<;>rfl
theorem Dm:Lb st .aP=some (.int .i64 0,st):=rfl
theorem Lc (es:Nat) (xs:List AV) (tok:Option Nat):Lb st (.sl es xs tok)=some (.int .i64 xs.length,st):=rfl
theorem Ix (id es off n:Nat):Lb st (.row id es off n)=if alive st id then some (.int .i64 n,st) else none:=rfl
theorem De (es len:Nat) (ag:Bool) (zero:List AV) (parts:List (Nat × Nat × AX)):aE E tm st (.bE es len ag zero parts false)=gW (bY (len*es) parts tm) fun l=>
  if (av (cJ zero len) l).all AV.one=true then some (.sl es ((chunks es len (av (cJ zero len) l)).map (cC ag)) (some st.length),st++[.tail len]) else none:=by
 simp only [aE,Bool.false_eq_true,if_false,gW]
 cases bY (len*es) parts tm<;>rfl
def QK (es bytes:Nat) (st:aA) (ys:List AV):AV→Option (AV × aA)
  | .aP=>match ys with
    | []=>some (.aP,st)
    | _::_=>if ys.length*bytes≤140737488355328 then some (.sl es ys (some st.length),st++[.tail ys.length]) else none
  | .sl es' xs (some id)=>match st[id]? with
    | some (.tail n .none)=>if es'=es∧n=xs.length∧(xs.length+ys.length)*bytes≤140737488355328 then some (.sl es (xs++ys) (some id),st.set id (.tail (xs.length+ys.length))) else none
    | _=>none
  | .row id es' off len=>match st[id]? with
    | some (.cells cs)=>if es'=es∧off=0∧cs.length=len*es∧cs.all AV.one=true∧(len+ys.length)*bytes≤140737488355328 then some (.sl es ((chunks es len cs).map (cC (!(es==1)))++ys) (some st.length),st.set id .dead++[.tail (len+ys.length)]) else none
    | _=>none
  | _=>none
theorem Qq (es bytes:Nat) (x y:AX):aE E tm st (.app es bytes x y)=gW (dy es st (tm.x y)) fun ys=>QK es bytes st ys (tm.x x):=by
 simp only [aE,gW]
 cases dy es st (tm.x y)<;>rfl
end
end Go.Proofs.YtcidnoghoifmmaaDoor.AW
