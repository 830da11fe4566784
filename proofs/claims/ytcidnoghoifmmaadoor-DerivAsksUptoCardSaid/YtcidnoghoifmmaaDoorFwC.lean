/-
  The abstract walk: operations as plain functions on plain data, and what of the program's own operations they stand for.
-/
import Derived.Test.YtcidnoghoifmmaaDoorFwB
import Derived.Lib.Bytealg
namespace Go.Proofs.YtcidnoghoifmmaaDoor.AW
open Go

inductive AX where
 | t (n:Nat)
 | c (v:AV)
 deriving Inhabited

inductive LK where
 | b
 | i
 | s
 deriving Inhabited

inductive AI where
 | mv (x:AX)
 | pick (c a b:AX)
 | alloc (zero:List AV)
 | box (n:Nat) (x:AX)
 | build (zero:List AV) (parts:List (Nat × Nat × AX))
 | bE (es len:Nat) (ag:Bool) (zero:List AV) (parts:List (Nat × Nat × AX)) (mut_:Bool)
 | kg (x:AX)
 | mo (n:Nat) (x:AX)
 | store (n:Nat) (a x:AX)
 | jg (x:AX)
 | vz (op:BinOp) (x y:AX)
 | jt (op:BinOp) (x y:AX)
 | xM (neg:Bool) (x y:AX)
 | Aj (neg:Bool) (ks:List LK) (x y:AX)
 | un (op:UnOp) (x:AX)
 | Ah (k:IntKind) (x:AX)
 | Me (x:AX)
 | Wh (mut_:Bool) (x:AX)
 | KA (x:AX)
 | Vp (x:AX) (lo hi:Option AX)
 | Nq (es:Nat) (x:AX) (lo hi:Option AX)
 | jK (off:Nat) (x:AX)
 | nI (off:Nat) (x:AX)
 | wL (off n:Nat) (x:AX)
 | ek (len es:Nat) (x i:AX)
 | kG (es:Nat) (x i:AX)
 | Aq (len es:Nat) (x i:AX)
 | LP (len es:Nat) (x i:AX)
 | NO (x i:AX)
 | extract (x:AX) (i:Nat)
 | qt (x:AX)
 | len (x:AX)
 | Dl (n:Nat)
 | app (es bytes:Nat) (x y:AX)
 | qj (T es bytes:Nat) (x y:AX)
 | ng (es bytes:Nat) (x y:AX)
 | DW (n:Nat) (x:AX)
 | RR (es:Nat) (x:AX) (lo hi:Option AX)
 | uJ (es len:Nat) (ag:Bool) (zero:List AV) (parts:List (Nat × Nat × AX))
 | max (xs:List AX)
 | min (xs:List AX)
 | mZ (f:FuncId) (caps:List AX)
 | jM (es bytes:Nat) (zero:List AV) (l c:AX) (mut_:Bool)
 | CI (x:AX)
 | fI (kd:Option IntKind)
 | cu (kd:Option IntKind) (m k x:AX)
 | lookup (kd:Option IntKind) (zero:AV) (ok:Bool) (m k:AX)
 | La (x:AX)
 | nD (T n:Nat) (zero:List AV)
 | Rt (x c:AX)
 deriving Inhabited

def Fr.x (tm:Fr):AX→AV
 | .t n=>tm n
 | .c v=>v

def Fr.put (tm:Fr) (d:Option Nat) (v:AV):Fr:=fun i=>if d=some i then v else tm i

def AV.one:AV→Bool
 | .agg _=>false
 | .bt _=>false
 | _=>true

def AV.Rr:LK→AV→AV→Option Bool
 | .b,.bool a,.bool b=>some (a==b)
 | .i,.int k a,.int k' b=>if k=k' then some (a==b) else none
 | .s,.str a,.str b=>some (a==b)
 | _,_,_=>none

def AV.eZ:List LK→List AV→List AV→Option Bool
  | [],[],[]=>some true
  | k::ks,x::xs,y::ys=>match AV.Rr k x y,AV.eZ ks xs ys with
    | some a,some b=>some (a&&b)
    | _,_=>none
  | _,_,_=>none

def iX (op:BinOp) (k:IntKind) (x:Int) (k':IntKind) (y:Int):Option AV:=
 match op with
 | .shl=>if y<0 then none else some (.int k (k.wrap (x*2 ^ (Nat.min y.toNat k.bits))))
 | .shr=>if y<0 then none else some (.int k (x.fdiv (2 ^ (Nat.min y.toNat k.bits))))
 | .add=>if k=k' then some (.int k (k.wrap (x+y))) else none
 | .sub=>if k=k' then some (.int k (k.wrap (x-y))) else none
 | .mul=>if k=k' then some (.int k (k.wrap (x*y))) else none
 | .quo=>if k=k' then (if y=0 then none else some (.int k (k.wrap (x.tdiv y)))) else none
 | .rem=>if k=k' then (if y=0 then none else some (.int k (x.tmod y))) else none
 | .and=>if k=k' then some (.int k (k.wrap (BitVec.ofInt k.bits x &&& BitVec.ofInt k.bits y).toNat)) else none
 | .or=>if k=k' then some (.int k (k.wrap (BitVec.ofInt k.bits x ||| BitVec.ofInt k.bits y).toNat)) else none
 | .xor=>if k=k' then some (.int k (k.wrap (BitVec.ofInt k.bits x ^^^ BitVec.ofInt k.bits y).toNat)) else none
 | .andNot=>if k=k' then some (.int k (k.wrap (BitVec.ofInt k.bits x &&& ~~~(BitVec.ofInt k.bits y)).toNat)) else none
 | .eql=>if k=k' then some (.bool (x==y)) else none
 | .neq=>if k=k' then some (.bool (x != y)) else none
 | .lss=>if k=k' then some (.bool (decide (x<y))) else none
 | .leq=>if k=k' then some (.bool (decide (x≤y))) else none
 | .gtr=>if k=k' then some (.bool (decide (x>y))) else none
 | .geq=>if k=k' then some (.bool (decide (x≥y))) else none

def qV (op:BinOp) (x y:List UInt8):Option AV:=
 match op with
 | .add=>if x.length+y.length≤9223372036854775807 then some (.str (x++y)) else none
 | .eql=>some (.bool (x==y))
 | .neq=>some (.bool (!(x==y)))
 | .lss=>some (.bool (Op.bytesLess x y))
 | .leq=>some (.bool (Op.bytesLess x y||x==y))
 | .gtr=>some (.bool (!(Op.bytesLess x y||x==y)))
 | .geq=>some (.bool (!(Op.bytesLess x y)))
 | _=>none

def av (cells:List AV):List (Nat × List AV)→List AV
 | []=>cells
 | (off,cs)::rest=>av (cells.take off++cs++cells.drop (off+cs.length)) rest

def bY (total:Nat):List (Nat × Nat × AX)→Fr→Option (List (Nat × List AV))
  | [],_=>some []
  | (off,size,x)::rest,tm=>
    if (tm.x x).cells.length=size∧off+size≤total then (bY total rest tm).map (fun l=>(off,(tm.x x).cells)::l) else none

def chunks (es:Nat):Nat→List AV→List (List AV)
 | 0,_=>[]
 | n+1,l=>l.take es::chunks es n (l.drop es)

def cC (agg:Bool) (cs:List AV):AV:=if agg then .agg cs else cs.headD (.bt [])

def cJ (zero:List AV):Nat→List AV
 | 0=>[]
 | n+1=>zero++cJ zero n

def AV.toByte:AV→Option UInt8
 | .int .u8 n=>some (UInt8.ofNat n.toNat)
 | _=>none

def bytesOf (xs:List AV):Option (List UInt8):=xs.mapM AV.toByte

def fW (b:UInt8):AV:=.int .u8 b.toNat

def alive (st:aA) (id:Nat):Bool:=
 match st[id]? with
 | some (.cells _)=>true
 | some .hid=>true
 | _=>false

def jI (st:aA):AV→Option (List AV)
  | .aP=>some []
  | .sl _ xs _=>some xs
  | .row id es off len=>match st[id]? with
    | some (.cells cs)=>if es=1∧off+len≤cs.length then some ((cs.drop off).take len) else none
    | _=>none
  | _=>none

def dy (es:Nat) (st:aA):AV→Option (List AV)
  | .aP=>some []
  | .sl es' xs _=>if es'=es then some xs else none
  | .row id es' off len=>if es=1∧es'=1 then (match st[id]? with
    | some (.cells cs)=>if off+len≤cs.length∧((cs.drop off).take len).all AV.one=true then some ((cs.drop off).take len) else none
    | _=>none) else none
  | .str s=>if es=1 then some (s.map fW) else none
  | _=>none

def bound (o:Option AV) (d:Nat):Option Nat:=
 match o with
 | none=>some d
 | some (.int _ i)=>if 0≤i then some i.toNat else none
 | _=>none

def cq (E:bA) (st:aA) (n:Nat):AV→Option (List AV)
  | .ptr id off=>match st[id]? with
    | some (.cells cs)=>if off+n≤cs.length then some ((cs.drop off).take n) else none
    | _=>none
  | .aQ cs=>if n≤cs.length then some (cs.take n) else none
  | .fV g off=>match E g with
    | some cs=>if off+n≤cs.length then some ((cs.drop off).take n) else none
    | none=>none
  | _=>none

def BD:List AV→Option AV
 | []=>none
 | [x]=>some x
 | .int k a:: .int _ b::rest=>BD (.int k (if b>a then b else a)::rest)
 | _=>none
termination_by l=>l.length

def BE:List AV→Option AV
 | []=>none
 | [x]=>some x
 | .int k a:: .int _ b::rest=>BE (.int k (if b<a then b else a)::rest)
 | _=>none
termination_by l=>l.length

def keyOf (kd:Option IntKind):AV→Option Key
  | .str s=>match kd with
    | none=>some (.s s)
    | some _=>none
  | .int k n=>match kd with
    | some k'=>if k=k' then some (.i n) else none
    | none=>none
  | _=>none

def mb (f:Key→Option AV) (c:Key) (v:AV):Key→Option AV:=fun x=>if x=c then some v else f x

def mapOf (kd:Option IntKind) (st:aA):AV→Option (Key→Option AV)
  | .lZ=>some fun _=>none
  | .mp id=>match st[id]? with
    | some (.map kd' f _)=>if kd'=kd then some f else none
    | _=>none
  | _=>none

def qN (ok:Bool) (zero:AV):Option AV→AV
 | some v=>if ok then .bt [v,.bool true] else v
 | none=>if ok then .bt [zero,.bool false] else zero

def Jp (id T n:Nat):AV→AV
 | .iF=>.pS id T n
 | v=>v

def aE (E:bA) (tm:Fr) (st:aA):AI→Option (AV × aA)
  | .mv x=>some (tm.x x,st)
  | .pick c a b=>match tm.x c with
    | .bool t=>some (if t then tm.x a else tm.x b,st)
    | _=>none
  | .alloc zero=>some (.ptr st.length 0,st++[.cells zero])
  | .uJ es len ag zero parts=>match bY (len*es) parts tm with
    | some l=>if (av (cJ zero len) l).all AV.one=true then some (.sl es ((chunks es len (av (cJ zero len) l)).map (cC ag)) none,st) else none
    | none=>none
  | .RR es x lo hi=>match lo,tm.x x with
    | none,.aP=>match bound (hi.map tm.x) 0 with
      | some 0=>some (.aP,st)
      | _=>none
    | none,.row id es' off len=>match st[id]? with
      | some (.cells cs)=>match bound (hi.map tm.x) len with
        | some h=>if es'=es∧off=0∧cs.length=len*es∧h≤len then some (.row id es 0 h,st.set id (.cells (cs.take (h*es)))) else none
        | none=>none
      | _=>none
    | _,_=>none
  | .DW n x=>if (tm.x x).cells.length=n∧(tm.x x).cells.all AV.one=true then some (.aQ (tm.x x).cells,st) else none
  | .box n x=>if (tm.x x).cells.length=n then some (.ptr st.length 0,st++[.cells (tm.x x).cells]) else none
  | .build zero parts=>match bY zero.length parts tm with
    | some l=>some (.agg (av zero l),st)
    | none=>none
  | .kg x=>match cq E st 1 (tm.x x) with
    | some cs=>some (cs.headD (.bt []),st)
    | none=>none
  | .mo n x=>match cq E st n (tm.x x) with
    | some cs=>some (.agg cs,st)
    | none=>none
  | .store n a x=>match tm.x a with
    | .ptr id off=>match st[id]? with
      | some (.cells cs)=>if (tm.x x).cells.length=n∧off+n≤cs.length∧(tm.x x).cells.all AV.one=true then some (.bt [],st.set id (.cells (cs.take off++(tm.x x).cells++cs.drop (off+n)))) else none
      | _=>none
    | _=>none
  | .jg x=>match tm.x x with
    | .ptr id off=>if alive st id then some (.ptr id off,st) else none
    | .aQ cs=>some (.aQ cs,st)
    | .fV g off=>some (.fV g off,st)
    | .fn f caps=>some (.fn f caps,st)
    | _=>none
  | .vz op x y=>match tm.x x,tm.x y with
    | .int k a,.int k' b=>(iX op k a k' b).map (fun v=>(v,st))
    | _,_=>none
  | .jt op x y=>match tm.x x,tm.x y with
    | .str a,.str b=>(qV op a b).map (fun v=>(v,st))
    | _,_=>none
  | .xM neg x y=>match tm.x x,tm.x y with
    | .bool a,.bool b=>some (.bool ((a==b) != neg),st)
    | _,_=>none
  | .Aj neg ks x y=>match tm.x x,tm.x y with
    | .agg a,.agg b=>match AV.eZ ks a b with
      | some r=>some (.bool (r != neg),st)
      | none=>none
    | _,_=>none
  | .un op x=>match op,tm.x x with
    | .neg,.int k n=>some (.int k (k.wrap (0-n)),st)
    | .xor,.int k n=>some (.int k (k.wrap (BitVec.ofInt k.bits (if k.signed then -1 else k.max) ^^^ BitVec.ofInt k.bits n).toNat),st)
    | .not,.bool b=>some (.bool (!b),st)
    | _,_=>none
  | .Ah k x=>match tm.x x with
    | .int _ n=>some (.int k (k.wrap n),st)
    | _=>none
  | .Me x=>match tm.x x with
    | .str s=>some (.str s,st)
    | _=>none
  | .KA x=>match jI st (tm.x x) with
    | some xs=>match bytesOf xs with
      | some bs=>some (.str bs,st)
      | none=>none
    | none=>none
  | .Wh mut_ x=>match tm.x x with
    | .str s=>if mut_ then some (.row st.length 1 0 s.length,st++[.cells (s.map fW)]) else some (.sl 1 (s.map fW) (some st.length),st++[.tail s.length])
    | _=>none
  | .Vp x lo hi=>match tm.x x with
    | .str s=>match bound (lo.map tm.x) 0,bound (hi.map tm.x) s.length with
      | some l,some h=>if l≤h∧h≤s.length then some (.str ((s.take h).drop l),st) else none
      | _,_=>none
    | _=>none
  | .Nq es x lo hi=>match tm.x x with
    | .sl es' xs _=>match bound (lo.map tm.x) 0,bound (hi.map tm.x) xs.length with
      | some l,some h=>if es'=es∧l≤h∧h≤xs.length then some (.sl es ((xs.take h).drop l) none,st) else none
      | _,_=>none
    | .aP=>match bound (lo.map tm.x) 0,bound (hi.map tm.x) 0 with
      | some 0,some 0=>some (.aP,st)
      | _,_=>none
    | .row id es' off len=>match bound (lo.map tm.x) 0,bound (hi.map tm.x) len with
      | some l,some h=>if alive st id∧es'=es∧l<h∧h≤len then some (.row id es (off+l) (h-l),st) else none
      | _,_=>none
    | _=>none
  | .jK off x=>match tm.x x with
    | .ptr id o=>if alive st id then some (.ptr id (o+off),st) else none
    | .aQ cs=>some (.aQ (cs.drop off),st)
    | .fV g o=>some (.fV g (o+off),st)
    | _=>none
  | .nI off x=>match tm.x x with
    | .agg cs=>match cs[off]? with
      | some v=>some (v,st)
      | none=>none
    | _=>none
  | .wL off n x=>match tm.x x with
    | .agg cs=>if off+n≤cs.length then some (.agg ((cs.drop off).take n),st) else none
    | _=>none
  | .ek len es x i=>match tm.x i with
    | .int _ n=>if 0≤n∧n<len then (match tm.x x with
      | .ptr id o=>if alive st id then some (.ptr id (o+n.toNat*es),st) else none
      | .aQ cs=>some (.aQ (cs.drop (n.toNat*es)),st)
      | .fV g o=>some (.fV g (o+n.toNat*es),st)
      | _=>none) else none
    | _=>none
  | .kG es x i=>match tm.x i with
    | .int _ n=>match tm.x x with
      | .sl es' xs _=>if es'=es∧0≤n then (match xs[n.toNat]? with
        | some v=>some (.aQ v.cells,st)
        | none=>none) else none
      | .row id es' off len=>if alive st id∧es'=es∧0≤n∧n<len then some (.ptr id ((off+n.toNat)*es),st) else none
      | _=>none
    | _=>none
  | .Aq len es x i=>match tm.x i,tm.x x with
    | .int _ n,.agg cs=>if 0≤n∧n<len then (match cs[n.toNat*es]? with
      | some v=>some (v,st)
      | none=>none) else none
    | _,_=>none
  | .LP len es x i=>match tm.x i,tm.x x with
    | .int _ n,.agg cs=>if 0≤n∧n<len∧n.toNat*es+es≤cs.length then some (.agg ((cs.drop (n.toNat*es)).take es),st) else none
    | _,_=>none
  | .NO x i=>match tm.x i,tm.x x with
    | .int _ n,.str s=>if 0≤n then (match s[n.toNat]? with
      | some b=>some (fW b,st)
      | none=>none) else none
    | _,_=>none
  | .extract x i=>match tm.x x with
    | .bt vs=>match vs[i]? with
      | some v=>some (v,st)
      | none=>none
    | _=>none
  | .qt x=>match tm.x x with
    | .str s=>some (.int .i64 s.length,st)
    | _=>none
  | .len x=>match tm.x x with
    | .aP=>some (.int .i64 0,st)
    | .sl _ xs _=>some (.int .i64 xs.length,st)
    | .row id _ _ n=>if alive st id then some (.int .i64 n,st) else none
    | _=>none
  | .Dl n=>some (.int .i64 n,st)
  | .max xs=>(BD (xs.map tm.x)).map (fun v=>(v,st))
  | .min xs=>(BE (xs.map tm.x)).map (fun v=>(v,st))
  | .mZ f caps=>some (.fn f (caps.map tm.x),st)
  | .bE es len ag zero parts mut_=>match bY (len*es) parts tm with
    | some l=>if mut_ then some (.row st.length es 0 len,st++[.cells (av (cJ zero len) l)])
      else if (av (cJ zero len) l).all AV.one=true then some (.sl es ((chunks es len (av (cJ zero len) l)).map (cC ag)) (some st.length),st++[.tail len]) else none
    | none=>none
  | .app es bytes x y=>match dy es st (tm.x y) with
    | some ys=>match tm.x x with
      | .aP=>match ys with
        | []=>some (.aP,st)
        | _::_=>if ys.length*bytes≤140737488355328 then some (.sl es ys (some st.length),st++[.tail ys.length]) else none
      | .sl es' xs (some id)=>match st[id]? with
        | some (.tail n .none)=>if es'=es∧n=xs.length∧(xs.length+ys.length)*bytes≤140737488355328 then some (.sl es (xs++ys) (some id),st.set id (.tail (xs.length+ys.length))) else none
        | _=>none
      | .row id es' off len=>match st[id]? with
        | some (.cells cs)=>if es'=es∧off=0∧cs.length=len*es∧cs.all AV.one=true∧(len+ys.length)*bytes≤140737488355328 then some (.sl es ((chunks es len cs).map (cC (!(es==1)))++ys) (some st.length),st.set id .dead++[.tail (len+ys.length)]) else none
        | _=>none
      | _=>none
    | none=>none
  | .qj T es bytes x y=>match dy es st (tm.x y) with
    | some ys=>match tm.x x with
      | .aP=>match ys with
        | []=>some (.aP,st)
        | _::_=>if ys.length*bytes≤140737488355328 then some (.sl es ys (some st.length),st++[.tail ys.length (some T)]) else none
      | .sl es' xs (some id)=>match st[id]? with
        | some (.tail n (some T'))=>if T'=T∧es'=es∧n=xs.length∧(xs.length+ys.length)*bytes≤140737488355328 then some (.sl es (xs++ys) (some id),st.set id (.tail (xs.length+ys.length) (some T))) else none
        | _=>none
      | _=>none
    | none=>none
  | .ng es bytes x y=>match dy es st (tm.x y) with
    | some ys=>match tm.x x with
      | .aP=>match ys with
        | []=>some (.aP,st)
        | _::_=>if ys.length*bytes≤140737488355328 then some (.row st.length es 0 ys.length,st++[.cells (ys.flatMap AV.cells)]) else none
      | .row id es' off len=>match st[id]? with
        | some (.cells cs)=>if es'=es∧off=0∧cs.length=len*es∧(len+ys.length)*bytes≤140737488355328 then some (.row st.length es 0 (len+ys.length),st.set id .dead++[.cells (cs++ys.flatMap AV.cells)]) else none
        | _=>none
      | _=>none
    | none=>none
  | .jM es bytes zero l c mut_=>match tm.x l,tm.x c with
    | .int _ n,.int _ m=>if mut_ then (if 0≤n∧m=n∧(bytes:Int)*n≤281474976710656 then some (.row st.length es 0 n.toNat,st++[.cells (cJ zero n.toNat)]) else none)
      else (if n=0∧0≤m∧(bytes:Int)*m≤281474976710656 then some (.sl es [] (some st.length),st++[.tail 0]) else none)
    | _,_=>none
  | .CI x=>match tm.x x with
    | .sl es xs (some id)=>match st[id]? with
      | some (.tail n .none)=>if n=xs.length then some (.sl es xs (some id),st) else none
      | _=>none
    | _=>none
  | .fI kd=>some (.mp st.length,st++[.map kd (fun _=>none) 0])
  | .cu kd m k x=>match tm.x m,keyOf kd (tm.x k) with
    | .mp id,some c=>match st[id]? with
      | some (.map kd' f n)=>if kd'=kd then some (.bt [],st.set id (.map kd (mb f c (tm.x x)) (if (f c).isNone then n+1 else n))) else none
      | _=>none
    | _,_=>none
  | .lookup kd zero ok m k=>match mapOf kd st (tm.x m),keyOf kd (tm.x k) with
    | some f,some c=>some (qN ok zero (f c),st)
    | _,_=>none
  | .La x=>match tm.x x with
    | .lZ=>some (.int .i64 0,st)
    | .mp id=>match st[id]? with
      | some (.map _ _ n)=>some (.int .i64 n,st)
      | _=>none
    | _=>none
  | .nD T n zero=>some (.ptr st.length 0,st++[.cells (zero.map (Jp st.length T n))])
  | .Rt x c=>match tm.x x,tm.x c with
    | .str s,.int .u8 n=>some (.int .i64 (Lib.indexByte s n.toNat.toUInt8),st)
    | _,_=>none


def sy:Value→Option AV
 | .int k n=>some (.int k n)
 | .bool b=>some (.bool b)
 | .string s=>some (.str s.data.toList)
 | .pointer none=>some .iF
 | .slice none 0 0=>some .aP
 | .map none=>some .lZ
 | .nilFunc=>some .cQ
 | .nilIface=>some .ic
 | _=>none

def ofConst:Value→Option AV
 | .agg cs=>(cs.toList.mapM sy).map .agg
 | v=>sy v

def cX:Operand→Option AX
 | .tmp t=>some (.t t)
 | .const v=>(ofConst v).map .c
 | .global g=>some (.c (.fV g 0))
 | .func f=>some (.c (.fn f []))

def dU (P:Program) (t:TypeId):Option Bool:=
 match P.underlying t with
 | some (.struct _)=>some true
 | some (.array _ _)=>some true
 | some _=>some false
 | none=>none

def zeroOf (P:Program) (t:TypeId):Option (List AV):=
  match P.info? t with
  | some i=>match i.zero with
    | some z=>match ofConst z with
      | some v=>if v.cells.length=i.size then some v.cells else none
      | none=>none
    | none=>none
  | none=>none

def zeroV (P:Program) (t:TypeId):Option AV:=
  match P.info? t with
  | some i=>match i.zero with
    | some z=>ofConst z
    | none=>none
  | none=>none

def yS (P:Program) (t:TypeId):Option (Option IntKind):=
 match P.underlying t with
 | some .string=>some none
 | some (.int k)=>some (some k)
 | _=>none

def cx (P:Program) (t:TypeId):Option Nat:=(P.info? t).map (·.size)

def iY (f:TypeId→Option (List LK)) (sz:TypeId→Option Nat):List Field→Nat→Option (List LK)
  | [],_=>some []
  | x::fs,o=>match f x.type with
    | some ks=>if x.name≠ "_" ∧x.offset=o∧0<ks.length∧sz x.type=some ks.length then (iY f sz fs (o+ks.length)).map (fun l=>ks++l) else none
    | none=>none

def uO (ks:List LK):Nat→List LK
 | 0=>[]
 | n+1=>ks++uO ks n

def jd (P:Program):Nat→TypeId→Option (List LK)
  | 0,_=>none
  | d+1,t=>
    match P.underlying t with
    | some .bool=>some [.b]
    | some (.int _)=>some [.i]
    | some .string=>some [.s]
    | some (.struct fs)=>if P.stoodInHeld t then none else iY (jd P d) (cx P) fs.toList 0
    | some (.array n e)=>match jd P d e with
      | some ks=>if 0<ks.length∧cx P e=some ks.length then some (uO ks n) else none
      | none=>none
    | _=>none

def oV (P:Program) (t:TypeId):Option (Nat→Option (Nat × Nat)):=
  match P.underlying t with
  | some (.struct fs)=>match fs.toList.mapM (fun f=>(P.info? f.type).map fun i=>(f.offset,i.size)) with
    | some ps=>some fun i=>ps[i]?
    | none=>none
  | some (.array _ e)=>match cx P e with
    | some s=>some fun i=>some (i*s,s)
    | none=>none
  | some (.slice e)=>match cx P e with
    | some s=>some fun i=>some (i*s,s)
    | none=>none
  | _=>none

def Hs (place:Nat→Option (Nat × Nat)) (p:Nat × Operand):Option (Nat × Nat × AX):=
 match place p.1,cX p.2 with
 | some (o,s),some a=>some (o,s,a)
 | _,_=>none

def ga (P:Program) (t:TypeId) (parts:List (Nat × Operand)):Option (List (Nat × Nat × AX)):=
 match oV P t with
 | some place=>parts.mapM (Hs place)
 | none=>none

def cOpt (x:Option Operand):Option (Option AX):=
 match x with
 | none=>some none
 | some y=>(cX y).map some

def nr (P:Program) (op:BinOp) (t:TypeId) (x y:AX):Option AI:=
  match P.underlying t with
  | some (.int _)=>some (.vz op x y)
  | some .string=>some (.jt op x y)
  | some .bool=>match op with
    | .eql=>some (.xM false x y)
    | .neq=>some (.xM true x y)
    | _=>none
  | some (.struct _)=>if P.eqGuardType P.depth t then none else match jd P 20 t with
    | some ks=>match op with
      | .eql=>some (.Aj false ks x y)
      | .neq=>some (.Aj true ks x y)
      | _=>none
    | none=>none
  | some (.array _ _)=>if P.eqGuardType P.depth t then none else match jd P 20 t with
    | some ks=>match op with
      | .eql=>some (.Aj false ks x y)
      | .neq=>some (.Aj true ks x y)
      | _=>none
    | none=>none
  | _=>none

def eH (P:Program) (f:FuncId):Bool:=
 match P.funcs[f]? with
 | some fn=>fn.body.isSome&& !(fn.name== "runtime.NumGoroutine")
 | none=>false

def VF (P:Program) (e:TypeId):Bool:=match P.underlying e with
 | some (.int .u8)=>true
 | _=>false

def ja (P:Program) (mu:Bool) (c:Call):Option AI:=
  match c.callee,c.args.toList.mapM cX with
  | .builtin .len,some [x]=>match (c.argTypes[0]?).bind P.underlying with
    | some .string=>some (.qt x)
    | some (.slice _)=>some (.len x)
    | some (.array n _)=>some (.Dl n)
    | some (.map _ _)=>some (.La x)
    | _=>none
  | .builtin .max,some xs=>some (.max xs)
  | .builtin .min,some xs=>some (.min xs)
  | .builtin .append,some [x,y]=>match (c.argTypes[0]?).bind P.underlying,(c.argTypes[1]?).bind P.underlying with
    | some (.slice e),some (.slice _)=>(P.info? e).bind fun i=>if 0<i.size&&0<i.bytes&&(zeroOf P e).isSome then some (if mu then (if VF P e then .qj e i.size i.bytes x y else .ng i.size i.bytes x y) else .app i.size i.bytes x y) else none
    | some (.slice e),some .string=>(P.info? e).bind fun i=>if 0<i.size&&0<i.bytes&&(zeroOf P e).isSome then some (if mu then (if VF P e then .qj e i.size i.bytes x y else .ng i.size i.bytes x y) else .app i.size i.bytes x y) else none
    | _,_=>none
  | _,_=>none

def NK (P:Program) (t:TypeId):Bool:=
  match P.info? t with
  | some i=>match i.desc with
    | .named n _=>n== "strings.Builder"
    | _=>false
  | none=>false
def hasB (P:Program) (t:TypeId):Bool:=
 match P.underlying t with
 | some (.struct fs)=>NK P t||fs.any (fun f=>NK P f.type)
 | _=>false

def comp (P:Program) (mu:Bool):Op→Option AI
  | .move x=>(cX x).map .mv
  | .assign x=>(cX x).map .mv
  | .pick c a b=>match cX c,cX a,cX b with
    | some c,some a,some b=>some (.pick c a b)
    | _,_,_=>none
  | .alloc t=>(zeroOf P t).map fun z=>if hasB P t then .nD t z.length z else .alloc z
  | .box t x=>match cx P t,cX x with
    | some n,some a=>some (if mu then .DW n a else .box n a)
    | _,_=>none
  | .build t parts=>match P.underlying t with
    | some (.slice _)=>none
    | _=>match zeroOf P t,ga P t parts.toList with
      | some z,some ps=>some (.build z ps)
      | _,_=>none
  | .buildSlice t len parts=>match P.underlying t with
    | some (.slice e)=>match zeroOf P e,ga P t parts.toList,cx P e,dU P e with
      | some z,some ps,some s,some ag=>if 0<s∧len*s≤16777216∧(ag=true∨s=1) then some (if mu then .uJ s len ag z ps else .bE s len ag z ps false) else none
      | _,_,_,_=>none
    | _=>none
  | .load t a=>match dU P t,cx P t,cX a with
    | some true,some n,some x=>some (.mo n x)
    | some false,some _,some x=>some (.kg x)
    | _,_,_=>none
  | .store t a v=>match cx P t,cX a,cX v with
    | some n,some x,some y=>some (.store n x y)
    | _,_,_=>none
  | .nilCheck x=>(cX x).map .jg
  | .binOp op t x y _=>match cX x,cX y with
    | some a,some b=>nr P op t a b
    | _,_=>none
  | .unOp op _ x=>(cX x).map (.un op)
  | .convert src dst x=>match P.underlying src,P.underlying dst,cX x with
    | some (.int _),some (.int k),some a=>some (.Ah k a)
    | some .string,some .string,some a=>some (.Me a)
    | some .string,some (.slice e),some a=>match P.underlying e with
      | some (.int .u8)=>some (.Wh mu a)
      | _=>none
    | some (.slice e),some .string,some a=>match P.underlying e with
      | some (.int .u8)=>some (.KA a)
      | _=>none
    | some (.slice _),some (.slice e),some a=>if src=dst then (match P.underlying e with
      | some (.int .u8)=>some (.CI a)
      | _=>none) else none
    | _,_,_=>none
  | .makeFunc (.func f) first caps=>if first.size=0 then (caps.toList.mapM cX).map (.mZ f) else none
  | .makeSlice t l c=>match P.underlying t with
    | some (.slice e)=>match zeroOf P e,P.info? e,cX l,cX c with
      | some z,some i,some a,some b=>if 0<i.size∧0<i.bytes then some (.jM i.size i.bytes z a b mu) else none
      | _,_,_,_=>none
    | _=>none
  | .slice t x lo hi none=>match P.underlying t,cX x,cOpt lo,cOpt hi with
    | some .string,some a,some l,some h=>some (.Vp a l h)
    | some (.slice e),some a,some l,some h=>(cx P e).map fun s=>if mu then .RR s a l h else .Nq s a l h
    | _,_,_,_=>none
  | .fieldAddr t x i=>match P.underlying t,cX x with
    | some (.struct fs),some a=>match fs[i]? with
      | some f=>match cx P f.type with
        | some (_+1)=>some (.jK f.offset a)
        | _=>none
      | none=>none
    | _,_=>none
  | .field t x i=>match P.underlying t,cX x with
    | some (.struct fs),some a=>match fs[i]? with
      | some f=>match dU P f.type,cx P f.type with
        | some true,some n=>some (.wL f.offset n a)
        | some false,some _=>some (.nI f.offset a)
        | _,_=>none
      | none=>none
    | _,_=>none
  | .indexAddr t x i=>match P.underlying t,cX x,cX i with
    | some (.array n e),some a,some b=>(cx P e).map fun s=>.ek n s a b
    | some (.slice e),some a,some b=>(cx P e).map fun s=>.kG s a b
    | _,_,_=>none
  | .index t x i=>match P.underlying t,cX x,cX i with
    | some (.array n e),some a,some b=>match dU P e,cx P e with
      | some true,some s=>some (.LP n s a b)
      | some false,some s=>some (.Aq n s a b)
      | _,_=>none
    | some .string,some a,some b=>some (.NO a b)
    | _,_,_=>none
  | .extract x i=>(cX x).map fun a=>.extract a i
  | .makeMap t none=>match P.underlying t with
    | some (.map k _)=>(yS P k).map .fI
    | _=>none
  | .insert t m k x=>match P.underlying t,cX m,cX k,cX x with
    | some (.map kt _),some a,some b,some c=>(yS P kt).map fun kd=>.cu kd a b c
    | _,_,_,_=>none
  | .mapUpdate t m k x=>match P.underlying t,cX m,cX k,cX x with
    | some (.map kt _),some a,some b,some c=>(yS P kt).map fun kd=>.cu kd a b c
    | _,_,_,_=>none
  | .lookup t m k ok=>match P.underlying t,cX m,cX k with
    | some (.map kt et),some a,some b=>match yS P kt,zeroV P et with
      | some kd,some z=>some (.lookup kd z ok a b)
      | _,_=>none
    | _,_,_=>none
  | .call c=>ja P mu c
  | _=>none
def kN (P:Program):Op→Option AI
  | .buildSlice t len parts=>match P.underlying t with
    | some (.slice e)=>match zeroOf P e,ga P t parts.toList,cx P e,dU P e with
      | some z,some ps,some s,some ag=>if 0<s∧len*s≤16777216∧(ag=true∨s=1) then some (.bE s len ag z ps true) else none
      | _,_,_,_=>none
    | _=>none
  | _=>none
end Go.Proofs.YtcidnoghoifmmaaDoor.AW
