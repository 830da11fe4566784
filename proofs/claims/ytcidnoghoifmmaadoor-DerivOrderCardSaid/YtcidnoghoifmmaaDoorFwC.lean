/-
  The abstract walk: operations as plain functions on plain data, and what of the program's own operations they stand for.
-/
import Derived.Test.YtcidnoghoifmmaaDoorFwB
import Derived.Lib.Bytealg
namespace Go.Proofs.YtcidnoghoifmmaaDoor.AW
open Go

inductive AX where
  | t (n : Nat)
  | c (v : AV)
  deriving Inhabited

inductive LK where
  | b
  | i
  | s
  deriving Inhabited

inductive AI where
  | mv (x : AX)
  | pick (c a b : AX)
  | alloc (zero : List AV)
  | box (n : Nat) (x : AX)
  | build (zero : List AV) (parts : List (Nat × Nat × AX))
  | bslice (es len : Nat) (ag : Bool) (zero : List AV) (parts : List (Nat × Nat × AX)) (mut_ : Bool)
  | load1 (x : AX)
  | loadN (n : Nat) (x : AX)
  | store (n : Nat) (a x : AX)
  | nilck (x : AX)
  | binI (op : BinOp) (x y : AX)
  | binS (op : BinOp) (x y : AX)
  | eqB (neg : Bool) (x y : AX)
  | eqA (neg : Bool) (ks : List LK) (x y : AX)
  | un (op : UnOp) (x : AX)
  | cvI (k : IntKind) (x : AX)
  | cvS (x : AX)
  | s2b (mut_ : Bool) (x : AX)
  | b2s (x : AX)
  | slS (x : AX) (lo hi : Option AX)
  | slL (es : Nat) (x : AX) (lo hi : Option AX)
  | faddr (off : Nat) (x : AX)
  | field1 (off : Nat) (x : AX)
  | fieldN (off n : Nat) (x : AX)
  | iaddrA (len es : Nat) (x i : AX)
  | iaddrL (es : Nat) (x i : AX)
  | ixA1 (len es : Nat) (x i : AX)
  | ixAN (len es : Nat) (x i : AX)
  | ixS (x i : AX)
  | extract (x : AX) (i : Nat)
  | lenS (x : AX)
  | len (x : AX)
  | lenA (n : Nat)
  | app (es bytes : Nat) (x y : AX)
  | appT (T es bytes : Nat) (x y : AX)
  | appR (es bytes : Nat) (x y : AX)
  | boxD (n : Nat) (x : AX)
  | slR (es : Nat) (x : AX) (lo hi : Option AX)
  | bslD (es len : Nat) (ag : Bool) (zero : List AV) (parts : List (Nat × Nat × AX))
  | max (xs : List AX)
  | min (xs : List AX)
  | mkfn (f : FuncId) (caps : List AX)
  | mkslice (es bytes : Nat) (zero : List AV) (l c : AX) (mut_ : Bool)
  | cvB (x : AX)
  | mkmap (kd : Option IntKind)
  | mapset (kd : Option IntKind) (m k x : AX)
  | lookup (kd : Option IntKind) (zero : AV) (ok : Bool) (m k : AX)
  | lenM (x : AX)
  | allocB (T n : Nat) (zero : List AV)
  | ixB (x c : AX)
  deriving Inhabited

def Fr.x (tm : Fr) : AX → AV
  | .t n => tm n
  | .c v => v

def Fr.put (tm : Fr) (d : Option Nat) (v : AV) : Fr := fun i => if d = some i then v else tm i


def AV.one : AV → Bool
  | .agg _ => false
  | .tup _ => false
  | _ => true

def AV.eqK : LK → AV → AV → Option Bool
  | .b, .bool a, .bool b => some (a == b)
  | .i, .int k a, .int k' b => if k = k' then some (a == b) else none
  | .s, .str a, .str b => some (a == b)
  | _, _, _ => none

def AV.eqKs : List LK → List AV → List AV → Option Bool
  | [], [], [] => some true
  | k :: ks, x :: xs, y :: ys => match AV.eqK k x y, AV.eqKs ks xs ys with
    | some a, some b => some (a && b)
    | _, _ => none
  | _, _, _ => none

def intOp (op : BinOp) (k : IntKind) (x : Int) (k' : IntKind) (y : Int) : Option AV :=
  match op with
  | .shl => if y < 0 then none else some (.int k (k.wrap (x * 2 ^ (Nat.min y.toNat k.bits))))
  | .shr => if y < 0 then none else some (.int k (x.fdiv (2 ^ (Nat.min y.toNat k.bits))))
  | .add => if k = k' then some (.int k (k.wrap (x + y))) else none
  | .sub => if k = k' then some (.int k (k.wrap (x - y))) else none
  | .mul => if k = k' then some (.int k (k.wrap (x * y))) else none
  | .quo => if k = k' then (if y = 0 then none else some (.int k (k.wrap (x.tdiv y)))) else none
  | .rem => if k = k' then (if y = 0 then none else some (.int k (x.tmod y))) else none
  | .and => if k = k' then some (.int k (k.wrap (BitVec.ofInt k.bits x &&& BitVec.ofInt k.bits y).toNat)) else none
  | .or => if k = k' then some (.int k (k.wrap (BitVec.ofInt k.bits x ||| BitVec.ofInt k.bits y).toNat)) else none
  | .xor => if k = k' then some (.int k (k.wrap (BitVec.ofInt k.bits x ^^^ BitVec.ofInt k.bits y).toNat)) else none
  | .andNot => if k = k' then some (.int k (k.wrap (BitVec.ofInt k.bits x &&& ~~~(BitVec.ofInt k.bits y)).toNat)) else none
  | .eql => if k = k' then some (.bool (x == y)) else none
  | .neq => if k = k' then some (.bool (x != y)) else none
  | .lss => if k = k' then some (.bool (decide (x < y))) else none
  | .leq => if k = k' then some (.bool (decide (x ≤ y))) else none
  | .gtr => if k = k' then some (.bool (decide (x > y))) else none
  | .geq => if k = k' then some (.bool (decide (x ≥ y))) else none

def strOp (op : BinOp) (x y : List UInt8) : Option AV :=
  match op with
  | .add => if x.length + y.length ≤ 9223372036854775807 then some (.str (x ++ y)) else none
  | .eql => some (.bool (x == y))
  | .neq => some (.bool (!(x == y)))
  | .lss => some (.bool (Op.bytesLess x y))
  | .leq => some (.bool (Op.bytesLess x y || x == y))
  | .gtr => some (.bool (!(Op.bytesLess x y || x == y)))
  | .geq => some (.bool (!(Op.bytesLess x y)))
  | _ => none

def fillA (cells : List AV) : List (Nat × List AV) → List AV
  | [] => cells
  | (off, cs) :: rest => fillA (cells.take off ++ cs ++ cells.drop (off + cs.length)) rest

def partsOk (total : Nat) : List (Nat × Nat × AX) → Fr → Option (List (Nat × List AV))
  | [], _ => some []
  | (off, size, x) :: rest, tm =>
    if (tm.x x).cells.length = size ∧ off + size ≤ total then (partsOk total rest tm).map (fun l => (off, (tm.x x).cells) :: l) else none

def chunks (es : Nat) : Nat → List AV → List (List AV)
  | 0, _ => []
  | n + 1, l => l.take es :: chunks es n (l.drop es)

def ofCells (agg : Bool) (cs : List AV) : AV := if agg then .agg cs else cs.headD (.tup [])

def rep0 (zero : List AV) : Nat → List AV
  | 0 => []
  | n + 1 => zero ++ rep0 zero n

def AV.toByte : AV → Option UInt8
  | .int .u8 n => some (UInt8.ofNat n.toNat)
  | _ => none

def bytesOf (xs : List AV) : Option (List UInt8) := xs.mapM AV.toByte

def ofByte (b : UInt8) : AV := .int .u8 b.toNat

def alive (st : Store) (id : Nat) : Bool :=
  match st[id]? with
  | some (.cells _) => true
  | some .hid => true
  | _ => false

def elemsOf (st : Store) : AV → Option (List AV)
  | .nils => some []
  | .sl _ xs _ => some xs
  | .row id es off len => match st[id]? with
    | some (.cells cs) => if es = 1 ∧ off + len ≤ cs.length then some ((cs.drop off).take len) else none
    | _ => none
  | _ => none

def appElems (es : Nat) (st : Store) : AV → Option (List AV)
  | .nils => some []
  | .sl es' xs _ => if es' = es then some xs else none
  | .row id es' off len => if es = 1 ∧ es' = 1 then (match st[id]? with
    | some (.cells cs) => if off + len ≤ cs.length ∧ ((cs.drop off).take len).all AV.one = true then some ((cs.drop off).take len) else none
    | _ => none) else none
  | .str s => if es = 1 then some (s.map ofByte) else none
  | _ => none

def bound (o : Option AV) (d : Nat) : Option Nat :=
  match o with
  | none => some d
  | some (.int _ i) => if 0 ≤ i then some i.toNat else none
  | _ => none

def cellsAt (E : Glob) (st : Store) (n : Nat) : AV → Option (List AV)
  | .ptr id off => match st[id]? with
    | some (.cells cs) => if off + n ≤ cs.length then some ((cs.drop off).take n) else none
    | _ => none
  | .dptr cs => if n ≤ cs.length then some (cs.take n) else none
  | .gptr g off => match E g with
    | some cs => if off + n ≤ cs.length then some ((cs.drop off).take n) else none
    | none => none
  | _ => none

def maxA : List AV → Option AV
  | [] => none
  | [x] => some x
  | .int k a :: .int _ b :: rest => maxA (.int k (if b > a then b else a) :: rest)
  | _ => none
termination_by l => l.length

def minA : List AV → Option AV
  | [] => none
  | [x] => some x
  | .int k a :: .int _ b :: rest => minA (.int k (if b < a then b else a) :: rest)
  | _ => none
termination_by l => l.length

def keyOf (kd : Option IntKind) : AV → Option Key
  | .str s => match kd with
    | none => some (.s s)
    | some _ => none
  | .int k n => match kd with
    | some k' => if k = k' then some (.i n) else none
    | none => none
  | _ => none

def updK (f : Key → Option AV) (c : Key) (v : AV) : Key → Option AV := fun x => if x = c then some v else f x

def mapOf (kd : Option IntKind) (st : Store) : AV → Option (Key → Option AV)
  | .nilmp => some fun _ => none
  | .mp id => match st[id]? with
    | some (.map kd' f _) => if kd' = kd then some f else none
    | _ => none
  | _ => none

def lookA (ok : Bool) (zero : AV) : Option AV → AV
  | some v => if ok then .tup [v, .bool true] else v
  | none => if ok then .tup [zero, .bool false] else zero

def tagN (id T n : Nat) : AV → AV
  | .nilptr => .nilB id T n
  | v => v

def evalAI (E : Glob) (tm : Fr) (st : Store) : AI → Option (AV × Store)
  | .mv x => some (tm.x x, st)
  | .pick c a b => match tm.x c with
    | .bool t => some (if t then tm.x a else tm.x b, st)
    | _ => none
  | .alloc zero => some (.ptr st.length 0, st ++ [.cells zero])
  | .bslD es len ag zero parts => match partsOk (len * es) parts tm with
    | some l => if (fillA (rep0 zero len) l).all AV.one = true then some (.sl es ((chunks es len (fillA (rep0 zero len) l)).map (ofCells ag)) none, st) else none
    | none => none
  | .slR es x lo hi => match lo, tm.x x with
    | none, .nils => match bound (hi.map tm.x) 0 with
      | some 0 => some (.nils, st)
      | _ => none
    | none, .row id es' off len => match st[id]? with
      | some (.cells cs) => match bound (hi.map tm.x) len with
        | some h => if es' = es ∧ off = 0 ∧ cs.length = len * es ∧ h ≤ len then some (.row id es 0 h, st.set id (.cells (cs.take (h * es)))) else none
        | none => none
      | _ => none
    | _, _ => none
  | .boxD n x => if (tm.x x).cells.length = n ∧ (tm.x x).cells.all AV.one = true then some (.dptr (tm.x x).cells, st) else none
  | .box n x => if (tm.x x).cells.length = n then some (.ptr st.length 0, st ++ [.cells (tm.x x).cells]) else none
  | .build zero parts => match partsOk zero.length parts tm with
    | some l => some (.agg (fillA zero l), st)
    | none => none
  | .load1 x => match cellsAt E st 1 (tm.x x) with
    | some cs => some (cs.headD (.tup []), st)
    | none => none
  | .loadN n x => match cellsAt E st n (tm.x x) with
    | some cs => some (.agg cs, st)
    | none => none
  | .store n a x => match tm.x a with
    | .ptr id off => match st[id]? with
      | some (.cells cs) => if (tm.x x).cells.length = n ∧ off + n ≤ cs.length ∧ (tm.x x).cells.all AV.one = true then some (.tup [], st.set id (.cells (cs.take off ++ (tm.x x).cells ++ cs.drop (off + n)))) else none
      | _ => none
    | _ => none
  | .nilck x => match tm.x x with
    | .ptr id off => if alive st id then some (.ptr id off, st) else none
    | .dptr cs => some (.dptr cs, st)
    | .gptr g off => some (.gptr g off, st)
    | .fn f caps => some (.fn f caps, st)
    | _ => none
  | .binI op x y => match tm.x x, tm.x y with
    | .int k a, .int k' b => (intOp op k a k' b).map (fun v => (v, st))
    | _, _ => none
  | .binS op x y => match tm.x x, tm.x y with
    | .str a, .str b => (strOp op a b).map (fun v => (v, st))
    | _, _ => none
  | .eqB neg x y => match tm.x x, tm.x y with
    | .bool a, .bool b => some (.bool ((a == b) != neg), st)
    | _, _ => none
  | .eqA neg ks x y => match tm.x x, tm.x y with
    | .agg a, .agg b => match AV.eqKs ks a b with
      | some r => some (.bool (r != neg), st)
      | none => none
    | _, _ => none
  | .un op x => match op, tm.x x with
    | .neg, .int k n => some (.int k (k.wrap (0 - n)), st)
    | .xor, .int k n => some (.int k (k.wrap (BitVec.ofInt k.bits (if k.signed then -1 else k.max) ^^^ BitVec.ofInt k.bits n).toNat), st)
    | .not, .bool b => some (.bool (!b), st)
    | _, _ => none
  | .cvI k x => match tm.x x with
    | .int _ n => some (.int k (k.wrap n), st)
    | _ => none
  | .cvS x => match tm.x x with
    | .str s => some (.str s, st)
    | _ => none
  | .b2s x => match elemsOf st (tm.x x) with
    | some xs => match bytesOf xs with
      | some bs => some (.str bs, st)
      | none => none
    | none => none
  | .s2b mut_ x => match tm.x x with
    | .str s => if mut_ then some (.row st.length 1 0 s.length, st ++ [.cells (s.map ofByte)]) else some (.sl 1 (s.map ofByte) (some st.length), st ++ [.tail s.length])
    | _ => none
  | .slS x lo hi => match tm.x x with
    | .str s => match bound (lo.map tm.x) 0, bound (hi.map tm.x) s.length with
      | some l, some h => if l ≤ h ∧ h ≤ s.length then some (.str ((s.take h).drop l), st) else none
      | _, _ => none
    | _ => none
  | .slL es x lo hi => match tm.x x with
    | .sl es' xs _ => match bound (lo.map tm.x) 0, bound (hi.map tm.x) xs.length with
      | some l, some h => if es' = es ∧ l ≤ h ∧ h ≤ xs.length then some (.sl es ((xs.take h).drop l) none, st) else none
      | _, _ => none
    | .nils => match bound (lo.map tm.x) 0, bound (hi.map tm.x) 0 with
      | some 0, some 0 => some (.nils, st)
      | _, _ => none
    | .row id es' off len => match bound (lo.map tm.x) 0, bound (hi.map tm.x) len with
      | some l, some h => if alive st id ∧ es' = es ∧ l < h ∧ h ≤ len then some (.row id es (off + l) (h - l), st) else none
      | _, _ => none
    | _ => none
  | .faddr off x => match tm.x x with
    | .ptr id o => if alive st id then some (.ptr id (o + off), st) else none
    | .dptr cs => some (.dptr (cs.drop off), st)
    | .gptr g o => some (.gptr g (o + off), st)
    | _ => none
  | .field1 off x => match tm.x x with
    | .agg cs => match cs[off]? with
      | some v => some (v, st)
      | none => none
    | _ => none
  | .fieldN off n x => match tm.x x with
    | .agg cs => if off + n ≤ cs.length then some (.agg ((cs.drop off).take n), st) else none
    | _ => none
  | .iaddrA len es x i => match tm.x i with
    | .int _ n => if 0 ≤ n ∧ n < len then (match tm.x x with
      | .ptr id o => if alive st id then some (.ptr id (o + n.toNat * es), st) else none
      | .dptr cs => some (.dptr (cs.drop (n.toNat * es)), st)
      | .gptr g o => some (.gptr g (o + n.toNat * es), st)
      | _ => none) else none
    | _ => none
  | .iaddrL es x i => match tm.x i with
    | .int _ n => match tm.x x with
      | .sl es' xs _ => if es' = es ∧ 0 ≤ n then (match xs[n.toNat]? with
        | some v => some (.dptr v.cells, st)
        | none => none) else none
      | .row id es' off len => if alive st id ∧ es' = es ∧ 0 ≤ n ∧ n < len then some (.ptr id ((off + n.toNat) * es), st) else none
      | _ => none
    | _ => none
  | .ixA1 len es x i => match tm.x i, tm.x x with
    | .int _ n, .agg cs => if 0 ≤ n ∧ n < len then (match cs[n.toNat * es]? with
      | some v => some (v, st)
      | none => none) else none
    | _, _ => none
  | .ixAN len es x i => match tm.x i, tm.x x with
    | .int _ n, .agg cs => if 0 ≤ n ∧ n < len ∧ n.toNat * es + es ≤ cs.length then some (.agg ((cs.drop (n.toNat * es)).take es), st) else none
    | _, _ => none
  | .ixS x i => match tm.x i, tm.x x with
    | .int _ n, .str s => if 0 ≤ n then (match s[n.toNat]? with
      | some b => some (ofByte b, st)
      | none => none) else none
    | _, _ => none
  | .extract x i => match tm.x x with
    | .tup vs => match vs[i]? with
      | some v => some (v, st)
      | none => none
    | _ => none
  | .lenS x => match tm.x x with
    | .str s => some (.int .i64 s.length, st)
    | _ => none
  | .len x => match tm.x x with
    | .nils => some (.int .i64 0, st)
    | .sl _ xs _ => some (.int .i64 xs.length, st)
    | .row id _ _ n => if alive st id then some (.int .i64 n, st) else none
    | _ => none
  | .lenA n => some (.int .i64 n, st)
  | .max xs => (maxA (xs.map tm.x)).map (fun v => (v, st))
  | .min xs => (minA (xs.map tm.x)).map (fun v => (v, st))
  | .mkfn f caps => some (.fn f (caps.map tm.x), st)
  | .bslice es len ag zero parts mut_ => match partsOk (len * es) parts tm with
    | some l => if mut_ then some (.row st.length es 0 len, st ++ [.cells (fillA (rep0 zero len) l)])
      else if (fillA (rep0 zero len) l).all AV.one = true then some (.sl es ((chunks es len (fillA (rep0 zero len) l)).map (ofCells ag)) (some st.length), st ++ [.tail len]) else none
    | none => none
  | .app es bytes x y => match appElems es st (tm.x y) with
    | some ys => match tm.x x with
      | .nils => match ys with
        | [] => some (.nils, st)
        | _ :: _ => if ys.length * bytes ≤ 140737488355328 then some (.sl es ys (some st.length), st ++ [.tail ys.length]) else none
      | .sl es' xs (some id) => match st[id]? with
        | some (.tail n .none) => if es' = es ∧ n = xs.length ∧ (xs.length + ys.length) * bytes ≤ 140737488355328 then some (.sl es (xs ++ ys) (some id), st.set id (.tail (xs.length + ys.length))) else none
        | _ => none
      | .row id es' off len => match st[id]? with
        | some (.cells cs) => if es' = es ∧ off = 0 ∧ cs.length = len * es ∧ cs.all AV.one = true ∧ (len + ys.length) * bytes ≤ 140737488355328 then some (.sl es ((chunks es len cs).map (ofCells (!(es == 1))) ++ ys) (some st.length), st.set id .dead ++ [.tail (len + ys.length)]) else none
        | _ => none
      | _ => none
    | none => none
  | .appT T es bytes x y => match appElems es st (tm.x y) with
    | some ys => match tm.x x with
      | .nils => match ys with
        | [] => some (.nils, st)
        | _ :: _ => if ys.length * bytes ≤ 140737488355328 then some (.sl es ys (some st.length), st ++ [.tail ys.length (some T)]) else none
      | .sl es' xs (some id) => match st[id]? with
        | some (.tail n (some T')) => if T' = T ∧ es' = es ∧ n = xs.length ∧ (xs.length + ys.length) * bytes ≤ 140737488355328 then some (.sl es (xs ++ ys) (some id), st.set id (.tail (xs.length + ys.length) (some T))) else none
        | _ => none
      | _ => none
    | none => none
  | .appR es bytes x y => match appElems es st (tm.x y) with
    | some ys => match tm.x x with
      | .nils => match ys with
        | [] => some (.nils, st)
        | _ :: _ => if ys.length * bytes ≤ 140737488355328 then some (.row st.length es 0 ys.length, st ++ [.cells (ys.flatMap AV.cells)]) else none
      | .row id es' off len => match st[id]? with
        | some (.cells cs) => if es' = es ∧ off = 0 ∧ cs.length = len * es ∧ (len + ys.length) * bytes ≤ 140737488355328 then some (.row st.length es 0 (len + ys.length), st.set id .dead ++ [.cells (cs ++ ys.flatMap AV.cells)]) else none
        | _ => none
      | _ => none
    | none => none
  | .mkslice es bytes zero l c mut_ => match tm.x l, tm.x c with
    | .int _ n, .int _ m => if mut_ then (if 0 ≤ n ∧ m = n ∧ (bytes : Int) * n ≤ 281474976710656 then some (.row st.length es 0 n.toNat, st ++ [.cells (rep0 zero n.toNat)]) else none)
      else (if n = 0 ∧ 0 ≤ m ∧ (bytes : Int) * m ≤ 281474976710656 then some (.sl es [] (some st.length), st ++ [.tail 0]) else none)
    | _, _ => none
  | .cvB x => match tm.x x with
    | .sl es xs (some id) => match st[id]? with
      | some (.tail n .none) => if n = xs.length then some (.sl es xs (some id), st) else none
      | _ => none
    | _ => none
  | .mkmap kd => some (.mp st.length, st ++ [.map kd (fun _ => none) 0])
  | .mapset kd m k x => match tm.x m, keyOf kd (tm.x k) with
    | .mp id, some c => match st[id]? with
      | some (.map kd' f n) => if kd' = kd then some (.tup [], st.set id (.map kd (updK f c (tm.x x)) (if (f c).isNone then n + 1 else n))) else none
      | _ => none
    | _, _ => none
  | .lookup kd zero ok m k => match mapOf kd st (tm.x m), keyOf kd (tm.x k) with
    | some f, some c => some (lookA ok zero (f c), st)
    | _, _ => none
  | .lenM x => match tm.x x with
    | .nilmp => some (.int .i64 0, st)
    | .mp id => match st[id]? with
      | some (.map _ _ n) => some (.int .i64 n, st)
      | _ => none
    | _ => none
  | .allocB T n zero => some (.ptr st.length 0, st ++ [.cells (zero.map (tagN st.length T n))])
  | .ixB x c => match tm.x x, tm.x c with
    | .str s, .int .u8 n => some (.int .i64 (Lib.indexByte s n.toNat.toUInt8), st)
    | _, _ => none


def ofCell : Value → Option AV
  | .int k n => some (.int k n)
  | .bool b => some (.bool b)
  | .string s => some (.str s.data.toList)
  | .pointer none => some .nilptr
  | .slice none 0 0 => some .nils
  | .map none => some .nilmp
  | .nilFunc => some .nilfn
  | .nilIface => some .nilif
  | _ => none

def ofConst : Value → Option AV
  | .agg cs => (cs.toList.mapM ofCell).map .agg
  | v => ofCell v

def cX : Operand → Option AX
  | .tmp t => some (.t t)
  | .const v => (ofConst v).map .c
  | .global g => some (.c (.gptr g 0))
  | .func f => some (.c (.fn f []))

def aggOf (P : Program) (t : TypeId) : Option Bool :=
  match P.underlying t with
  | some (.struct _) => some true
  | some (.array _ _) => some true
  | some _ => some false
  | none => none

def zeroOf (P : Program) (t : TypeId) : Option (List AV) :=
  match P.info? t with
  | some i => match i.zero with
    | some z => match ofConst z with
      | some v => if v.cells.length = i.size then some v.cells else none
      | none => none
    | none => none
  | none => none

def zeroV (P : Program) (t : TypeId) : Option AV :=
  match P.info? t with
  | some i => match i.zero with
    | some z => ofConst z
    | none => none
  | none => none

def kdOf (P : Program) (t : TypeId) : Option (Option IntKind) :=
  match P.underlying t with
  | some .string => some none
  | some (.int k) => some (some k)
  | _ => none

def sizeA (P : Program) (t : TypeId) : Option Nat := (P.info? t).map (·.size)

def leafFields (f : TypeId → Option (List LK)) (sz : TypeId → Option Nat) : List Field → Nat → Option (List LK)
  | [], _ => some []
  | x :: fs, o => match f x.type with
    | some ks => if x.name ≠ "_" ∧ x.offset = o ∧ 0 < ks.length ∧ sz x.type = some ks.length then (leafFields f sz fs (o + ks.length)).map (fun l => ks ++ l) else none
    | none => none

def repK (ks : List LK) : Nat → List LK
  | 0 => []
  | n + 1 => ks ++ repK ks n

def leafs (P : Program) : Nat → TypeId → Option (List LK)
  | 0, _ => none
  | d + 1, t =>
    match P.underlying t with
    | some .bool => some [.b]
    | some (.int _) => some [.i]
    | some .string => some [.s]
    | some (.struct fs) => if P.stoodInHeld t then none else leafFields (leafs P d) (sizeA P) fs.toList 0
    | some (.array n e) => match leafs P d e with
      | some ks => if 0 < ks.length ∧ sizeA P e = some ks.length then some (repK ks n) else none
      | none => none
    | _ => none

def placesOf (P : Program) (t : TypeId) : Option (Nat → Option (Nat × Nat)) :=
  match P.underlying t with
  | some (.struct fs) => match fs.toList.mapM (fun f => (P.info? f.type).map fun i => (f.offset, i.size)) with
    | some ps => some fun i => ps[i]?
    | none => none
  | some (.array _ e) => match sizeA P e with
    | some s => some fun i => some (i * s, s)
    | none => none
  | some (.slice e) => match sizeA P e with
    | some s => some fun i => some (i * s, s)
    | none => none
  | _ => none

def cPart (place : Nat → Option (Nat × Nat)) (p : Nat × Operand) : Option (Nat × Nat × AX) :=
  match place p.1, cX p.2 with
  | some (o, s), some a => some (o, s, a)
  | _, _ => none

def cParts (P : Program) (t : TypeId) (parts : List (Nat × Operand)) : Option (List (Nat × Nat × AX)) :=
  match placesOf P t with
  | some place => parts.mapM (cPart place)
  | none => none

def cOpt (x : Option Operand) : Option (Option AX) :=
  match x with
  | none => some none
  | some y => (cX y).map some

def compBin (P : Program) (op : BinOp) (t : TypeId) (x y : AX) : Option AI :=
  match P.underlying t with
  | some (.int _) => some (.binI op x y)
  | some .string => some (.binS op x y)
  | some .bool => match op with
    | .eql => some (.eqB false x y)
    | .neq => some (.eqB true x y)
    | _ => none
  | some (.struct _) => if P.eqGuardType P.depth t then none else match leafs P 20 t with
    | some ks => match op with
      | .eql => some (.eqA false ks x y)
      | .neq => some (.eqA true ks x y)
      | _ => none
    | none => none
  | some (.array _ _) => if P.eqGuardType P.depth t then none else match leafs P 20 t with
    | some ks => match op with
      | .eql => some (.eqA false ks x y)
      | .neq => some (.eqA true ks x y)
      | _ => none
    | none => none
  | _ => none

def callable (P : Program) (f : FuncId) : Bool :=
  match P.funcs[f]? with
  | some fn => fn.body.isSome && !(fn.name == "runtime.NumGoroutine")
  | none => false

def isB8 (P : Program) (e : TypeId) : Bool := match P.underlying e with
  | some (.int .u8) => true
  | _ => false

def compCall (P : Program) (mu : Bool) (c : Call) : Option AI :=
  match c.callee, c.args.toList.mapM cX with
  | .builtin .len, some [x] => match (c.argTypes[0]?).bind P.underlying with
    | some .string => some (.lenS x)
    | some (.slice _) => some (.len x)
    | some (.array n _) => some (.lenA n)
    | some (.map _ _) => some (.lenM x)
    | _ => none
  | .builtin .max, some xs => some (.max xs)
  | .builtin .min, some xs => some (.min xs)
  | .builtin .append, some [x, y] => match (c.argTypes[0]?).bind P.underlying, (c.argTypes[1]?).bind P.underlying with
    | some (.slice e), some (.slice _) => (P.info? e).bind fun i => if 0 < i.size && 0 < i.bytes && (zeroOf P e).isSome then some (if mu then (if isB8 P e then .appT e i.size i.bytes x y else .appR i.size i.bytes x y) else .app i.size i.bytes x y) else none
    | some (.slice e), some .string => (P.info? e).bind fun i => if 0 < i.size && 0 < i.bytes && (zeroOf P e).isSome then some (if mu then (if isB8 P e then .appT e i.size i.bytes x y else .appR i.size i.bytes x y) else .app i.size i.bytes x y) else none
    | _, _ => none
  | _, _ => none

def isBld (P : Program) (t : TypeId) : Bool :=
  match P.info? t with
  | some i => match i.desc with
    | .named n _ => n == "strings.Builder"
    | _ => false
  | none => false
def hasB (P : Program) (t : TypeId) : Bool :=
  match P.underlying t with
  | some (.struct fs) => isBld P t || fs.any (fun f => isBld P f.type)
  | _ => false

def comp (P : Program) (mu : Bool) : Op → Option AI
  | .move x => (cX x).map .mv
  | .assign x => (cX x).map .mv
  | .pick c a b => match cX c, cX a, cX b with
    | some c, some a, some b => some (.pick c a b)
    | _, _, _ => none
  | .alloc t => (zeroOf P t).map fun z => if hasB P t then .allocB t z.length z else .alloc z
  | .box t x => match sizeA P t, cX x with
    | some n, some a => some (if mu then .boxD n a else .box n a)
    | _, _ => none
  | .build t parts => match P.underlying t with
    | some (.slice _) => none
    | _ => match zeroOf P t, cParts P t parts.toList with
      | some z, some ps => some (.build z ps)
      | _, _ => none
  | .buildSlice t len parts => match P.underlying t with
    | some (.slice e) => match zeroOf P e, cParts P t parts.toList, sizeA P e, aggOf P e with
      | some z, some ps, some s, some ag => if 0 < s ∧ len * s ≤ 16777216 ∧ (ag = true ∨ s = 1) then some (if mu then .bslD s len ag z ps else .bslice s len ag z ps false) else none
      | _, _, _, _ => none
    | _ => none
  | .load t a => match aggOf P t, sizeA P t, cX a with
    | some true, some n, some x => some (.loadN n x)
    | some false, some _, some x => some (.load1 x)
    | _, _, _ => none
  | .store t a v => match sizeA P t, cX a, cX v with
    | some n, some x, some y => some (.store n x y)
    | _, _, _ => none
  | .nilCheck x => (cX x).map .nilck
  | .binOp op t x y _ => match cX x, cX y with
    | some a, some b => compBin P op t a b
    | _, _ => none
  | .unOp op _ x => (cX x).map (.un op)
  | .convert src dst x => match P.underlying src, P.underlying dst, cX x with
    | some (.int _), some (.int k), some a => some (.cvI k a)
    | some .string, some .string, some a => some (.cvS a)
    | some .string, some (.slice e), some a => match P.underlying e with
      | some (.int .u8) => some (.s2b mu a)
      | _ => none
    | some (.slice e), some .string, some a => match P.underlying e with
      | some (.int .u8) => some (.b2s a)
      | _ => none
    | some (.slice _), some (.slice e), some a => if src = dst then (match P.underlying e with
      | some (.int .u8) => some (.cvB a)
      | _ => none) else none
    | _, _, _ => none
  | .makeFunc (.func f) first caps => if first.size = 0 then (caps.toList.mapM cX).map (.mkfn f) else none
  | .makeSlice t l c => match P.underlying t with
    | some (.slice e) => match zeroOf P e, P.info? e, cX l, cX c with
      | some z, some i, some a, some b => if 0 < i.size ∧ 0 < i.bytes then some (.mkslice i.size i.bytes z a b mu) else none
      | _, _, _, _ => none
    | _ => none
  | .slice t x lo hi none => match P.underlying t, cX x, cOpt lo, cOpt hi with
    | some .string, some a, some l, some h => some (.slS a l h)
    | some (.slice e), some a, some l, some h => (sizeA P e).map fun s => if mu then .slR s a l h else .slL s a l h
    | _, _, _, _ => none
  | .fieldAddr t x i => match P.underlying t, cX x with
    | some (.struct fs), some a => match fs[i]? with
      | some f => match sizeA P f.type with
        | some (_ + 1) => some (.faddr f.offset a)
        | _ => none
      | none => none
    | _, _ => none
  | .field t x i => match P.underlying t, cX x with
    | some (.struct fs), some a => match fs[i]? with
      | some f => match aggOf P f.type, sizeA P f.type with
        | some true, some n => some (.fieldN f.offset n a)
        | some false, some _ => some (.field1 f.offset a)
        | _, _ => none
      | none => none
    | _, _ => none
  | .indexAddr t x i => match P.underlying t, cX x, cX i with
    | some (.array n e), some a, some b => (sizeA P e).map fun s => .iaddrA n s a b
    | some (.slice e), some a, some b => (sizeA P e).map fun s => .iaddrL s a b
    | _, _, _ => none
  | .index t x i => match P.underlying t, cX x, cX i with
    | some (.array n e), some a, some b => match aggOf P e, sizeA P e with
      | some true, some s => some (.ixAN n s a b)
      | some false, some s => some (.ixA1 n s a b)
      | _, _ => none
    | some .string, some a, some b => some (.ixS a b)
    | _, _, _ => none
  | .extract x i => (cX x).map fun a => .extract a i
  | .makeMap t none => match P.underlying t with
    | some (.map k _) => (kdOf P k).map .mkmap
    | _ => none
  | .insert t m k x => match P.underlying t, cX m, cX k, cX x with
    | some (.map kt _), some a, some b, some c => (kdOf P kt).map fun kd => .mapset kd a b c
    | _, _, _, _ => none
  | .mapUpdate t m k x => match P.underlying t, cX m, cX k, cX x with
    | some (.map kt _), some a, some b, some c => (kdOf P kt).map fun kd => .mapset kd a b c
    | _, _, _, _ => none
  | .lookup t m k ok => match P.underlying t, cX m, cX k with
    | some (.map kt et), some a, some b => match kdOf P kt, zeroV P et with
      | some kd, some z => some (.lookup kd z ok a b)
      | _, _ => none
    | _, _, _ => none
  | .call c => compCall P mu c
  | _ => none
def rowLit (P : Program) : Op → Option AI
  | .buildSlice t len parts => match P.underlying t with
    | some (.slice e) => match zeroOf P e, cParts P t parts.toList, sizeA P e, aggOf P e with
      | some z, some ps, some s, some ag => if 0 < s ∧ len * s ≤ 16777216 ∧ (ag = true ∨ s = 1) then some (.bslice s len ag z ps true) else none
      | _, _, _, _ => none
    | _ => none
  | _ => none
end Go.Proofs.YtcidnoghoifmmaaDoor.AW
