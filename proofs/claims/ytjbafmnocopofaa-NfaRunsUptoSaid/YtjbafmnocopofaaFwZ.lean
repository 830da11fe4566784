/-
  The abstract walk: the operations in the form in which they are stepped.
-/
import Derived.Test.YtjbafmnocopofaaFwR
namespace Go.Proofs.Ytjbafmnocopofaa.AW
open Go

section
variable {α β : Type}

def obind (o : Option α) (F : α → Option β) : Option β :=
  match o with
  | some a => F a
  | none => none
theorem obind_some (a : α) (F : α → Option β) : obind (some a) F = F a := rfl
theorem obind_if (c : Prop) [Decidable c] (a : Option α) (F : α → Option β) : obind (if c then a else none) F = if c then obind a F else none := by
  by_cases h : c <;> simp [h, obind]
theorem obind_ifn (c : Prop) [Decidable c] (a : Option α) (F : α → Option β) : obind (if c then none else a) F = if c then none else obind a F := by
  by_cases h : c <;> simp [h, obind]

theorem cells_agg (cs : List AV) : (AV.agg cs).cells = cs := rfl
theorem cells_int (k : IntKind) (n : Int) : (AV.int k n).cells = [.int k n] := rfl
theorem cells_bool (b : Bool) : (AV.bool b).cells = [.bool b] := rfl
theorem cells_str (b : List UInt8) : (AV.str b).cells = [.str b] := rfl
theorem cells_ptr (i o : Nat) : (AV.ptr i o).cells = [.ptr i o] := rfl
theorem cells_sl (es : Nat) (xs : List AV) (t : Option Nat) : (AV.sl es xs t).cells = [.sl es xs t] := rfl
theorem cells_row (a b c d : Nat) : (AV.row a b c d).cells = [.row a b c d] := rfl
theorem cells_nils : AV.nils.cells = [.nils] := rfl
theorem cells_nilptr : AV.nilptr.cells = [.nilptr] := rfl
theorem cells_fn (f : FuncId) (cs : List AV) : (AV.fn f cs).cells = [.fn f cs] := rfl
theorem cells_mp (i : Nat) : (AV.mp i).cells = [.mp i] := rfl

def asB (v : AV) (F : Bool → Option β) : Option β := match v with
  | .bool t => F t
  | _ => none
def asI (v : AV) (F : IntKind → Int → Option β) : Option β := match v with
  | .int k n => F k n
  | _ => none
def asS (v : AV) (F : List UInt8 → Option β) : Option β := match v with
  | .str s => F s
  | _ => none
def asG (v : AV) (F : List AV → Option β) : Option β := match v with
  | .agg s => F s
  | _ => none
def asT (v : AV) (F : List AV → Option β) : Option β := match v with
  | .tup s => F s
  | _ => none
def asC (o : Option AObj) (F : List AV → Option β) : Option β := match o with
  | some (.cells cs) => F cs
  | _ => none
theorem asB_is (t : Bool) (F : Bool → Option β) : asB (.bool t) F = F t := rfl
theorem asI_is (k : IntKind) (n : Int) (F : IntKind → Int → Option β) : asI (.int k n) F = F k n := rfl
theorem asS_is (s : List UInt8) (F : List UInt8 → Option β) : asS (.str s) F = F s := rfl
theorem asG_is (s : List AV) (F : List AV → Option β) : asG (.agg s) F = F s := rfl
theorem asT_is (s : List AV) (F : List AV → Option β) : asT (.tup s) F = F s := rfl
theorem asC_is (cs : List AV) (F : List AV → Option β) : asC (some (.cells cs)) F = F cs := rfl

/-- At an address. -/
def asP (st : Store) (v : AV) (F : AV → Option β) (G : Nat → Option AV) : Option β :=
  match v with
  | .ptr id o => if alive st id then obind (G o) fun _ => F (.ptr id o) else none
  | _ => none
end

theorem io_add (k : IntKind) (x y : Int) : intOp .add k x k y = some (.int k (k.wrap (x + y))) := by simp only [intOp, if_true]
theorem io_sub (k : IntKind) (x y : Int) : intOp .sub k x k y = some (.int k (k.wrap (x - y))) := by simp only [intOp, if_true]
theorem io_mul (k : IntKind) (x y : Int) : intOp .mul k x k y = some (.int k (k.wrap (x * y))) := by simp only [intOp, if_true]
theorem io_eql (k : IntKind) (x y : Int) : intOp .eql k x k y = some (.bool (x == y)) := by simp only [intOp, if_true]
theorem io_neq (k : IntKind) (x y : Int) : intOp .neq k x k y = some (.bool (x != y)) := by simp only [intOp, if_true]
theorem io_lss (k : IntKind) (x y : Int) : intOp .lss k x k y = some (.bool (decide (x < y))) := by simp only [intOp, if_true]
theorem io_leq (k : IntKind) (x y : Int) : intOp .leq k x k y = some (.bool (decide (x ≤ y))) := by simp only [intOp, if_true]
theorem io_gtr (k : IntKind) (x y : Int) : intOp .gtr k x k y = some (.bool (decide (x > y))) := by simp only [intOp, if_true]
theorem io_geq (k : IntKind) (x y : Int) : intOp .geq k x k y = some (.bool (decide (x ≥ y))) := by simp only [intOp, if_true]
theorem io_quo (k : IntKind) (x y : Int) : intOp .quo k x k y = if y = 0 then none else some (.int k (k.wrap (x.tdiv y))) := by simp only [intOp, if_true]
theorem io_rem (k : IntKind) (x y : Int) : intOp .rem k x k y = if y = 0 then none else some (.int k (x.tmod y)) := by simp only [intOp, if_true]

theorem res_tmp (E : Glob) (tm : Fr) (st : Store) (t : Nat) : resOne E tm st (.tmp t) = some (tm t) := rfl
theorem res_cell1 (E : Glob) (tm : Fr) (st : Store) (a : Nat) : resOne E tm st (.cell1 a) = obind (cellsAt E st 1 (tm a)) fun cs => some (cs.headD (.tup [])) := by simp only [resOne]; cases cellsAt E st 1 (tm a) <;> rfl
theorem res_cellN (E : Glob) (tm : Fr) (st : Store) (a n : Nat) : resOne E tm st (.cellN a n) = obind (cellsAt E st n (tm a)) fun cs => some (.agg cs) := by simp only [resOne]; cases cellsAt E st n (tm a) <;> rfl
theorem resC_if (c : Prop) [Decidable c] (x : Option AV) (y : Option (List AV)) : resC (if c then x else none) y = if c then resC x y else none := by
  by_cases h : c <;> simp [h, resC]
theorem resC_if2 (c : Prop) [Decidable c] (v : AV) (y : Option (List AV)) : resC (some v) (if c then y else none) = if c then resC (some v) y else none := by
  by_cases h : c <;> simp [h, resC]
theorem XR_if (c : Prop) [Decidable c] (x : Option (List AV)) (K : AV → Store → Prop) (st : Store) : XR (if c then x else none) K st = (c ∧ XR x K st) := by
  by_cases h : c <;> simp [h, XR]

theorem still_mv {x} : (AI.mv x).still = true := rfl
theorem still_pick {c a b} : (AI.pick c a b).still = true := rfl
theorem still_build {z ps} : (AI.build z ps).still = true := rfl
theorem still_load1 {x} : (AI.load1 x).still = true := rfl
theorem still_loadN {n x} : (AI.loadN n x).still = true := rfl
theorem still_nilck {x} : (AI.nilck x).still = true := rfl
theorem still_binI {o x y} : (AI.binI o x y).still = true := rfl
theorem still_binS {o x y} : (AI.binS o x y).still = true := rfl
theorem still_eqB {n x y} : (AI.eqB n x y).still = true := rfl
theorem still_eqA {n k x y} : (AI.eqA n k x y).still = true := rfl
theorem still_un {o x} : (AI.un o x).still = true := rfl
theorem still_cvI {k x} : (AI.cvI k x).still = true := rfl
theorem still_cvS {x} : (AI.cvS x).still = true := rfl
theorem still_b2s {x} : (AI.b2s x).still = true := rfl
theorem still_slS {x l h} : (AI.slS x l h).still = true := rfl
theorem still_slL {e x l h} : (AI.slL e x l h).still = true := rfl
theorem still_faddr {o x} : (AI.faddr o x).still = true := rfl
theorem still_field1 {o x} : (AI.field1 o x).still = true := rfl
theorem still_fieldN {o n x} : (AI.fieldN o n x).still = true := rfl
theorem still_iaddrA {l e x i} : (AI.iaddrA l e x i).still = true := rfl
theorem still_iaddrL {e x i} : (AI.iaddrL e x i).still = true := rfl
theorem still_ixA1 {l e x i} : (AI.ixA1 l e x i).still = true := rfl
theorem still_ixAN {l e x i} : (AI.ixAN l e x i).still = true := rfl
theorem still_ixS {x i} : (AI.ixS x i).still = true := rfl
theorem still_extract {x i} : (AI.extract x i).still = true := rfl
theorem still_lenS {x} : (AI.lenS x).still = true := rfl
theorem still_len {x} : (AI.len x).still = true := rfl
theorem still_lenA {n} : (AI.lenA n).still = true := rfl
theorem still_max {xs} : (AI.max xs).still = true := rfl
theorem still_min {xs} : (AI.min xs).still = true := rfl
theorem still_mkfn {f cs} : (AI.mkfn f cs).still = true := rfl
theorem still_lookup {k z o m c} : (AI.lookup k z o m c).still = true := rfl
theorem still_lenM {x} : (AI.lenM x).still = true := rfl

section
variable {E : Glob} {tm : Fr} {st : Store}

theorem ev_mv (x : AX) : evalAI E tm st (.mv x) = some (tm.x x, st) := by simp only [evalAI]
theorem ev_pick (c a b : AX) : evalAI E tm st (.pick c a b) = asB (tm.x c) fun t => some (if t then tm.x a else tm.x b, st) := by simp only [evalAI]; cases tm.x c <;> rfl
theorem ev_alloc (z : List AV) : evalAI E tm st (.alloc z) = some (.ptr st.length 0, st ++ [.cells z]) := by simp only [evalAI]
theorem ev_box (n : Nat) (x : AX) : evalAI E tm st (.box n x) = if (tm.x x).cells.length = n then some (.ptr st.length 0, st ++ [.cells (tm.x x).cells]) else none := by simp only [evalAI]
theorem ev_build (z : List AV) (ps : List (Nat × Nat × AX)) : evalAI E tm st (.build z ps) = obind (partsOk z.length ps tm) fun l => some (.agg (fillA z l), st) := by simp only [evalAI]; cases partsOk z.length ps tm <;> rfl
theorem ev_load1 (x : AX) : evalAI E tm st (.load1 x) = obind (cellsAt E st 1 (tm.x x)) fun cs => some (cs.headD (.tup []), st) := by simp only [evalAI]; cases cellsAt E st 1 (tm.x x) <;> rfl
theorem ev_loadN (n : Nat) (x : AX) : evalAI E tm st (.loadN n x) = obind (cellsAt E st n (tm.x x)) fun cs => some (.agg cs, st) := by simp only [evalAI]; cases cellsAt E st n (tm.x x) <;> rfl
def asPtr {β : Type} (v : AV) (F : Nat → Nat → Option β) : Option β := match v with
  | .ptr id o => F id o
  | _ => none
theorem asPtr_is {β : Type} (id o : Nat) (F : Nat → Nat → Option β) : asPtr (.ptr id o) F = F id o := rfl
theorem ev_store (n : Nat) (a x : AX) : evalAI E tm st (.store n a x) = asPtr (tm.x a) fun id off => asC st[id]? fun cs =>
    if (tm.x x).cells.length = n ∧ off + n ≤ cs.length ∧ (tm.x x).cells.all AV.one = true then some (.tup [], st.set id (.cells (cs.take off ++ (tm.x x).cells ++ cs.drop (off + n)))) else none := by
  simp only [evalAI]
  cases tm.x a <;> simp only [asPtr]
  rename_i id off
  cases st[id]? with
  | none => rfl
  | some o => cases o <;> rfl
def nilA (st : Store) : AV → Option (AV × Store)
  | .ptr id off => if alive st id then some (.ptr id off, st) else none
  | .dptr cs => some (.dptr cs, st)
  | .gptr g off => some (.gptr g off, st)
  | .fn f caps => some (.fn f caps, st)
  | _ => none
theorem ev_nilck (x : AX) : evalAI E tm st (.nilck x) = nilA st (tm.x x) := by simp only [evalAI]; cases tm.x x <;> rfl
theorem nilA_ptr (id off : Nat) : nilA st (.ptr id off) = if alive st id then some (.ptr id off, st) else none := rfl
theorem nilA_dptr (cs : List AV) : nilA st (.dptr cs) = some (.dptr cs, st) := rfl
theorem ev_binI (op : BinOp) (x y : AX) : evalAI E tm st (.binI op x y) = asI (tm.x x) fun k a => asI (tm.x y) fun k' b => (intOp op k a k' b).map (fun v => (v, st)) := by
  simp only [evalAI]
  cases tm.x x <;> cases tm.x y <;> rfl
theorem ev_binS (op : BinOp) (x y : AX) : evalAI E tm st (.binS op x y) = asS (tm.x x) fun a => asS (tm.x y) fun b => (strOp op a b).map (fun v => (v, st)) := by
  simp only [evalAI]
  cases tm.x x <;> cases tm.x y <;> rfl
theorem ev_eqB (neg : Bool) (x y : AX) : evalAI E tm st (.eqB neg x y) = asB (tm.x x) fun a => asB (tm.x y) fun b => some (.bool ((a == b) != neg), st) := by
  simp only [evalAI]
  cases tm.x x <;> cases tm.x y <;> rfl
theorem ev_eqA (neg : Bool) (ks : List LK) (x y : AX) : evalAI E tm st (.eqA neg ks x y) = asG (tm.x x) fun a => asG (tm.x y) fun b => obind (AV.eqKs ks a b) fun r => some (.bool (r != neg), st) := by
  simp only [evalAI]
  cases tm.x x <;> cases tm.x y <;> first | rfl | (rename_i a b; simp only [asG, obind]; cases AV.eqKs ks a b <;> rfl)
theorem ev_not (x : AX) : evalAI E tm st (.un .not x) = asB (tm.x x) fun b => some (.bool (!b), st) := by
  simp only [evalAI]
  cases tm.x x <;> rfl
theorem ev_neg (x : AX) : evalAI E tm st (.un .neg x) = asI (tm.x x) fun k n => some (.int k (k.wrap (0 - n)), st) := by
  simp only [evalAI]
  cases tm.x x <;> rfl
theorem ev_xor (x : AX) : evalAI E tm st (.un .xor x) = asI (tm.x x) fun k n => some (.int k (k.wrap (BitVec.ofInt k.bits (if k.signed then -1 else k.max) ^^^ BitVec.ofInt k.bits n).toNat), st) := by
  simp only [evalAI]
  cases tm.x x <;> rfl
theorem ev_cvI (k : IntKind) (x : AX) : evalAI E tm st (.cvI k x) = asI (tm.x x) fun _ n => some (.int k (k.wrap n), st) := by
  simp only [evalAI]
  cases tm.x x <;> rfl
theorem ev_cvS (x : AX) : evalAI E tm st (.cvS x) = asS (tm.x x) fun s => some (.str s, st) := by
  simp only [evalAI]
  cases tm.x x <;> rfl
def addrA (st : Store) (d : Nat) : AV → Option (AV × Store)
  | .ptr id o => if alive st id then some (.ptr id (o + d), st) else none
  | .dptr cs => some (.dptr (cs.drop d), st)
  | .gptr g o => some (.gptr g (o + d), st)
  | _ => none
theorem addrA_ptr (d id o : Nat) : addrA st d (.ptr id o) = if alive st id then some (.ptr id (o + d), st) else none := rfl
theorem addrA_dptr (d : Nat) (cs : List AV) : addrA st d (.dptr cs) = some (.dptr (cs.drop d), st) := rfl
theorem ev_faddr (off : Nat) (x : AX) : evalAI E tm st (.faddr off x) = addrA st off (tm.x x) := by simp only [evalAI]; cases tm.x x <;> rfl
theorem ev_iaddrA (len es : Nat) (x i : AX) : evalAI E tm st (.iaddrA len es x i) = asI (tm.x i) fun _ n => if 0 ≤ n ∧ n < len then addrA st (n.toNat * es) (tm.x x) else none := by
  simp only [evalAI]
  cases tm.x i <;> simp only [asI]
  cases tm.x x <;> rfl
def elemP (st : Store) (es : Nat) (n : Int) : AV → Option (AV × Store)
  | .sl es' xs _ => if es' = es ∧ 0 ≤ n then obind xs[n.toNat]? fun v => some (.dptr v.cells, st) else none
  | .row id es' off len => if alive st id ∧ es' = es ∧ 0 ≤ n ∧ n < len then some (.ptr id ((off + n.toNat) * es), st) else none
  | _ => none
theorem elemP_sl (es : Nat) (n : Int) (es' : Nat) (xs : List AV) (tok : Option Nat) : elemP st es n (.sl es' xs tok) = if es' = es ∧ 0 ≤ n then obind xs[n.toNat]? fun v => some (.dptr v.cells, st) else none := rfl
theorem elemP_row (es : Nat) (n : Int) (id es' off len : Nat) : elemP st es n (.row id es' off len) = if alive st id ∧ es' = es ∧ 0 ≤ n ∧ n < len then some (.ptr id ((off + n.toNat) * es), st) else none := rfl
theorem ev_iaddrL (es : Nat) (x i : AX) : evalAI E tm st (.iaddrL es x i) = asI (tm.x i) fun _ n => elemP st es n (tm.x x) := by
  simp only [evalAI]
  cases tm.x i <;> simp only [asI]
  cases tm.x x <;> simp only [elemP]
  rename_i n es' xs tok
  by_cases h : es' = es ∧ 0 ≤ n
  · simp only [if_pos h]; cases xs[n.toNat]? <;> rfl
  · simp only [if_neg h]
theorem ev_field1 (off : Nat) (x : AX) : evalAI E tm st (.field1 off x) = asG (tm.x x) fun cs => obind cs[off]? fun v => some (v, st) := by
  simp only [evalAI]
  cases tm.x x <;> simp only [asG]
  rename_i cs
  cases cs[off]? <;> rfl
theorem ev_fieldN (off n : Nat) (x : AX) : evalAI E tm st (.fieldN off n x) = asG (tm.x x) fun cs => if off + n ≤ cs.length then some (.agg ((cs.drop off).take n), st) else none := by
  simp only [evalAI]
  cases tm.x x <;> simp only [asG]
theorem ev_ixS (x i : AX) : evalAI E tm st (.ixS x i) = asI (tm.x i) fun _ n => asS (tm.x x) fun s => if 0 ≤ n then obind s[n.toNat]? fun b => some (ofByte b, st) else none := by
  simp only [evalAI]
  cases tm.x i <;> cases tm.x x <;> simp only [asI, asS]
  rename_i k n s
  by_cases h : 0 ≤ n
  · simp only [if_pos h]; cases s[n.toNat]? <;> rfl
  · simp only [if_neg h]
theorem ev_extract (x : AX) (i : Nat) : evalAI E tm st (.extract x i) = asT (tm.x x) fun vs => obind vs[i]? fun v => some (v, st) := by
  simp only [evalAI]
  cases tm.x x <;> simp only [asT]
  rename_i vs
  cases vs[i]? <;> rfl
theorem ev_lenS (x : AX) : evalAI E tm st (.lenS x) = asS (tm.x x) fun s => some (.int .i64 s.length, st) := by
  simp only [evalAI]
  cases tm.x x <;> rfl
def lenV (st : Store) : AV → Option (AV × Store)
  | .nils => some (.int .i64 0, st)
  | .sl _ xs _ => some (.int .i64 xs.length, st)
  | .row id _ _ n => if alive st id then some (.int .i64 n, st) else none
  | _ => none
theorem ev_len (x : AX) : evalAI E tm st (.len x) = lenV st (tm.x x) := by simp only [evalAI]; cases tm.x x <;> rfl
theorem lenV_nils : lenV st .nils = some (.int .i64 0, st) := rfl
theorem lenV_sl (es : Nat) (xs : List AV) (tok : Option Nat) : lenV st (.sl es xs tok) = some (.int .i64 xs.length, st) := rfl
theorem lenV_row (id es off n : Nat) : lenV st (.row id es off n) = if alive st id then some (.int .i64 n, st) else none := rfl
theorem ev_lenA (n : Nat) : evalAI E tm st (.lenA n) = some (.int .i64 n, st) := by simp only [evalAI]
theorem ev_bslice (es len : Nat) (ag : Bool) (zero : List AV) (parts : List (Nat × Nat × AX)) : evalAI E tm st (.bslice es len ag zero parts false) = obind (partsOk (len * es) parts tm) fun l =>
    if (fillA (rep0 zero len) l).all AV.one = true then some (.sl es ((chunks es len (fillA (rep0 zero len) l)).map (ofCells ag)) (some st.length), st ++ [.tail len]) else none := by
  simp only [evalAI, Bool.false_eq_true, if_false, obind]
  cases partsOk (len * es) parts tm <;> rfl
def appV (es bytes : Nat) (st : Store) (ys : List AV) : AV → Option (AV × Store)
  | .nils => match ys with
    | [] => some (.nils, st)
    | _ :: _ => if ys.length * bytes ≤ 140737488355328 then some (.sl es ys (some st.length), st ++ [.tail ys.length]) else none
  | .sl es' xs (some id) => match st[id]? with
    | some (.tail n .none) => if es' = es ∧ n = xs.length ∧ (xs.length + ys.length) * bytes ≤ 140737488355328 then some (.sl es (xs ++ ys) (some id), st.set id (.tail (xs.length + ys.length))) else none
    | _ => none
  | .row id es' off len => match st[id]? with
    | some (.cells cs) => if es' = es ∧ off = 0 ∧ cs.length = len * es ∧ cs.all AV.one = true ∧ (len + ys.length) * bytes ≤ 140737488355328 then some (.sl es ((chunks es len cs).map (ofCells (!(es == 1))) ++ ys) (some st.length), st.set id .dead ++ [.tail (len + ys.length)]) else none
    | _ => none
  | _ => none
theorem ev_app (es bytes : Nat) (x y : AX) : evalAI E tm st (.app es bytes x y) = obind (appElems es st (tm.x y)) fun ys => appV es bytes st ys (tm.x x) := by
  simp only [evalAI, obind]
  cases appElems es st (tm.x y) <;> rfl
end
end Go.Proofs.Ytjbafmnocopofaa.AW
