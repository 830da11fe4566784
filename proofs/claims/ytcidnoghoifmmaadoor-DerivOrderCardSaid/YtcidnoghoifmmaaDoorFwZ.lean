/-
  The abstract walk: the operations in the form in which they are stepped.
-/
import Derived.Test.YtcidnoghoifmmaaDoorFwR
namespace Go.Proofs.YtcidnoghoifmmaaDoor.AW
open Go

section
variable {α β : Type}

def obind (o : Option α) (F : α → Option β) : Option β :=
  match o with
  | some a => F a
  | none => none
theorem obind_some (a : α) (F : α → Option β) : obind (some a) F = F a := rfl
def asB (v : AV) (F : Bool → Option β) : Option β := match v with
  | .bool t => F t
  | _ => none
def asI (v : AV) (F : IntKind → Int → Option β) : Option β := match v with
  | .int k n => F k n
  | _ => none
def asS (v : AV) (F : List UInt8 → Option β) : Option β := match v with
  | .str s => F s
  | _ => none
def asG (v : AV) (F : List AV → Option β) : Option β := match v with
  | .agg s => F s
  | _ => none
def asT (v : AV) (F : List AV → Option β) : Option β := match v with
  | .tup s => F s
  | _ => none
def asC (o : Option AObj) (F : List AV → Option β) : Option β := match o with
  | some (.cells cs) => F cs
  | _ => none
theorem asB_is (t : Bool) (F : Bool → Option β) : asB (.bool t) F = F t := rfl
theorem asI_is (k : IntKind) (n : Int) (F : IntKind → Int → Option β) : asI (.int k n) F = F k n := rfl
theorem asS_is (s : List UInt8) (F : List UInt8 → Option β) : asS (.str s) F = F s := rfl
theorem asG_is (s : List AV) (F : List AV → Option β) : asG (.agg s) F = F s := rfl
theorem asT_is (s : List AV) (F : List AV → Option β) : asT (.tup s) F = F s := rfl
theorem asC_is (cs : List AV) (F : List AV → Option β) : asC (some (.cells cs)) F = F cs := rfl

end

section
variable {E : Glob} {tm : Fr} {st : Store}

theorem ev_pick (c a b : AX) : evalAI E tm st (.pick c a b) = asB (tm.x c) fun t => some (if t then tm.x a else tm.x b, st) := by simp only [evalAI]; cases tm.x c <;> rfl
theorem ev_box (n : Nat) (x : AX) : evalAI E tm st (.box n x) = if (tm.x x).cells.length = n then some (.ptr st.length 0, st ++ [.cells (tm.x x).cells]) else none := by simp only [evalAI]
theorem ev_build (z : List AV) (ps : List (Nat × Nat × AX)) : evalAI E tm st (.build z ps) = obind (partsOk z.length ps tm) fun l => some (.agg (fillA z l), st) := by simp only [evalAI]; cases partsOk z.length ps tm <;> rfl
theorem ev_load1 (x : AX) : evalAI E tm st (.load1 x) = obind (cellsAt E st 1 (tm.x x)) fun cs => some (cs.headD (.tup []), st) := by simp only [evalAI]; cases cellsAt E st 1 (tm.x x) <;> rfl
theorem ev_loadN (n : Nat) (x : AX) : evalAI E tm st (.loadN n x) = obind (cellsAt E st n (tm.x x)) fun cs => some (.agg cs, st) := by simp only [evalAI]; cases cellsAt E st n (tm.x x) <;> rfl
def asPtr {β : Type} (v : AV) (F : Nat → Nat → Option β) : Option β := match v with
  | .ptr id o => F id o
  | _ => none
theorem asPtr_is {β : Type} (id o : Nat) (F : Nat → Nat → Option β) : asPtr (.ptr id o) F = F id o := rfl
theorem ev_store (n : Nat) (a x : AX) : evalAI E tm st (.store n a x) = asPtr (tm.x a) fun id off => asC st[id]? fun cs =>
    if (tm.x x).cells.length = n ∧ off + n ≤ cs.length ∧ (tm.x x).cells.all AV.one = true then some (.tup [], st.set id (.cells (cs.take off ++ (tm.x x).cells ++ cs.drop (off + n)))) else none := by
  simp only [evalAI]
  cases tm.x a <;> simp only [asPtr]
  rename_i id off
  cases st[id]? with
  | none => rfl
  | some o => cases o <;> rfl
def nilA (st : Store) : AV → Option (AV × Store)
  | .ptr id off => if alive st id then some (.ptr id off, st) else none
  | .dptr cs => some (.dptr cs, st)
  | .gptr g off => some (.gptr g off, st)
  | .fn f caps => some (.fn f caps, st)
  | _ => none
theorem ev_nilck (x : AX) : evalAI E tm st (.nilck x) = nilA st (tm.x x) := by simp only [evalAI]; cases tm.x x <;> rfl
theorem nilA_ptr (id off : Nat) : nilA st (.ptr id off) = if alive st id then some (.ptr id off, st) else none := rfl
theorem nilA_dptr (cs : List AV) : nilA st (.dptr cs) = some (.dptr cs, st) := rfl
theorem ev_binI (op : BinOp) (x y : AX) : evalAI E tm st (.binI op x y) = asI (tm.x x) fun k a => asI (tm.x y) fun k' b => (intOp op k a k' b).map (fun v => (v, st)) := by
  simp only [evalAI]
  cases tm.x x <;> cases tm.x y <;> rfl
theorem ev_binS (op : BinOp) (x y : AX) : evalAI E tm st (.binS op x y) = asS (tm.x x) fun a => asS (tm.x y) fun b => (strOp op a b).map (fun v => (v, st)) := by
  simp only [evalAI]
  cases tm.x x <;> cases tm.x y <;> rfl
theorem ev_eqB (neg : Bool) (x y : AX) : evalAI E tm st (.eqB neg x y) = asB (tm.x x) fun a => asB (tm.x y) fun b => some (.bool ((a == b) != neg), st) := by
  simp only [evalAI]
  cases tm.x x <;> cases tm.x y <;> rfl
theorem ev_eqA (neg : Bool) (ks : List LK) (x y : AX) : evalAI E tm st (.eqA neg ks x y) = asG (tm.x x) fun a => asG (tm.x y) fun b => obind (AV.eqKs ks a b) fun r => some (.bool (r != neg), st) := by
  simp only [evalAI]
  cases tm.x x <;> cases tm.x y <;> first | rfl | (rename_i a b; simp only [asG, obind]; cases AV.eqKs ks a b <;> rfl)
theorem ev_not (x : AX) : evalAI E tm st (.un .not x) = asB (tm.x x) fun b => some (.bool (!b), st) := by
  simp only [evalAI]
  cases tm.x x <;> rfl
theorem ev_neg (x : AX) : evalAI E tm st (.un .neg x) = asI (tm.x x) fun k n => some (.int k (k.wrap (0 - n)), st) := by
  simp only [evalAI]
  cases tm.x x <;> rfl
theorem ev_xor (x : AX) : evalAI E tm st (.un .xor x) = asI (tm.x x) fun k n => some (.int k (k.wrap (BitVec.ofInt k.bits (if k.signed then -1 else k.max) ^^^ BitVec.ofInt k.bits n).toNat), st) := by
  simp only [evalAI]
  cases tm.x x <;> rfl
theorem ev_cvI (k : IntKind) (x : AX) : evalAI E tm st (.cvI k x) = asI (tm.x x) fun _ n => some (.int k (k.wrap n), st) := by
  simp only [evalAI]
  cases tm.x x <;> rfl
theorem ev_cvS (x : AX) : evalAI E tm st (.cvS x) = asS (tm.x x) fun s => some (.str s, st) := by
  simp only [evalAI]
  cases tm.x x <;> rfl
def addrA (st : Store) (d : Nat) : AV → Option (AV × Store)
  | .ptr id o => if alive st id then some (.ptr id (o + d), st) else none
  | .dptr cs => some (.dptr (cs.drop d), st)
  | .gptr g o => some (.gptr g (o + d), st)
  | _ => none
theorem addrA_ptr (d id o : Nat) : addrA st d (.ptr id o) = if alive st id then some (.ptr id (o + d), st) else none := rfl
theorem addrA_dptr (d : Nat) (cs : List AV) : addrA st d (.dptr cs) = some (.dptr (cs.drop d), st) := rfl
theorem ev_faddr (off : Nat) (x : AX) : evalAI E tm st (.faddr off x) = addrA st off (tm.x x) := by simp only [evalAI]; cases tm.x x <;> rfl
theorem ev_iaddrA (len es : Nat) (x i : AX) : evalAI E tm st (.iaddrA len es x i) = asI (tm.x i) fun _ n => if 0 ≤ n ∧ n < len then addrA st (n.toNat * es) (tm.x x) else none := by
  simp only [evalAI]
  cases tm.x i <;> simp only [asI]
  cases tm.x x <;> rfl
def elemP (st : Store) (es : Nat) (n : Int) : AV → Option (AV × Store)
  | .sl es' xs _ => if es' = es ∧ 0 ≤ n then obind xs[n.toNat]? fun v => some (.dptr v.cells, st) else none
  | .row id es' off len => if alive st id ∧ es' = es ∧ 0 ≤ n ∧ n < len then some (.ptr id ((off + n.toNat) * es), st) else none
  | _ => none
theorem elemP_sl (es : Nat) (n : Int) (es' : Nat) (xs : List AV) (tok : Option Nat) : elemP st es n (.sl es' xs tok) = if es' = es ∧ 0 ≤ n then obind xs[n.toNat]? fun v => some (.dptr v.cells, st) else none := rfl
theorem elemP_row (es : Nat) (n : Int) (id es' off len : Nat) : elemP st es n (.row id es' off len) = if alive st id ∧ es' = es ∧ 0 ≤ n ∧ n < len then some (.ptr id ((off + n.toNat) * es), st) else none := rfl
theorem ev_iaddrL (es : Nat) (x i : AX) : evalAI E tm st (.iaddrL es x i) = asI (tm.x i) fun _ n => elemP st es n (tm.x x) := by
  simp only [evalAI]
  cases tm.x i <;> simp only [asI]
  cases tm.x x <;> simp only [elemP]
  rename_i n es' xs tok
  by_cases h : es' = es ∧ 0 ≤ n
  · simp only [if_pos h]; cases xs[n.toNat]? <;> rfl
  · simp only [if_neg h]
theorem ev_field1 (off : Nat) (x : AX) : evalAI E tm st (.field1 off x) = asG (tm.x x) fun cs => obind cs[off]? fun v => some (v, st) := by
  simp only [evalAI]
  cases tm.x x <;> simp only [asG]
  rename_i cs
  cases cs[off]? <;> rfl
theorem ev_ixS (x i : AX) : evalAI E tm st (.ixS x i) = asI (tm.x i) fun _ n => asS (tm.x x) fun s => if 0 ≤ n then obind s[n.toNat]? fun b => some (ofByte b, st) else none := by
  simp only [evalAI]
  cases tm.x i <;> cases tm.x x <;> simp only [asI, asS]
  rename_i k n s
  by_cases h : 0 ≤ n
  · simp only [if_pos h]; cases s[n.toNat]? <;> rfl
  · simp only [if_neg h]
theorem ev_extract (x : AX) (i : Nat) : evalAI E tm st (.extract x i) = asT (tm.x x) fun vs => obind vs[i]? fun v => some (v, st) := by
  simp only [evalAI]
  cases tm.x x <;> simp only [asT]
  rename_i vs
  cases vs[i]? <;> rfl
theorem ev_lenS (x : AX) : evalAI E tm st (.lenS x) = asS (tm.x x) fun s => some (.int .i64 s.length, st) := by
  simp only [evalAI]
  cases tm.x x <;> rfl
def lenV (st : Store) : AV → Option (AV × Store)
  | .nils => some (.int .i64 0, st)
  | .sl _ xs _ => some (.int .i64 xs.length, st)
  | .row id _ _ n => if alive st id then some (.int .i64 n, st) else none
  | _ => none
theorem ev_len (x : AX) : evalAI E tm st (.len x) = lenV st (tm.x x) := by simp only [evalAI]; cases tm.x x <;> rfl
theorem lenV_nils : lenV st .nils = some (.int .i64 0, st) := rfl
theorem lenV_sl (es : Nat) (xs : List AV) (tok : Option Nat) : lenV st (.sl es xs tok) = some (.int .i64 xs.length, st) := rfl
theorem lenV_row (id es off n : Nat) : lenV st (.row id es off n) = if alive st id then some (.int .i64 n, st) else none := rfl
theorem ev_bslice (es len : Nat) (ag : Bool) (zero : List AV) (parts : List (Nat × Nat × AX)) : evalAI E tm st (.bslice es len ag zero parts false) = obind (partsOk (len * es) parts tm) fun l =>
    if (fillA (rep0 zero len) l).all AV.one = true then some (.sl es ((chunks es len (fillA (rep0 zero len) l)).map (ofCells ag)) (some st.length), st ++ [.tail len]) else none := by
  simp only [evalAI, Bool.false_eq_true, if_false, obind]
  cases partsOk (len * es) parts tm <;> rfl
def appV (es bytes : Nat) (st : Store) (ys : List AV) : AV → Option (AV × Store)
  | .nils => match ys with
    | [] => some (.nils, st)
    | _ :: _ => if ys.length * bytes ≤ 140737488355328 then some (.sl es ys (some st.length), st ++ [.tail ys.length]) else none
  | .sl es' xs (some id) => match st[id]? with
    | some (.tail n .none) => if es' = es ∧ n = xs.length ∧ (xs.length + ys.length) * bytes ≤ 140737488355328 then some (.sl es (xs ++ ys) (some id), st.set id (.tail (xs.length + ys.length))) else none
    | _ => none
  | .row id es' off len => match st[id]? with
    | some (.cells cs) => if es' = es ∧ off = 0 ∧ cs.length = len * es ∧ cs.all AV.one = true ∧ (len + ys.length) * bytes ≤ 140737488355328 then some (.sl es ((chunks es len cs).map (ofCells (!(es == 1))) ++ ys) (some st.length), st.set id .dead ++ [.tail (len + ys.length)]) else none
    | _ => none
  | _ => none
theorem ev_app (es bytes : Nat) (x y : AX) : evalAI E tm st (.app es bytes x y) = obind (appElems es st (tm.x y)) fun ys => appV es bytes st ys (tm.x x) := by
  simp only [evalAI, obind]
  cases appElems es st (tm.x y) <;> rfl
end
end Go.Proofs.YtcidnoghoifmmaaDoor.AW
