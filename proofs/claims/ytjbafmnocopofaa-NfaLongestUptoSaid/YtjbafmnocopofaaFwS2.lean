/-
  A function's walk: what is still to come is found by reckoning, and so is what plain operations do to the frame.
-/
import Derived.Test.YtjbafmnocopofaaFwS1
set_option linter.unusedVariables false
namespace Go.Proofs.Ytjbafmnocopofaa.AW
open Go

inductive KJ where
  | code (c : ACode)
  | ops (l : List AOp)
  | blk (id : Nat)
  | lp (b : ACode)

def wQ (X : Cx) : List KJ → AExit → Fr → Store → Prop
  | [] => X.fin
  | .code c :: k => thenQ (XS X.P X.E X.N X.mu c (wQ X k)) (wQ X k)
  | .ops l :: k => thenQ (fun tm st => xOps X.P X.E l (wQ X k .normal) tm st) (wQ X k)
  | .blk id :: k => blockQ id (wQ X k)
  | .lp b :: k => thenQ (XLoop X.P X.E X.N X.mu b (wQ X k)) (wQ X k)
def W (X : Cx) (k : List KJ) (tm : Fr) (st : Store) : Prop := wQ X k .normal tm st
/-- Within a statement that draws its order. -/
def WD (X : Cx) (st0 : Store) (mr : Nat) (l : List AOp) (r : Nat) (suf : List AOp) (k : List KJ) (tm : Fr) (st : Store) : Prop :=
  lexQ X.P X.E st0 mr l r (sufK X.P X.E suf (wQ X k .normal)) tm st

def jdrop : List KJ → Nat → Option (List KJ)
  | [], _ => none
  | .blk id :: k, i => bif Nat.beq i id then some k else jdrop k i
  | _ :: k, i => jdrop k i

def intOpN (op : BinOp) (k : IntKind) (x : Int) (k' : IntKind) (y : Int) : Option AV :=
  match op with
  | .add => if k = k' then some (.int k (k.wrap (x + y))) else none
  | .sub => if k = k' then some (.int k (k.wrap (x - y))) else none
  | .mul => if k = k' then some (.int k (k.wrap (x * y))) else none
  | .and => if k = k' then some (.int k (andI k x y)) else none
  | .or => if k = k' then some (.int k (orI k x y)) else none
  | .xor => if k = k' then some (.int k (xorI k x y)) else none
  | .andNot => if k = k' then some (.int k (andNotI k x y)) else none
  | .eql => if k = k' then some (.bool (x == y)) else none
  | .neq => if k = k' then some (.bool (x != y)) else none
  | .lss => if k = k' then some (.bool (decide (x < y))) else none
  | .leq => if k = k' then some (.bool (decide (x ≤ y))) else none
  | .gtr => if k = k' then some (.bool (decide (x > y))) else none
  | .geq => if k = k' then some (.bool (decide (x ≥ y))) else none
  | _ => none
theorem intOpN_eq {op : BinOp} {k k' : IntKind} {x y : Int} {v : AV} (h : intOpN op k x k' y = some v) : intOp op k x k' y = some v := by
  cases op <;> simp only [intOpN] at h <;> first
    | (cases h; done)
    | simpa only [intOp, andI, orI, xorI, andNotI] using h

def strOpN (op : BinOp) (x y : List UInt8) : Option AV :=
  match op with
  | .eql => some (.bool (x == y))
  | .neq => some (.bool (!(x == y)))
  | .lss => some (.bool (Op.bytesLess x y))
  | .leq => some (.bool (Op.bytesLess x y || x == y))
  | .gtr => some (.bool (!(Op.bytesLess x y || x == y)))
  | .geq => some (.bool (!(Op.bytesLess x y)))
  | _ => none
theorem strOpN_eq {op : BinOp} {x y : Str} {v : AV} (h : strOpN op x y = some v) : strOp op x y = some v := by
  cases op <;> simp only [strOpN] at h <;> first
    | (cases h; done)
    | (cases h; rfl)

/-- Operations that look at the frame alone. -/
def pureI (i : AI) (tm : Fr) : Option AV :=
  match i with
  | .mv x => some (tm.x x)
  | .binI op x y => match tm.x x with
    | .int k a => match tm.x y with
      | .int k' b => intOpN op k a k' b
      | _ => none
    | _ => none
  | .binS op x y => match tm.x x with
    | .str a => match tm.x y with
      | .str b => strOpN op a b
      | _ => none
    | _ => none
  | .eqB neg x y => match tm.x x with
    | .bool a => match tm.x y with
      | .bool b => some (.bool (bif neg then !(a == b) else (a == b)))
      | _ => none
    | _ => none
  | .un op x => match op with
    | .neg => match tm.x x with
      | .int k n => some (.int k (k.wrap (0 - n)))
      | _ => none
    | .xor => match tm.x x with
      | .int k n => some (.int k (notI k n))
      | _ => none
    | .not => match tm.x x with
      | .bool b => some (.bool (!b))
      | _ => none
    | _ => none
  | .cvI k x => match tm.x x with
    | .int _ n => some (.int k (k.wrap n))
    | _ => none
  | .cvS x => match tm.x x with
    | .str s => some (.str s)
    | _ => none
  | .field1 off x => match tm.x x with
    | .agg cs => cs[off]?
    | _ => none
  | .extract x i => match tm.x x with
    | .tup vs => vs[i]?
    | _ => none
  | .lenS x => match tm.x x with
    | .str s => some (.int .i64 s.length)
    | _ => none
  | .lenA n => some (.int .i64 n)
  | .max l => match l with
    | [x, y] => match tm.x x with
      | .int k a => match tm.x y with
        | .int _ b => some (.int k (if b > a then b else a))
        | _ => none
      | _ => none
    | _ => none
  | .min l => match l with
    | [x, y] => match tm.x x with
      | .int k a => match tm.x y with
        | .int _ b => some (.int k (if b < a then b else a))
        | _ => none
      | _ => none
    | _ => none
  | .mkfn f caps => some (.fn f (caps.map tm.x))
  | _ => none

theorem pureI_still {i : AI} {tm : Fr} {v : AV} (h : pureI i tm = some v) : i.still = true := by
  cases i <;> simp only [pureI] at h <;> first
    | rfl
    | cases h

theorem pureI_eval {E : Glob} {st : Store} {i : AI} {tm : Fr} {v : AV} (h : pureI i tm = some v) : evalAI E tm st i = some (v, st) := by
  cases i <;> simp only [pureI] at h <;> try (cases h; done)
  case mv x => cases h; rfl
  case binI op x y =>
    split at h
    · split at h
      · rename_i k a hx _ k' b hy; exact e_bin hx hy (intOpN_eq h)
      · cases h
    · cases h
  case binS op x y =>
    split at h
    · split at h
      · rename_i a hx _ b hy; exact e_str hx hy (strOpN_eq h)
      · cases h
    · cases h
  case eqB neg x y =>
    split at h
    · split at h
      · rename_i a hx _ b hy
        cases h
        cases neg
        · exact e_eqB hx hy
        · exact e_neB hx hy
      · cases h
    · cases h
  case un op x =>
    split at h
    · split at h
      · rename_i hx; cases h; exact e_neg hx
      · cases h
    · split at h
      · rename_i hx; cases h; exact e_xorU hx
      · cases h
    · split at h
      · rename_i hx; cases h; exact e_not hx
      · cases h
    · cases h
  case cvI k x =>
    split at h
    · rename_i k' n hx; cases h; exact e_cvI hx
    · cases h
  case cvS x =>
    split at h
    · rename_i s hx; cases h; exact e_cvS hx
    · cases h
  case field1 off x =>
    split at h
    · rename_i cs hx; simp only [ev_field1, hx, asG_is, h, obind_some]
    · cases h
  case extract x n =>
    split at h
    · rename_i vs hx; exact e_extract hx h
    · cases h
  case lenS x =>
    split at h
    · rename_i s hx; cases h; exact e_lenS hx
    · cases h
  case lenA n => cases h; rfl
  case max l =>
    split at h
    · split at h
      · split at h
        · rename_i x y _ k a hx _ k' b hy; cases h; simp [evalAI, hx, hy, maxA]
        · cases h
      · cases h
    · cases h
  case min l =>
    split at h
    · split at h
      · split at h
        · rename_i x y _ k a hx _ k' b hy; cases h; simp [evalAI, hx, hy, minA]
        · cases h
      · cases h
    · cases h
  case mkfn f caps => cases h; rfl

/-! ### A frame, slot by slot -/
def updL (tm : Fr) : List (Nat × AV) → Fr
  | [] => tm
  | (d, v) :: l => upd (updL tm l) d v
def look : List (Nat × AV) → Nat → Option AV
  | [], _ => none
  | (d, v) :: l, i => bif Nat.beq d i then some v else look l i
theorem look_eq {tm : Fr} : ∀ {l : List (Nat × AV)} {i : Nat} {v : AV}, look l i = some v → updL tm l i = v
  | [], i, v, h => by simp [look] at h
  | (d, w) :: l, i, v, h => by
    simp only [look] at h
    simp only [updL, upd]
    cases e : Nat.beq d i with
    | true => rw [e] at h; simpa using h
    | false => rw [e] at h; exact look_eq h
def Frm (tm : Fr) : List (Nat × AV) → Prop
  | [] => True
  | (d, v) :: l => tm d = v ∧ Frm tm l
theorem Frm.eq {tm : Fr} : ∀ {l : List (Nat × AV)}, Frm tm l → updL tm l = tm
  | [], _ => rfl
  | (d, v) :: l, ⟨h1, h2⟩ => by
    simp only [updL, Frm.eq h2]
    funext i
    unfold upd
    cases e : Nat.beq d i with
    | false => rfl
    | true => rw [← Nat.eq_of_beq_eq_true e]; exact h1.symm
/-- The frame at a call's beginning. -/
def fi : List AV → Nat → List (Nat × AV)
  | [], _ => []
  | a :: l, n => (n, a) :: fi l (n + 1)
theorem fi_at {tm : Fr} : ∀ (ds : List AV) (n i : Nat), updL tm (fi ds n) i = if n ≤ i then (match ds[i - n]? with | some v => v | none => tm i) else tm i
  | [], n, i => by simp [fi, updL]
  | a :: l, n, i => by
    simp only [fi, updL, upd]
    cases e : Nat.beq n i with
    | true =>
      have := Nat.eq_of_beq_eq_true e
      subst this
      simp
    | false =>
      have hne : n ≠ i := fun e' => by rw [e', Nat.beq_refl] at e; cases e
      rw [cond_false, fi_at l (n + 1) i]
      by_cases h : n + 1 ≤ i
      · rw [if_pos h, if_pos (by omega)]
        have : i - n = (i - (n + 1)) + 1 := by omega
        rw [this, List.getElem?_cons_succ]
      · rw [if_neg h, if_neg (by omega)]
theorem fi_init (ds : List AV) : frInit ds = updL (fun _ => .tup []) (fi ds 0) := by
  funext i
  rw [fi_at]
  simp only [Nat.zero_le, if_true, Nat.sub_zero, frInit]
  cases ds[i]? <;> rfl

def lookX (fr : List (Nat × AV)) : AX → Option AV
  | .t n => look fr n
  | .c v => some v
theorem lookX_eq {tm : Fr} {fr : List (Nat × AV)} {x : AX} {v : AV} (h : lookX fr x = some v) : (updL tm fr).x x = v := by
  cases x with
  | t n => exact look_eq h
  | c w => simp only [lookX] at h; cases h; rfl
/-- What a plain operation yields. -/
def stepV (tm : Fr) (i : AI) (fr : List (Nat × AV)) : Option AV :=
  match i with
  | .mv x => lookX fr x
  | .pick c a b => match lookX fr c with
    | some v => match v with
      | .bool t => match t with
        | true => lookX fr a
        | false => lookX fr b
      | _ => none
    | none => none
  | i => pureI i (updL tm fr)
theorem stepV_still {tm : Fr} {i : AI} {fr : List (Nat × AV)} {v : AV} (h : stepV tm i fr = some v) : i.still = true := by
  cases i <;> first
    | rfl
    | exact pureI_still (tm := updL tm fr) h
theorem stepV_eval {E : Glob} {st : Store} {tm : Fr} {i : AI} {fr : List (Nat × AV)} {v : AV} (h : stepV tm i fr = some v) : evalAI E (updL tm fr) st i = some (v, st) := by
  cases i <;> try exact pureI_eval (tm := updL tm fr) h
  case mv x => exact e_mv' (lookX_eq h)
  case pick c a b =>
    simp only [stepV] at h
    split at h
    · rename_i w hw
      split at h
      · rename_i t
        cases t with
        | true => exact e_pick_t (lookX_eq hw) rfl (lookX_eq h)
        | false => exact e_pick_f (lookX_eq hw) rfl (lookX_eq h)
      · cases h
    · cases h
def isTrue? (v : Option AV) : Option (Option Bool) :=
  match v with
  | some w => match w with
    | .bool t => match t with
      | true => some (some true)
      | false => some (some false)
    | .tup vs => match vs with
      | [] => some none
      | _ :: _ => none
    | _ => none
  | none => none
/-- A plain operation of a frame. -/
def stepF (w : Bool) (tm : Fr) (o : AOp) (fr : List (Nat × AV)) : Option (List (Nat × AV)) :=
  match o.dst with
  | none => none
  | some d => match o.guard with
    | some (g, b) => match isTrue? (look fr g) with
      | some z => match z with
        | none => bif w || Nat.beq (bornN ⟨some d, none, o.ins⟩) 0 then some ((d, .tup []) :: fr) else none
        | some t => match t == b with
          | true => match o.ins with
            | .plain i => match stepV tm i fr with
              | some v => some ((d, v) :: fr)
              | none => none
            | _ => none
          | false => bif w || Nat.beq (bornN ⟨some d, none, o.ins⟩) 0 then some ((d, .tup []) :: fr) else none
      | none => none
    | none => match o.ins with
      | .plain i => match stepV tm i fr with
        | some v => some ((d, v) :: fr)
        | none => none
      | _ => none
/-- As far as it can be reckoned: at most n control steps, just c plain operations. -/
def runK (tm : Fr) : Nat → Nat → List KJ → List (Nat × AV) → Option (List KJ × List (Nat × AV))
  | 0, _, _, _ => none
  | n + 1, c, k, fr => match k with
    | [] => some ([], fr)
    | .lp b :: k => some (.lp b :: k, fr)
    | .blk _ :: k => runK tm n c k fr
    | .code x :: k => match x with
      | .seq a b => runK tm n c (.code a :: .code b :: k) fr
      | .skip => runK tm n c k fr
      | .ops l => runK tm n c (.ops l :: k) fr
      | .block i b => runK tm n c (.code b :: .blk i :: k) fr
      | .loop b => some (.lp b :: k, fr)
      | .exit i => match jdrop k i with
        | some k' => runK tm n c k' fr
        | none => none
      | .cond z a b => some (.code (.cond z a b) :: k, fr)
      | .ret => some (.code .ret :: k, fr)
      | .draw s m b q u => some (.code (.draw s m b q u) :: k, fr)
      | .range z p a b => some (.code (.range z p a b) :: k, fr)
    | .ops l :: k => match l with
      | [] => runK tm n c k fr
      | o :: l => match c with
        | 0 => some (.ops (o :: l) :: k, fr)
        | c + 1 => match stepF true tm o fr with
          | some fr' => runK tm n c (.ops l :: k) fr'
          | none => none

section
variable {X : Cx} {k k' : List KJ} {tm tm' : Fr} {st : Store}

theorem W.code {c : ACode} : W X (.code c :: k) tm st ↔ XS X.P X.E X.N X.mu c (wQ X k) tm st := by simp only [W, wQ, thenQ_normal]
theorem W.ops {l : List AOp} : W X (.ops l :: k) tm st ↔ xOps X.P X.E l (wQ X k .normal) tm st := by simp only [W, wQ, thenQ_normal]
theorem W.lp {b : ACode} : W X (.lp b :: k) tm st ↔ XLoop X.P X.E X.N X.mu b (wQ X k) tm st := by simp only [W, wQ, thenQ_normal]
theorem W.blk {i : Nat} : W X (.blk i :: k) tm st ↔ W X k tm st := by simp only [W, wQ, blockQ_normal]
theorem W.exit {i : Nat} : ∀ {k : List KJ}, jdrop k i = some k' → W X k' tm st → wQ X k (.exit i) tm st
  | [], h, _ => by simp [jdrop] at h
  | .code c :: k, h, hn => by
    simp only [jdrop] at h
    simp only [wQ, thenQ_exit]; exact W.exit h hn
  | .ops c :: k, h, hn => by
    simp only [jdrop] at h
    simp only [wQ, thenQ_exit]; exact W.exit h hn
  | .lp c :: k, h, hn => by
    simp only [jdrop] at h
    simp only [wQ, thenQ_exit]; exact W.exit h hn
  | .blk id :: k, h, hn => by
    simp only [jdrop] at h
    simp only [wQ, blockQ]
    by_cases e : i = id
    · subst e
      have : Nat.beq i i = true := Nat.beq_refl i
      rw [this] at h
      cases h
      rw [if_pos rfl]; exact hn
    · have : Nat.beq i id = false := by cases e' : Nat.beq i id with
        | false => rfl
        | true => exact absurd (Nat.eq_of_beq_eq_true e') e
      rw [this] at h
      rw [if_neg e]
      exact W.exit h hn
theorem wQ_ret (tm : Fr) (st : Store) : ∀ k, wQ X k .ret tm st = X.fin .ret tm st
  | [] => rfl
  | .code c :: k => by simp only [wQ, thenQ_ret, wQ_ret tm st k]
  | .ops c :: k => by simp only [wQ, thenQ_ret, wQ_ret tm st k]
  | .blk id :: k => by simp only [wQ, blockQ_ret, wQ_ret tm st k]
  | .lp b :: k => by simp only [wQ, thenQ_ret, wQ_ret tm st k]

theorem W.po {i : AI} {v : AV} {st' : Store} {l : List AOp} {d : Nat} (h : evalAI X.E tm st i = some (v, st')) (hk : W X (.ops l :: k) (upd tm d v) st') : W X (.ops (⟨.some d, .none, .plain i⟩ :: l) :: k) tm st := by
  rw [W.ops] at hk ⊢
  simp only [xOps_plain, h, XO_some, put_upd]; exact hk
theorem W.o0 {i : AI} {v : AV} {st' : Store} {l : List AOp} (h : evalAI X.E tm st i = some (v, st')) (hk : W X (.ops l :: k) tm st') : W X (.ops (⟨.none, .none, .plain i⟩ :: l) :: k) tm st := by
  rw [W.ops] at hk ⊢
  simp only [xOps_plain, h, XO_some, put_none]; exact hk
theorem W.poff' {g : Nat} {b : Bool} {i : AK} {l : List AOp} {d : Nat} {vs : List AV} (hg : tm g = .tup vs) (hk : W X (.ops l :: k) (upd tm d (.tup [])) st) : W X (.ops (⟨.some d, .some (g, b), i⟩ :: l) :: k) tm st := by
  rw [W.ops] at hk ⊢
  simp only [xOps_guard, hg, XG_tup, put_upd]; exact hk
theorem W.poff {g : Nat} {b t : Bool} {i : AK} {l : List AOp} {d : Nat} (hg : tm g = .bool t) (ht : t = !b) (hk : W X (.ops l :: k) (upd tm d (.tup [])) st) : W X (.ops (⟨.some d, .some (g, b), i⟩ :: l) :: k) tm st := by
  subst ht
  rw [W.ops] at hk ⊢
  cases b
  · simp only [xOps_guard, hg, Bool.not_false, XG_tf, put_upd]; exact hk
  · simp only [xOps_guard, hg, Bool.not_true, XG_ft, put_upd]; exact hk
theorem W.on {d : Option Nat} {g : Nat} {b t : Bool} {i : AK} {l : List AOp} (hg : tm g = .bool t) (ht : t = b) (hk : W X (.ops (⟨d, .none, i⟩ :: l) :: k) tm st) : W X (.ops (⟨d, .some (g, b), i⟩ :: l) :: k) tm st := by
  subst ht
  rw [W.ops] at hk ⊢
  simp only [xOps_guard, hg, XG_run]; exact hk

variable {fr : List (Nat × AV)}
theorem W.o {i : AI} {v : AV} {st' : Store} {l : List AOp} {d : Nat} (h : evalAI X.E (updL tm fr) st i = some (v, st')) (hk : W X (.ops l :: k) (updL tm ((d, v) :: fr)) st') : W X (.ops (⟨.some d, .none, .plain i⟩ :: l) :: k) (updL tm fr) st := W.po h hk
theorem W.off {g : Nat} {b t : Bool} {i : AK} {l : List AOp} {d : Nat} (hg : updL tm fr g = .bool t) (ht : t = !b) (hk : W X (.ops l :: k) (updL tm ((d, .tup []) :: fr)) st) : W X (.ops (⟨.some d, .some (g, b), i⟩ :: l) :: k) (updL tm fr) st := W.poff hg ht hk

theorem isTrue_bool {v : Option AV} {t : Bool} (h : isTrue? v = some (some t)) : v = some (.bool t) := by
  unfold isTrue? at h
  split at h
  · split at h
    · rename_i t'
      cases t' <;> simp at h <;> subst h <;> rfl
    · split at h <;> simp at h
    · cases h
  · cases h
theorem isTrue_tup {v : Option AV} (h : isTrue? v = some none) : v = some (.tup []) := by
  unfold isTrue? at h
  split at h
  · split at h
    · rename_i t'
      cases t' <;> simp at h
    · split at h
      · rfl
      · cases h
    · cases h
  · cases h
theorem stepF_cases {w : Bool} {tm : Fr} {o : AOp} {fr fr' : List (Nat × AV)} (h : stepF w tm o fr = some fr') : ∃ d v, fr' = (d, v) :: fr ∧
    ((∃ g b i, o = ⟨some d, some (g, b), i⟩ ∧ v = .tup [] ∧ (updL tm fr g = .tup [] ∨ updL tm fr g = .bool (!b)) ∧ (w = true ∨ bornN ⟨some d, none, i⟩ = 0)) ∨ (∃ g b i, o = ⟨some d, some (g, b), .plain i⟩ ∧ updL tm fr g = .bool b ∧ stepV tm i fr = some v) ∨ ∃ i, o = ⟨some d, none, .plain i⟩ ∧ stepV tm i fr = some v) := by
  obtain ⟨d, g, i⟩ := o
  cases d with
  | none => simp [stepF] at h
  | some d =>
    cases g with
    | some gb =>
      obtain ⟨g, b⟩ := gb
      simp only [stepF] at h
      split at h
      · rename_i z hw
        cases z with
        | none =>
          simp only [cond_eq_ite] at h
          split at h
          · rename_i hb
            cases h
            exact ⟨d, _, rfl, .inl ⟨g, b, i, rfl, rfl, .inl (look_eq (isTrue_tup hw)), by simpa using hb⟩⟩
          · cases h
        | some t =>
          have hl := look_eq (tm := tm) (isTrue_bool hw)
          simp only at h
          split at h
          · rename_i e
            have e : t = b := by simpa using e
            subst e
            cases i with
            | call f xs => cases h
            | callv f xs => cases h
            | plain i =>
              simp only at h
              split at h
              · rename_i v hv
                cases h
                exact ⟨d, v, rfl, .inr (.inl ⟨g, t, i, rfl, hl, hv⟩)⟩
              · cases h
          · rename_i e
            have e : t = !b := by cases t <;> cases b <;> simp_all
            simp only [cond_eq_ite] at h
            split at h
            · rename_i hb
              cases h
              exact ⟨d, _, rfl, .inl ⟨g, b, i, rfl, rfl, .inr (by rw [hl, e]), by simpa using hb⟩⟩
            · cases h
      · cases h
    | none =>
      cases i with
      | call f xs => simp [stepF] at h
      | callv f xs => simp [stepF] at h
      | plain i =>
        simp only [stepF] at h
        split at h
        · rename_i v hv
          cases h
          exact ⟨d, v, rfl, .inr (.inr ⟨i, rfl, hv⟩)⟩
        · cases h
theorem stepF_sound {o : AOp} {l : List AOp} {fr fr' : List (Nat × AV)} (h : stepF true tm o fr = some fr') (hk : W X (.ops l :: k) (updL tm fr') st) : W X (.ops (o :: l) :: k) (updL tm fr) st := by
  obtain ⟨d, v, rfl, hc⟩ := stepF_cases h
  rcases hc with ⟨g, b, i, rfl, rfl, hg | hg, _⟩ | ⟨g, b, i, rfl, hg, hv⟩ | ⟨i, rfl, hv⟩
  · exact W.poff' hg hk
  · exact W.off hg rfl hk
  · exact W.on hg rfl (W.o (stepV_eval hv) hk)
  · exact W.o (stepV_eval hv) hk

theorem runK_sound : ∀ (n c : Nat) (k : List KJ) (fr : List (Nat × AV)) (k' : List KJ) (fr' : List (Nat × AV)), runK tm n c k fr = some (k', fr') → W X k' (updL tm fr') st → W X k (updL tm fr) st
  | 0, c, k, fr, k', fr', h, _ => by simp [runK] at h
  | n + 1, c, [], fr, k', fr', h, hk => by simp only [runK] at h; cases h; exact hk
  | n + 1, c, .lp b :: k, fr, k', fr', h, hk => by simp only [runK] at h; cases h; exact hk
  | n + 1, c, .blk i :: k, fr, k', fr', h, hk => by
    simp only [runK] at h
    exact W.blk.2 (runK_sound n c k fr k' fr' h hk)
  | n + 1, c, .code x :: k, fr, k', fr', h, hk => by
    cases x <;> simp only [runK] at h
    case seq a b =>
      have := runK_sound n c _ fr k' fr' h hk
      rw [W.code] at this ⊢
      exact XS.seq this
    case skip =>
      rw [W.code]
      exact XS.of (by rw [xCode_skip]; exact runK_sound n c _ fr k' fr' h hk)
    case ops l =>
      have := runK_sound n c _ fr k' fr' h hk
      rw [W.ops] at this
      rw [W.code]
      exact XS.of (by rw [xCode_ops]; exact this)
    case block i b =>
      have := runK_sound n c _ fr k' fr' h hk
      rw [W.code] at this ⊢
      exact XS.block this
    case loop b =>
      cases h
      rw [W.lp] at hk
      rw [W.code]
      exact XS.of (by rw [xCode_loop]; exact hk)
    case exit i =>
      split at h
      · rename_i k2 h2
        rw [W.code]
        exact XS.of (by rw [xCode_exit]; exact W.exit h2 (runK_sound n c k2 fr k' fr' h hk))
      · cases h
    case cond z a b => cases h; exact hk
    case ret => cases h; exact hk
    case draw s m b q u => cases h; exact hk
    case range z p a b => cases h; exact hk
  | n + 1, c, .ops [] :: k, fr, k', fr', h, hk => by
    simp only [runK] at h
    rw [W.ops, xOps_nil]
    exact runK_sound n c k fr k' fr' h hk
  | n + 1, 0, .ops (o :: l) :: k, fr, k', fr', h, hk => by simp only [runK] at h; cases h; exact hk
  | n + 1, c + 1, .ops (o :: l) :: k, fr, k', fr', h, hk => by
    simp only [runK] at h
    split at h
    · rename_i fr2 h2
      exact stepF_sound h2 (runK_sound n c _ _ k' fr' h hk)
    · cases h
theorem rn (c : Nat) {fr' : List (Nat × AV)} (h : runK tm 400 c k fr = some (k', fr')) (hk : W X k' (updL tm fr') st) : W X k (updL tm fr) st := runK_sound 400 c k fr k' fr' h hk

/-- Just m control steps. -/
def ctl : Nat → List KJ → Option (List KJ)
  | 0, k => some k
  | m + 1, k => match k with
    | .blk _ :: k => ctl m k
    | .ops l :: k => match l with
      | [] => ctl m k
      | _ :: _ => none
    | .code x :: k => match x with
      | .seq a b => ctl m (.code a :: .code b :: k)
      | .skip => ctl m k
      | .ops l => ctl m (.ops l :: k)
      | .block i b => ctl m (.code b :: .blk i :: k)
      | .exit i => match jdrop k i with
        | some k' => ctl m k'
        | none => none
      | _ => none
    | _ => none
theorem ctl_sound : ∀ (m : Nat) (k : List KJ) (k' : List KJ), ctl m k = some k' → W X k' tm st → W X k tm st
  | 0, k, k', h, hk => by simp only [ctl] at h; cases h; exact hk
  | m + 1, [], k', h, hk => by simp [ctl] at h
  | m + 1, .lp b :: k, k', h, hk => by simp [ctl] at h
  | m + 1, .blk i :: k, k', h, hk => by
    simp only [ctl] at h
    exact W.blk.2 (ctl_sound m k k' h hk)
  | m + 1, .ops [] :: k, k', h, hk => by
    simp only [ctl] at h
    rw [W.ops, xOps_nil]
    exact ctl_sound m k k' h hk
  | m + 1, .ops (_ :: _) :: k, k', h, hk => by simp [ctl] at h
  | m + 1, .code x :: k, k', h, hk => by
    cases x <;> simp only [ctl] at h
    case seq a b =>
      have := ctl_sound m _ k' h hk
      rw [W.code] at this ⊢
      exact XS.seq this
    case skip =>
      rw [W.code]
      exact XS.of (by rw [xCode_skip]; exact ctl_sound m _ k' h hk)
    case ops l =>
      have := ctl_sound m _ k' h hk
      rw [W.ops] at this
      rw [W.code]
      exact XS.of (by rw [xCode_ops]; exact this)
    case block i b =>
      have := ctl_sound m _ k' h hk
      rw [W.code] at this ⊢
      exact XS.block this
    case exit i =>
      split at h
      · rename_i k2 h2
        rw [W.code]
        exact XS.of (by rw [xCode_exit]; exact W.exit h2 (ctl_sound m k2 k' h hk))
      · cases h
    all_goals cases h
/-- Plain operations, then control steps. -/
def runJ (tm : Fr) (m : Nat) : Nat → Nat → List KJ → List (Nat × AV) → Option (List KJ × List (Nat × AV))
  | 0, _, _, _ => none
  | n + 1, c, k, fr => match c with
    | 0 => match ctl m k with
      | some k' => some (k', fr)
      | none => none
    | c + 1 => match k with
      | .ops l :: k => match l with
        | [] => runJ tm m n (c + 1) k fr
        | o :: l => match stepF true tm o fr with
          | some fr' => runJ tm m n c (.ops l :: k) fr'
          | none => none
      | k => match ctl 1 k with
        | some k' => runJ tm m n (c + 1) k' fr
        | none => none
theorem runJ_sound {m : Nat} : ∀ (n c : Nat) (k : List KJ) (fr : List (Nat × AV)) (k' : List KJ) (fr' : List (Nat × AV)), runJ tm m n c k fr = some (k', fr') → W X k' (updL tm fr') st → W X k (updL tm fr) st
  | 0, c, k, fr, k', fr', h, _ => by simp [runJ] at h
  | n + 1, 0, k, fr, k', fr', h, hk => by
    simp only [runJ] at h
    split at h
    · rename_i k2 h2; cases h; exact ctl_sound m k _ h2 hk
    · cases h
  | n + 1, c + 1, k, fr, k', fr', h, hk => by
    simp only [runJ] at h
    split at h
    · rename_i k0 l k2
      cases l with
      | nil =>
        rw [W.ops, xOps_nil]
        exact runJ_sound n (c + 1) _ fr k' fr' h hk
      | cons o l =>
        simp only at h
        split at h
        · rename_i fr2 h2
          exact stepF_sound h2 (runJ_sound n c _ _ k' fr' h hk)
        · cases h
    · split at h
      · rename_i k2 h2
        exact ctl_sound 1 _ k2 h2 (runJ_sound n (c + 1) k2 fr k' fr' h hk)
      · cases h
theorem rj (c m : Nat) {fr' : List (Nat × AV)} (h : runJ tm m 400 c k fr = some (k', fr')) (hk : W X k' (updL tm fr') st) : W X k (updL tm fr) st := runJ_sound 400 c k fr k' fr' h hk

/-! ### Ways that part, rounds, the end -/
theorem cd {z : AX} {x y : ACode} {t : Bool} (hz : tm.x z = .bool t) (h1 : t = true → W X (.code x :: k) tm st) (h2 : t = false → W X (.code y :: k) tm st) : W X (.code (.cond z x y) :: k) tm st := by
  simp only [W.code] at h1 h2 ⊢
  exact XS.cond hz h1 h2
theorem ct {z : AX} {x y : ACode} {t : Bool} (hz : tm.x z = .bool t) (ht : t = true) (h1 : W X (.code x :: k) tm st) : W X (.code (.cond z x y) :: k) tm st := cd hz (fun _ => h1) fun e => by rw [ht] at e; cases e
theorem cf {z : AX} {x y : ACode} {t : Bool} (hz : tm.x z = .bool t) (ht : t = false) (h1 : W X (.code y :: k) tm st) : W X (.code (.cond z x y) :: k) tm st := cd hz (fun e => by rw [ht] at e; cases e) fun _ => h1
theorem lp {b : ACode} (h : W X (.code b :: .lp b :: k) tm st) : W X (.lp b :: k) tm st := by
  rw [W.code] at h
  rw [W.lp]
  exact XLoop.once h
theorem rfin (h : X.fin .ret tm st) : W X (.code .ret :: k) tm st := by
  rw [W.code]
  exact XS.of (by rw [xCode_ret, wQ_ret]; exact h)
theorem W.exitN {i : Nat} : ∀ {k : List KJ}, jdrop k i = none → X.fin (.exit i) tm st → wQ X k (.exit i) tm st
  | [], _, hn => hn
  | .code c :: k, h, hn => by
    simp only [jdrop] at h
    simp only [wQ, thenQ_exit]; exact W.exitN h hn
  | .ops c :: k, h, hn => by
    simp only [jdrop] at h
    simp only [wQ, thenQ_exit]; exact W.exitN h hn
  | .lp c :: k, h, hn => by
    simp only [jdrop] at h
    simp only [wQ, thenQ_exit]; exact W.exitN h hn
  | .blk id :: k, h, hn => by
    simp only [jdrop] at h
    simp only [wQ, blockQ]
    by_cases e : i = id
    · subst e
      have : Nat.beq i i = true := Nat.beq_refl i
      rw [this] at h
      cases h
    · have : Nat.beq i id = false := by cases e' : Nat.beq i id with
        | false => rfl
        | true => exact absurd (Nat.eq_of_beq_eq_true e') e
      rw [this] at h
      rw [if_neg e]
      exact W.exitN h hn
theorem xfin {i : Nat} (hd : jdrop k i = none) (h : X.fin (.exit i) tm st) : W X (.code (.exit i) :: k) tm st := by
  rw [W.code]
  exact XS.of (by rw [xCode_exit]; exact W.exitN hd h)
theorem rt {P : Program} {E : Glob} {N : Nat} {mu : Nat → Bool} {res : List RA} {K : AV → Store → Prop} {vs : List AV} (h : resL E tm st res = some vs) (hk : K (pack vs) st) : W ⟨P, E, N, mu, res, K, endQ E res K⟩ (.code .ret :: k) tm st :=
  rfin (by show endQ E res K .ret tm st; rw [endQ_ret, h, XR_some]; exact hk)
theorem re {P : Program} {E : Glob} {N : Nat} {mu : Nat → Bool} {res : List RA} {K : AV → Store → Prop} {vs : List AV} (h : resL E tm st res = some vs) (hk : K (pack vs) st) : W ⟨P, E, N, mu, res, K, endQ E res K⟩ [] tm st := by
  simp only [W, wQ, endQ_normal, h, XR_some]; exact hk

theorem en {l : List (Nat × AV)} (hf : Frm tm l) (h : W X k (updL tm l) st) : W X k tm st := by rw [Frm.eq hf] at h; exact h
theorem wkc (hw : Weak tm tm') {c : ACode} (h : W X (.code c :: k) tm' st) : W X (.code c :: k) tm st := by
  rw [W.code] at h ⊢; exact XS.weak hw h
theorem wkl (hw : Weak tm tm') {c : ACode} (h : W X (.lp c :: k) tm' st) : W X (.lp c :: k) tm st := by
  rw [W.lp] at h ⊢; exact XLoop.weak hw h
end
end Go.Proofs.Ytjbafmnocopofaa.AW
