/-
  The abstract walk: statements that draw the order of their operations. (Second part: one walk in the order of the text serves every order.)
-/
import Derived.Test.YtcidnoghoifmmaaDoorFwS
set_option linter.unusedSimpArgs false
set_option linter.unusedVariables false
namespace Go.Proofs.YtcidnoghoifmmaaDoor.AW
open Go

def AX.tmp : AX → Option Nat
  | .t n => some n
  | .c _ => none

def AK.xs : AK → List AX
  | .plain i => i.xs
  | .call _ as => as
  | .callv f as => f :: as

def AOp.looks (o : AOp) : List Nat := o.ins.xs.filterMap AX.tmp ++ (match o.guard with | some (g, _) => [g] | none => [])

def AOp.apart (x y : AOp) : Bool :=
  (match x.dst with
   | some d => !y.looks.contains d && y.dst != some d
   | none => true) &&
  (match y.dst with
   | some d => !x.looks.contains d
   | none => true)

def AK.born : AK → Bool
  | .plain (.alloc _) => true
  | .plain (.mkmap _) => true
  | .plain (.bslice _ _ _ _ _ _) => true
  | _ => false

def AK.mks : AK → Bool
  | .plain (.mkmap _) => true
  | _ => false

def AOp.quiet (o : AOp) : Bool :=
  match o.ins with
  | .plain (.alloc _) => o.guard.isNone
  | .plain (.mkmap _) => o.guard.isNone
  | .plain (.bslice _ _ _ _ _ mu) => o.guard.isNone && !mu
  | .plain (.store _ _ _) => o.guard.isNone
  | .plain (.mapset _ _ _ _) => o.guard.isNone
  | .plain (.cvB _) => true
  | .plain i => i.still
  | .call _ _ => true
  | .callv x _ => match x with
    | .c (.fn _ []) => true
    | _ => false

def quietN (stores : Bool) : List AOp → Nat
  | [] => 0
  | o :: l => if o.quiet && (stores || (match o.ins with | .plain (.store _ _ _) => false | _ => true)) then quietN stores l + 1 else 0

def quietC : List AOp → Nat
  | [] => 0
  | o :: l => if o.quiet && (match o.ins with | .plain (.store _ _ _) => false | .plain _ => true | _ => false) then quietC l + 1 else 0

def bornN (o : AOp) : Nat := if o.ins.born then 1 else 0

def rkL : List AOp → Nat → Nat
  | [], _ => 0
  | _, 0 => 0
  | o :: l, k + 1 => bornN o + rkL l k

def mapIx : List AOp → Option Nat
  | [] => none
  | o :: l => if o.ins.mks then some 0 else (mapIx l).map (· + 1)

def mapRk (al : List AOp) : Nat := match mapIx al with
  | some i => rkL al i
  | none => 0

def storeAt : List AOp → List AX
  | [] => []
  | o :: l => match o.ins with
    | .plain (.store _ a _) => a :: storeAt l
    | _ => storeAt l

def aliveC (st : Store) (id : Nat) : Bool := match st[id]? with
  | some (.cells _) => true
  | _ => false
def baseX (al : List AOp) : Nat → AX → AX
  | 0, x => x
  | f + 1, x => match x with
    | .t n => match al.find? (fun o => match o.dst with | some d => Nat.beq d n | none => false) with
      | some o => match o.guard, o.ins with
        | none, .plain (.faddr _ y) => baseX al f y
        | none, .plain (.mv y) => baseX al f y
        | none, .plain (.nilck y) => baseX al f y
        | _, _ => x
      | none => x
    | .c _ => x
def onceX : List AX → List AX
  | [] => []
  | x :: l => if (onceX l).any (fun y => match x, y with | .t n, .t m => Nat.beq n m | _, _ => false) then onceX l else x :: onceX l
def maskS : List AV → Store → Store
  | [], st => st
  | .ptr id _ :: l, st => maskS l (if aliveC st id = true then st.set id .hid else st)
  | _ :: l, st => maskS l st

inductive Eff where
  | none
  | born (id : Nat) (o : AObj)
  | put (id off n : Nat) (cs : List AV)
  | ins (id : Nat) (kd : Option IntKind) (c : Key) (v : AV)
  | chk (id n : Nat)
  | kill (id n : Nat)

def Eff.id : Eff → Option Nat
  | .none => Option.none
  | .born id _ => some id
  | .put id _ _ _ => some id
  | .ins id _ _ _ => some id
  | .chk id _ => some id
  | .kill id _ => some id

def Eff.upd : Eff → AObj → Option AObj
  | .none, _ => Option.none
  | .born _ o, s => match s with
    | .unborn => some o
    | .lost => some .dead
    | _ => Option.none
  | .put _ off n cs, s => match s with
    | .cells c => if cs.length = n ∧ off + n ≤ c.length ∧ cs.all AV.one = true then some (.cells (c.take off ++ cs ++ c.drop (off + n))) else Option.none
    | _ => Option.none
  | .ins _ kd c v, s => match s with
    | .map kd' f n => if kd' = kd ∧ (f c).isNone = true then some (.map kd (updK f c v) (n + 1)) else Option.none
    | _ => Option.none
  | .chk _ n, s => match s with
    | .unborn => some .unborn
    | .tail m .none => if m = n then some (.tail m) else Option.none
    | _ => Option.none
  | .kill _ n, s => match s with
    | .unborn => some .lost
    | .tail m .none => if m = n then some .dead else Option.none
    | _ => Option.none

def Eff.app (e : Eff) (s : Store) : Option Store :=
  match e.id with
  | Option.none => some s
  | some id => match s[id]? with
    | some o => (e.upd o).map (s.set id)
    | Option.none => Option.none

def Eff.appS (e : Eff) (s : Store) : Option Store :=
  match e with
  | .chk id n => match s[id]? with
    | some (.tail m .none) => if m = n then some s else Option.none
    | _ => Option.none
  | .kill id n => match s[id]? with
    | some (.tail m .none) => if m = n then some (s.set id .dead) else Option.none
    | _ => Option.none
  | e => e.app s

def KFun (P : Program) (E : Glob) (f : FuncId) (ds : List AV) (v : AV) (id n : Nat) : Prop :=
  ∀ s : Store, s[id]? = some (.tail n) → XCall P E f ds s fun r s' => r = v ∧ s' = s.set id .dead

def qvK (P : Program) (E : Glob) (len : Nat) (x : AX) (as : List AX) (tm : Fr) (v : AV) (e : Eff) : Prop :=
  ∃ f, x = .c (.fn f []) ∧ callable P f = true ∧ ∃ c es xs id n, AX.t c ∈ as ∧ tm c = .sl es xs (some id) ∧ len ≤ id ∧ KFun P E f (as.map tm.x) v id n ∧ e = .kill id n
def qv (P : Program) (E : Glob) (st : Store) (mr r : Nat) (i : AK) (tm : Fr) (v : AV) (e : Eff) : Prop :=
  match i with
  | .plain i => match i with
    | .alloc z => v = .ptr (st.length + r) 0 ∧ e = .born (st.length + r) (.cells z)
    | .mkmap kd => v = .mp (st.length + r) ∧ e = .born (st.length + r) (.map kd (fun _ => none) 0)
    | .bslice es len ag zero parts mu => ∃ l, partsOk (len * es) parts tm = some l ∧ mu = false ∧ (fillA (rep0 zero len) l).all AV.one = true ∧ v = .sl es ((chunks es len (fillA (rep0 zero len) l)).map (ofCells ag)) (some (st.length + r)) ∧ e = .born (st.length + r) (.tail len)
    | .store n a x => ∃ id off, tm.x a = .ptr id off ∧ st[id]? = some .hid ∧ v = .tup [] ∧ e = .put id off n (tm.x x).cells
    | .mapset kd m k x => ∃ c, tm.x m = .mp (st.length + mr) ∧ keyOf kd (tm.x k) = some c ∧ v = .tup [] ∧ e = .ins (st.length + mr) kd c (tm.x x)
    | .cvB x => ∃ n es xs id, x = .t n ∧ tm n = .sl es xs (some id) ∧ v = .sl es xs (some id) ∧ e = .chk id xs.length
    | i => i.still = true ∧ evalAI E tm st i = some (v, st) ∧ e = .none
  | .call f as => AV.dataL (as.map tm.x) = true ∧ DFun P E f (AV.stripL (as.map tm.x)) v ∧ e = .none
  | .callv x as => qvK P E st.length x as tm v e

def yv (P : Program) (E : Glob) (st : Store) (mr r : Nat) (o : AOp) (tm : Fr) (v : AV) (e : Eff) : Prop :=
  match o.guard with
  | none => qv P E st mr r o.ins tm v e
  | some (g, b) => match tm g with
    | .bool t => if t = b then qv P E st mr r o.ins tm v e else v = .tup [] ∧ e = .none
    | .tup _ => v = .tup [] ∧ e = .none
    | _ => False

def lexQ (P : Program) (E : Glob) (st : Store) (mr : Nat) : List AOp → Nat → (Fr → Store → Prop) → Fr → Store → Prop
  | [], _, K, tm, s => K tm s
  | o :: l, r, K, tm, s => ∃ v e s', yv P E st mr r o tm v e ∧ e.appS s = some s' ∧ lexQ P E st mr l (r + bornN o) K (tm.put o.dst v) s'


def listedN (n : Nat) : Nat → Array Bool
  | 0 => Array.replicate n false
  | k + 1 => (listedN n k).setIfInBounds k true

def ancB (ops : Array Oper) : Nat → Nat → Nat → Bool
  | 0, _, _ => false
  | f + 1, k, i => match ops[k]? with
    | some o => o.after.any fun e => Region.binds .any e && (e.on == i || ancB ops f e.on i)
    | none => false

def keyC (kd : Option IntKind) : AX → Option Key
  | .c v => keyOf kd v
  | .t _ => none

def effApart (hm : Bool) : AK → AK → Bool
  | .plain (.store _ _ _), .plain (.store _ _ _) => false
  | .plain (.mkmap _), .plain (.mapset _ _ _ _) => false
  | .plain (.mapset _ _ _ _), .plain (.mkmap _) => false
  | .plain (.mkmap _), .plain (.mkmap _) => false
  | .plain (.mapset kd _ k _), .plain (.mapset kd' _ k' _) => match keyC kd k, keyC kd' k' with
    | some c, some c' => decide (c ≠ c')
    | _, _ => false
  | .plain (.cvB _), .callv _ _ => false
  | .callv _ _, .plain (.cvB _) => false
  | .plain (.mapset _ _ _ _), y => hm || !y.born
  | x, .plain (.mapset _ _ _ _) => hm || !x.born
  | _, _ => true

def lexOk (ops : Array Oper) (al : List AOp) (nq : Nat) (k : Nat) : Bool :=
  (Region.ready .any ops (listedN ops.size k)).contains k &&
  (List.range nq).all fun j => j ≤ k || (match ops[j]? with | some oj => oj.after.any (fun e => Region.binds .any e && e.on == k) | none => false) ||
    (match al[k]?, al[j]? with | some x, some y => x.apart y && effApart (mapIx al).isSome x.ins y.ins | _, _ => false)

def drawOk (ops : Array Oper) (al : List AOp) (nq : Nat) : Bool :=
  decide (nq ≤ ops.size) && decide (al.length = ops.size) &&
  ((List.range nq).all fun k => lexOk ops al nq k) &&
  ((List.range ops.size).all fun j => j < nq || (List.range nq).all fun i => ancB ops j j i) &&
  ((List.range ops.size).all fun k => k < nq || Region.ready .any ops (listedN ops.size k) == [k]) &&
  (Region.ready .any ops (listedN ops.size ops.size)).isEmpty

section
variable {P : Program} {E : Glob} {N : Nat} {mu : Nat → Bool} {ops : Array Oper}

def Closed (ops : Array Oper) (L : Array Bool) : Prop := ∀ (x : Nat) o, ops[x]? = some o → L.getD x false = true → ∀ e ∈ o.after, Region.binds .any e = true → L.getD e.on false = true

theorem Closed.anc {L : Array Bool} (hc : Closed ops L) : ∀ (f k i : Nat), ancB ops f k i = true → (∀ o, ops[k]? = some o → ∀ e ∈ o.after, Region.binds .any e = true → L.getD e.on false = true) → L.getD i false = true
  | 0, k, i, h, _ => by simp [ancB] at h
  | f + 1, k, i, h, hk => by
    simp only [ancB] at h
    split at h
    · rename_i o ho
      obtain ⟨e, he, hb⟩ := Array.any_eq_true'.1 h
      simp only [Bool.and_eq_true, Bool.or_eq_true, beq_iff_eq] at hb
      obtain ⟨hb1, hb2⟩ := hb
      have hl := hk o ho e he hb1
      rcases hb2 with rfl | hb2
      · exact hl
      · exact hc.anc f e.on i hb2 fun o' ho' e' he' hb' => hc e.on o' ho' hl e' he' hb'
    · cases h

theorem Closed.set {L : Array Bool} (hc : Closed ops L) {i : Nat} (hr : i ∈ Region.ready .any ops L) : Closed ops (L.setIfInBounds i true) := by
  intro x o ho hx e he hb
  by_cases hxi : i = x
  · subst hxi
    obtain ⟨_, o', ho', hall⟩ := mem_ready.1 hr
    rw [ho] at ho'; cases ho'
    exact getD_set_true (hall e he hb)
  · rw [getD_set_ne false hxi] at hx
    exact getD_set_true (hc x o ho hx e he hb)

def anyQ (P : Program) (E : Glob) (ops : Array Oper) (st : Store) (al : List AOp) (nq : Nat) (K : Fr → Store → Prop) : Nat → Array Bool → Fr → Store → Prop
  | 0, L, tm, s => L = listedN ops.size nq ∧ K tm s
  | f + 1, L, tm, s => Region.ready .any ops L ≠ [] ∧ ∀ i ∈ Region.ready .any ops L, i < nq ∧ ∃ o, al[i]? = some o ∧ ∃ v e s', yv P E st (mapRk al) (rkL al i) o tm v e ∧ e.app s = some s' ∧ anyQ P E ops st al nq K f (L.setIfInBounds i true) (tm.put o.dst v) s'

theorem put_comm (tm : Fr) {d e : Option Nat} (u v : AV) (h : ∀ x, d = some x → e ≠ some x) : (tm.put d u).put e v = (tm.put e v).put d u := by
  funext i
  simp only [Fr.put]
  by_cases h1 : d = some i
  · have h2 := h i h1
    simp [h1, h2]
  · simp [h1]

theorem apart_spec {x y : AOp} (h : x.apart y = true) : (∀ d, x.dst = some d → d ∉ y.looks) ∧ (∀ d, x.dst = some d → y.dst ≠ some d) ∧ (∀ d, y.dst = some d → d ∉ x.looks) := by
  refine ⟨fun d hd => ?_, fun d hd => ?_, fun d hd => ?_⟩ <;> simp [AOp.apart, hd] at h
  · exact h.1.1
  · exact h.1.2
  · exact h.2

theorem x_put {tm : Fr} {d : Option Nat} {u : AV} {x : AX} (h : ∀ n, x.tmp = some n → d ≠ some n) : (tm.put d u).x x = tm.x x := by
  cases x with
  | c v => rfl
  | t n =>
    have := h n rfl
    simp [Fr.x, Fr.put, this]

theorem partsOk_put {tm tm' : Fr} {total : Nat} {ps : List (Nat × Nat × AX)} (h : ∀ x ∈ ps.map (fun p => p.2.2), tm.x x = tm'.x x) : partsOk total ps tm = partsOk total ps tm' := partsOk_congr h

theorem yv_put {st : Store} {mr r : Nat} {o : AOp} {tm : Fr} {v u : AV} {e : Eff} {d : Option Nat} (h : ∀ x, d = some x → x ∉ o.looks) : yv P E st mr r o (tm.put d u) v e ↔ yv P E st mr r o tm v e := by
  have hx : ∀ x ∈ o.ins.xs, (tm.put d u).x x = tm.x x := fun x hx => x_put fun n hn e => h n e (by
    simp only [AOp.looks, List.mem_append, List.mem_filterMap]
    exact .inl ⟨x, hx, hn⟩)
  have hq : qv P E st mr r o.ins (tm.put d u) v e ↔ qv P E st mr r o.ins tm v e := by
    generalize o.ins = k at hx
    cases k with
    | plain i =>
      have he : evalAI E (tm.put d u) st i = evalAI E tm st i := eval_congr hx
      cases i
      case alloc z => simp only [qv]
      case mkmap z => simp only [qv]
      case bslice es len ag zero parts mu => simp only [qv, partsOk_put (tm := tm.put d u) (tm' := tm) hx]
      case store n a x =>
        simp only [AK.xs, AI.xs, List.mem_cons, List.not_mem_nil, or_false, forall_eq_or_imp, forall_eq] at hx
        simp only [qv, hx]
      case mapset kd m k x =>
        simp only [AK.xs, AI.xs, List.mem_cons, List.not_mem_nil, or_false, forall_eq_or_imp, forall_eq] at hx
        simp only [qv, hx]
      case cvB x =>
        simp only [AK.xs, AI.xs, List.mem_cons, List.not_mem_nil, or_false, forall_eq] at hx
        cases x with
        | c v => simp [qv]
        | t n =>
          have hx' : (tm.put d u) n = tm n := hx
          constructor
          · rintro ⟨m, es, xs, id, h1, h2, h3⟩
            cases h1
            exact ⟨n, es, xs, id, rfl, hx' ▸ h2, h3⟩
          · rintro ⟨m, es, xs, id, h1, h2, h3⟩
            cases h1
            exact ⟨n, es, xs, id, rfl, hx'.trans h2, h3⟩
      all_goals simp only [qv, he]
    | call f as =>
      have : as.map (tm.put d u).x = as.map tm.x := List.map_congr_left hx
      simp only [qv, this]
    | callv x as =>
      have hx1 : as.map (tm.put d u).x = as.map tm.x := List.map_congr_left fun y hy => hx y (List.mem_cons_of_mem _ hy)
      have hx2 : ∀ c, AX.t c ∈ as → (tm.put d u) c = tm c := fun c hc => hx (.t c) (List.mem_cons_of_mem _ hc)
      simp only [qv, qvK, hx1]
      constructor
      · rintro ⟨f, hf, h0, c, es, xs, id, n, h1, h2, h3⟩
        exact ⟨f, hf, h0, c, es, xs, id, n, h1, hx2 c h1 ▸ h2, h3⟩
      · rintro ⟨f, hf, h0, c, es, xs, id, n, h1, h2, h3⟩
        exact ⟨f, hf, h0, c, es, xs, id, n, h1, (hx2 c h1).trans h2, h3⟩
  unfold yv
  split
  · exact hq
  · rename_i g b hg
    have : (tm.put d u) g = tm g := by
      have hne : d ≠ some g := fun e => h g e (by simp [AOp.looks, hg])
      simp [Fr.put, hne]
    rw [this]
    cases tm g <;> simp only []
    split
    · exact hq
    · exact Iff.rfl


theorem app_comm_ne {e1 e2 : Eff} {s s1 s2 : Store} (hne : ∀ i, e1.id = some i → e2.id ≠ some i) (h1 : e1.app s = some s1) (h2 : e2.app s1 = some s2) : ∃ s', e2.app s = some s' ∧ e1.app s' = some s2 := by
  unfold Eff.app at *
  cases h1i : e1.id with
  | none =>
    rw [h1i] at h1
    cases h1
    exact ⟨s2, h2, rfl⟩
  | some i =>
    rw [h1i] at h1
    cases h2i : e2.id with
    | none =>
      rw [h2i] at h2
      cases h2
      exact ⟨s, rfl, h1⟩
    | some j =>
      have hij : i ≠ j := fun e => hne i h1i (by rw [h2i, e])
      rw [h2i] at h2
      simp only at h1 h2 ⊢
      split at h1
      · rename_i o1 ho1
        simp only [Option.map_eq_some_iff] at h1
        obtain ⟨o1', hu1, rfl⟩ := h1
        rw [List.getElem?_set_ne hij] at h2
        split at h2
        · rename_i o2 ho2
          simp only [Option.map_eq_some_iff] at h2
          obtain ⟨o2', hu2, rfl⟩ := h2
          refine ⟨s.set j o2', by simp [ho2, hu2], ?_⟩
          rw [List.getElem?_set_ne (Ne.symm hij), ho1]
          simp only [hu1, Option.map_some, Option.some.injEq]
          exact List.set_comm _ _ (Ne.symm hij)
        · cases h2
      · cases h1

theorem app_comm_ins {id : Nat} {kd kd' : Option IntKind} {c c' : Key} {v v' : AV} {s s1 s2 : Store} (hne : c ≠ c') (h1 : (Eff.ins id kd c v).app s = some s1) (h2 : (Eff.ins id kd' c' v').app s1 = some s2) :
    ∃ s', (Eff.ins id kd' c' v').app s = some s' ∧ (Eff.ins id kd c v).app s' = some s2 := by
  simp only [Eff.app, Eff.id] at h1 h2 ⊢
  split at h1
  · rename_i o1 ho1
    simp only [Option.map_eq_some_iff] at h1
    obtain ⟨o1', hu1, rfl⟩ := h1
    have hl : id < s.length := lt_of_getElem? ho1
    rw [List.getElem?_set_self hl] at h2
    simp only [Option.map_eq_some_iff] at h2
    obtain ⟨o2', hu2, rfl⟩ := h2
    cases o1 <;> simp only [Eff.upd, reduceCtorEq] at hu1
    rename_i kd0 f n
    split at hu1
    · rename_i hc1
      cases hu1
      simp only [Eff.upd] at hu2
      split at hu2
      · rename_i hc2
        cases hu2
        obtain ⟨rfl, hn1⟩ := hc1
        obtain ⟨rfl, hn2⟩ := hc2
        have hf : (f c').isNone = true := by simpa [updK, Ne.symm hne] using hn2
        refine ⟨s.set id (.map kd0 (updK f c' v') (n + 1)), ?_, ?_⟩
        · simp [Eff.upd, hf]
        · rw [List.getElem?_set_self hl]
          have hf2 : (updK f c' v' c).isNone = true := by simpa [updK, hne] using hn1
          simp only [Eff.upd, hf2, and_self, if_true, Option.map_some, List.set_set, Option.some.injEq]
          congr 2
          funext x
          simp only [updK]
          by_cases hx : x = c
          · subst hx; simp [hne]
          · simp [hx]
      · cases hu2
    · cases hu1
  · cases h1

theorem rkL_lt (al : List AOp) : ∀ (i j : Nat) o, i < j → al[i]? = some o → o.ins.born = true → rkL al i < rkL al j := by
  induction al with
  | nil => intro i j o _ h; simp at h
  | cons x l ih =>
    intro i j o hij h hb
    obtain ⟨m, rfl⟩ : ∃ m, j = m + 1 := ⟨j - 1, by omega⟩
    cases i with
    | zero =>
      simp at h; subst h
      simp only [rkL, bornN, hb, if_true]
      omega
    | succ i =>
      have := ih i m o (by omega) (by simpa using h) hb
      simp only [rkL]
      omega

theorem rkL_ne {al : List AOp} {i j : Nat} {x y : AOp} (hi : al[i]? = some x) (hj : al[j]? = some y) (hb : x.ins.born = true) (hb' : y.ins.born = true) (hne : i ≠ j) : rkL al i ≠ rkL al j := by
  rcases Nat.lt_or_ge i j with h | h
  · have := rkL_lt al i j x h hi hb; omega
  · have := rkL_lt al j i y (by omega) hj hb'; omega

theorem mapIx_spec : ∀ {al : List AOp} {i : Nat}, mapIx al = some i → ∃ o, al[i]? = some o ∧ o.ins.mks = true
  | [], _, h => by simp [mapIx] at h
  | o :: l, i, h => by
    simp only [mapIx] at h
    split at h
    · cases h; exact ⟨o, rfl, by assumption⟩
    · simp only [Option.map_eq_some_iff] at h
      obtain ⟨j, hj, rfl⟩ := h
      obtain ⟨o', h1, h2⟩ := mapIx_spec hj
      exact ⟨o', by simpa using h1, h2⟩

theorem mk_born {k : AK} (h : k.mks = true) : k.born = true := by
  unfold AK.mks at h
  split at h
  · rfl
  · cases h

theorem mapRk_ne {al : List AOp} {i : Nat} {x : AOp} (hi : al[i]? = some x) (hb : x.ins.born = true) (hm : x.ins.mks = false) (hs : (mapIx al).isSome = true) : rkL al i ≠ mapRk al := by
  obtain ⟨m, hm'⟩ := Option.isSome_iff_exists.1 hs
  obtain ⟨o, h1, h2⟩ := mapIx_spec hm'
  simp only [mapRk, hm']
  exact rkL_ne hi h1 hb (mk_born h2) (fun e => by subst e; rw [hi] at h1; cases h1; rw [hm] at h2; cases h2)

theorem set_same {s : Store} {id : Nat} {o : AObj} (h : s[id]? = some o) : s.set id o = s := by
  apply List.ext_getElem?
  intro i
  by_cases e : id = i
  · subst e; rw [List.getElem?_set_self (lt_of_getElem? h), h]
  · rw [List.getElem?_set_ne e]

theorem chk_app {id n : Nat} {s s' : Store} (h : (Eff.chk id n).app s = some s') : s' = s ∧ (s[id]? = some .unborn ∨ s[id]? = some (.tail n)) := by
  simp only [Eff.app, Eff.id] at h
  split at h
  · rename_i o ho
    simp only [Option.map_eq_some_iff, Eff.upd] at h
    obtain ⟨y, hy, rfl⟩ := h
    have hl := lt_of_getElem? ho
    cases o with
    | tail m t =>
      cases t with
      | none =>
        simp only at hy
        split at hy
        · rename_i e
          subst e
          cases hy
          exact ⟨set_same ho, .inr ho⟩
        · cases hy
      | some t => cases hy
    | unborn =>
      cases hy
      exact ⟨set_same ho, .inl ho⟩
    | _ => cases hy
  · cases h

theorem app_chk {id n : Nat} {s : Store} (h : s[id]? = some .unborn ∨ s[id]? = some (.tail n)) : (Eff.chk id n).app s = some s := by
  simp only [Eff.app, Eff.id]
  rcases h with h | h
  · rw [h]; simp only [Eff.upd, Option.map_some]; rw [set_same h]
  · rw [h]; simp only [Eff.upd, if_true, Option.map_some]; rw [set_same h]

theorem appS_app {e : Eff} {s s' : Store} (h : e.appS s = some s') : e.app s = some s' ∧ ∀ id n, (e = .chk id n ∨ e = .kill id n) → s[id]? = some (.tail n) := by
  cases e with
  | kill id n =>
    simp only [Eff.appS] at h
    split at h
    · rename_i m hm
      split at h
      · rename_i e
        subst e
        cases h
        refine ⟨?_, fun _ _ e => ?_⟩
        · simp only [Eff.app, Eff.id, hm, Eff.upd, if_true, Option.map_some]
        · rcases e with e | e <;> cases e
          exact hm
      · cases h
    · cases h
  | chk id n =>
    simp only [Eff.appS] at h
    split at h
    · rename_i m hm
      split at h
      · rename_i e
        subst e
        cases h
        exact ⟨app_chk (.inr hm), fun _ _ e => by rcases e with e | e <;> cases e; exact hm⟩
      · cases h
    · cases h
  | _ => exact ⟨h, fun _ _ e => by rcases e with e | e <;> cases e⟩

theorem upd_dead (e : Eff) : e.upd .dead = none := by cases e <;> rfl
theorem app_dead {e : Eff} {s s' : Store} {id : Nat} (h : e.app s = some s') (hi : e.id = some id) (hd : s[id]? = some .dead) : False := by
  simp only [Eff.app, hi, hd, upd_dead, Option.map_none, reduceCtorEq] at h
theorem app_tail {e : Eff} {s s' : Store} {id n : Nat} (h : e.app s = some s') (ht : s[id]? = some (.tail n)) : s'[id]? = some (.tail n) ∨ s'[id]? = some .dead ∧ ∃ i m, e = .kill i m := by
  unfold Eff.app at h
  cases hi : e.id with
  | none => rw [hi] at h; cases h; exact .inl ht
  | some i =>
    rw [hi] at h
    simp only at h
    split at h
    · rename_i o ho
      simp only [Option.map_eq_some_iff] at h
      obtain ⟨y, hy, rfl⟩ := h
      by_cases e' : i = id
      · subst e'
        rw [ht] at ho
        cases ho
        rw [List.getElem?_set_self (lt_of_getElem? ht)]
        cases e <;> simp only [Eff.upd, reduceCtorEq] at hy
        · split at hy
          · cases hy; exact .inl rfl
          · cases hy
        · split at hy
          · cases hy; exact .inr ⟨rfl, _, _, rfl⟩
          · cases hy
      · rw [List.getElem?_set_ne e']; exact .inl ht
    · cases h

inductive EffOf (n : Nat) (mr r : Nat) (k : AK) (e : Eff) : Prop where
  | none (h : e = .none)
  | born (o : AObj) (hb : k.born = true) (hm : k.mks = false) (ho : o ≠ .unborn) (h : e = .born (n + r) o)
  | mk (o : AObj) (hm : k.mks = true) (kd : Option IntKind) (hk : k = .plain (.mkmap kd)) (ho : o ≠ .unborn) (h : e = .born (n + r) o)
  | put (m : Nat) (a x : AX) (hk : k = .plain (.store m a x)) (id off : Nat) (cs : List AV) (hl : id < n) (h : e = .put id off m cs)
  | ins (kd : Option IntKind) (m q x : AX) (hk : k = .plain (.mapset kd m q x)) (c : Key) (hc : ∀ c', keyC kd q = some c' → c' = c) (v : AV) (h : e = .ins (n + mr) kd c v)
  | chk (id m : Nat) (x : AX) (hk : k = .plain (.cvB x)) (h : e = .chk id m)
  | kill (id m : Nat) (x : AX) (as : List AX) (hk : k = .callv x as) (h : e = .kill id m)

theorem effOf {st : Store} {mr r : Nat} {k : AK} {tm : Fr} {v : AV} {e : Eff} (h : qv P E st mr r k tm v e) : EffOf st.length mr r k e := by
  cases k with
  | plain i =>
    cases i <;> simp only [qv] at h
    case alloc z => exact .born _ rfl rfl (by intro h; cases h) h.2
    case mkmap kd => exact .mk _ rfl kd rfl (by intro h; cases h) h.2
    case bslice es len ag zero parts mu =>
      obtain ⟨l, _, _, _, _, h⟩ := h
      exact .born _ rfl rfl (by intro h; cases h) h
    case store n a x =>
      obtain ⟨id, off, _, h1, _, h⟩ := h
      exact .put n a x rfl id off _ (lt_of_getElem? h1) h
    case mapset kd m q x =>
      obtain ⟨c, _, h1, _, h⟩ := h
      refine .ins kd m q x rfl c (fun c' hc => ?_) _ h
      cases q with
      | t n => cases hc
      | c v => simp only [keyC] at hc; simp only [Fr.x] at h1; rw [hc] at h1; cases h1; rfl
    case cvB x =>
      obtain ⟨_, _, xs, id, _, _, _, h⟩ := h
      exact .chk id xs.length x rfl h
    all_goals exact .none h.2.2
  | call f as => exact .none h.2.2
  | callv f as =>
    obtain ⟨_, _, _, _, _, _, id, n, _, _, _, _, h⟩ := h
    exact .kill id n _ as rfl h

theorem yeffOf {st : Store} {mr r : Nat} {o : AOp} {tm : Fr} {v : AV} {e : Eff} (h : yv P E st mr r o tm v e) : EffOf st.length mr r o.ins e := by
  unfold yv at h
  split at h
  · exact effOf h
  · split at h
    · split at h
      · exact effOf h
      · exact .none h.2
    · exact .none h.2
    · exact h.elim

theorem effApart_bm {b : Bool} {k : AK} {kd : Option IntKind} {m q x : AX} (hb : k.born = true) (hm : k.mks = false) (h : effApart b k (.plain (.mapset kd m q x)) = true) : b = true := by
  cases k with
  | plain i =>
    cases i <;> first
      | (cases hb; done)
      | (cases hm; done)
      | (change (b || false) = true at h; simpa using h)
  | call f as => cases hb
  | callv f as => cases hb
theorem effApart_mb {b : Bool} {k : AK} {kd : Option IntKind} {m q x : AX} (hb : k.born = true) (hm : k.mks = false) (h : effApart b (.plain (.mapset kd m q x)) k = true) : b = true := by
  cases k with
  | plain i =>
    cases i <;> first
      | (cases hb; done)
      | (cases hm; done)
      | (change (b || false) = true at h; simpa using h)
  | call f as => cases hb
  | callv f as => cases hb
theorem eff_comm {al : List AOp} {n i j : Nat} {x y : AOp} {e1 e2 : Eff} {s s1 s2 : Store} (hi : al[i]? = some x) (hj : al[j]? = some y) (hij : i ≠ j) (hap : effApart (mapIx al).isSome x.ins y.ins = true)
    (h1 : EffOf n (mapRk al) (rkL al i) x.ins e1) (h2 : EffOf n (mapRk al) (rkL al j) y.ins e2) (a1 : e1.app s = some s1) (a2 : e2.app s1 = some s2) (hst : ∀ id n, (e1 = .chk id n ∨ e1 = .kill id n) → s[id]? = some (.tail n)) : ∃ s', e2.app s = some s' ∧ e1.app s' = some s2 := by
  have second : ∀ id m, e2 = .chk id m → (∀ q c, e1 ≠ .chk q c) → ∃ s', e2.app s = some s' ∧ e1.app s' = some s2 := by
    rintro id m rfl hne
    obtain ⟨rfl, hc⟩ := chk_app a2
    refine ⟨s, app_chk ?_, a1⟩
    by_cases hid : e1.id = some id
    · unfold Eff.app at a1
      rw [hid] at a1
      simp only at a1
      split at a1
      · rename_i o ho
        simp only [Option.map_eq_some_iff] at a1
        obtain ⟨y, hy, rfl⟩ := a1
        rw [List.getElem?_set_self (lt_of_getElem? ho)] at hc
        cases e1 with
        | none => cases hid
        | born i o' =>
          simp only [Eff.upd] at hy
          split at hy
          · exact .inl ho
          · cases hy; rcases hc with hc | hc <;> cases hc
          · cases hy
        | put i a b c =>
          simp only [Eff.upd] at hy
          split at hy
          · split at hy
            · cases hy; rcases hc with hc | hc <;> cases hc
            · cases hy
          · cases hy
        | ins i a b c =>
          simp only [Eff.upd] at hy
          split at hy
          · split at hy
            · cases hy; rcases hc with hc | hc <;> cases hc
            · cases hy
          · cases hy
        | chk i a => exact absurd rfl (hne i a)
        | kill i a =>
          exfalso
          have hs0 := hst i a (.inr rfl)
          cases hid
          rw [ho] at hs0
          cases hs0
          simp only [Eff.upd, if_true, Option.some.injEq] at hy
          subst hy
          rcases hc with hc | hc <;> cases hc
      · cases a1
    · have : s2[id]? = s[id]? := by
        unfold Eff.app at a1
        split at a1
        · cases a1; rfl
        · rename_i i hi
          split at a1
          · simp only [Option.map_eq_some_iff] at a1
            obtain ⟨y, hy, rfl⟩ := a1
            rw [List.getElem?_set_ne (fun e => hid (by rw [hi, e]))]
          · cases a1
      rwa [this] at hc
  have secondK : ∀ id m, e2 = .kill id m → (∀ q c, e1 ≠ .chk q c) → (∀ q c, e1 ≠ .kill q c) → (∀ q, e1 ≠ .born q .unborn) → ∃ s', e2.app s = some s' ∧ e1.app s' = some s2 := by
    rintro id m rfl hne hne2 hnu
    by_cases hid : e1.id = some id
    · have a1' := a1
      have a2' := a2
      unfold Eff.app at a1
      rw [hid] at a1
      simp only at a1
      split at a1
      · rename_i o ho
        simp only [Option.map_eq_some_iff] at a1
        obtain ⟨y, hy, rfl⟩ := a1
        have hl := lt_of_getElem? ho
        simp only [Eff.app, Eff.id, List.getElem?_set_self hl, Option.map_eq_some_iff] at a2
        obtain ⟨z, hz, rfl⟩ := a2
        cases e1 with
        | none => cases hid
        | born i o' =>
          cases hid
          cases o <;> simp only [Eff.upd, reduceCtorEq, Option.some.injEq] at hy
          · subst hy
            have hz2 : z = .dead := by
              cases o' <;> simp only [Eff.upd, reduceCtorEq] at hz
              · rename_i q t
                cases t <;> simp only [reduceCtorEq] at hz
                split at hz
                · cases hz; rfl
                · cases hz
              · exact absurd rfl (hnu id)
            subst hz2
            refine ⟨s.set id .lost, by simp [Eff.app, Eff.id, ho, Eff.upd], ?_⟩
            simp [Eff.app, Eff.id, List.getElem?_set_self hl, Eff.upd]
          · subst hy
            simp [Eff.upd] at hz
        | put i a b c =>
          simp only [Eff.upd] at hy
          split at hy
          · split at hy
            · cases hy; simp [Eff.upd] at hz
            · cases hy
          · cases hy
        | ins i a b c =>
          simp only [Eff.upd] at hy
          split at hy
          · split at hy
            · cases hy; simp [Eff.upd] at hz
            · cases hy
          · cases hy
        | chk i a => exact absurd rfl (hne i a)
        | kill i a => exact absurd rfl (hne2 i a)
      · cases a1
    · exact app_comm_ne (fun i hi h => hid (by rw [hi]; cases h; rfl)) a1 a2
  have byids : (∀ i, e1.id = some i → e2.id ≠ some i) → ∃ s', e2.app s = some s' ∧ e1.app s' = some s2 := fun h => app_comm_ne h a1 a2
  cases h1 with
  | none h => subst h; exact byids fun i h => by cases h
  | chk id m x' hk h =>
    subst h
    have ht := hst id m (.inl rfl)
    obtain ⟨rfl, _⟩ := chk_app a1
    rcases app_tail a2 ht with h | ⟨_, i', m', h⟩
    · exact ⟨s2, a2, app_chk (.inr h)⟩
    · exfalso
      cases h2 with
      | kill _ _ x2 as hk2 _ => rw [hk, hk2] at hap; simp [effApart] at hap
      | none h' => rw [h] at h'; cases h'
      | chk _ _ _ _ h' => rw [h] at h'; cases h'
      | born _ _ _ _ h' => rw [h] at h'; cases h'
      | mk _ _ _ _ _ h' => rw [h] at h'; cases h'
      | put _ _ _ _ _ _ _ _ h' => rw [h] at h'; cases h'
      | ins _ _ _ _ _ _ _ _ h' => rw [h] at h'; cases h'
  | kill id m x' as hk h =>
    subst h
    have ht := hst id m (.inr rfl)
    refine byids fun i hi h => ?_
    cases hi
    refine app_dead a2 h ?_
    simp only [Eff.app, Eff.id, ht, Eff.upd, if_true, Option.map_some, Option.some.injEq] at a1
    rw [← a1, List.getElem?_set_self (lt_of_getElem? ht)]
  | born o hb hm ho h =>
    subst h
    by_cases hch : ∃ id m, e2 = .chk id m
    · obtain ⟨id, m, hch⟩ := hch; exact second id m hch (fun _ _ => nofun)
    by_cases hck : ∃ id m, e2 = .kill id m
    · obtain ⟨id, m, hck⟩ := hck; exact secondK id m hck (fun _ _ => nofun) (fun _ _ => nofun) (fun _ e => by cases e <;> first | exact ho rfl | skip)
    refine byids fun q hq => ?_
    cases hq
    cases h2 with
    | none h => subst h; intro h; cases h
    | chk id m x2 hk2 h => exact absurd ⟨id, m, h⟩ hch
    | kill id m x2 as2 hk2 h => exact absurd ⟨id, m, h⟩ hck
    | born o' hb' hm' ho' h => subst h; intro h; have := rkL_ne hi hj hb hb' hij; simp only [Eff.id, Option.some.injEq] at h; omega
    | mk o' hm' kd hk ho' h => subst h; intro h; have := rkL_ne hi hj hb (mk_born hm') hij; simp only [Eff.id, Option.some.injEq] at h; omega
    | put m a x hk id off cs hl h => subst h; intro h; simp only [Eff.id, Option.some.injEq] at h; omega
    | ins kd m q x' hk c hc v h =>
      subst h; intro h
      have hs : (mapIx al).isSome = true := by
        rw [hk] at hap
        exact effApart_bm hb hm hap
      have := mapRk_ne hi hb hm hs
      simp only [Eff.id, Option.some.injEq] at h; omega
  | mk o hm kd hk ho h =>
    subst h
    by_cases hch : ∃ id m, e2 = .chk id m
    · obtain ⟨id, m, hch⟩ := hch; exact second id m hch (fun _ _ => nofun)
    by_cases hck : ∃ id m, e2 = .kill id m
    · obtain ⟨id, m, hck⟩ := hck; exact secondK id m hck (fun _ _ => nofun) (fun _ _ => nofun) (fun _ e => by cases e <;> first | exact ho rfl | skip)
    refine byids fun q hq => ?_
    cases hq
    cases h2 with
    | none h => subst h; intro h; cases h
    | chk id m x2 hk2 h => exact absurd ⟨id, m, h⟩ hch
    | kill id m x2 as2 hk2 h => exact absurd ⟨id, m, h⟩ hck
    | born o' hb' hm' ho' h => subst h; intro h; have := rkL_ne hi hj (mk_born hm) hb' hij; simp only [Eff.id, Option.some.injEq] at h; omega
    | mk o' hm' kd hk ho' h => subst h; intro h; have := rkL_ne hi hj (mk_born hm) (mk_born hm') hij; simp only [Eff.id, Option.some.injEq] at h; omega
    | put m a x hk id off cs hl h => subst h; intro h; simp only [Eff.id, Option.some.injEq] at h; omega
    | ins kd m q x' hk' c hc v h => rw [hk, hk'] at hap; simp [effApart] at hap
  | put m a x' hk id off cs hl h =>
    subst h
    by_cases hch : ∃ id m, e2 = .chk id m
    · obtain ⟨id, m, hch⟩ := hch; exact second id m hch (fun _ _ => nofun)
    by_cases hck : ∃ id m, e2 = .kill id m
    · obtain ⟨id, m, hck⟩ := hck; exact secondK id m hck (fun _ _ => nofun) (fun _ _ => nofun) (fun _ e => by cases e <;> first | exact ho rfl | skip)
    refine byids fun q hq => ?_
    cases hq
    cases h2 with
    | none h => subst h; intro h; cases h
    | chk id m x2 hk2 h => exact absurd ⟨id, m, h⟩ hch
    | kill id m x2 as2 hk2 h => exact absurd ⟨id, m, h⟩ hck
    | born o' hb' hm' ho' h => subst h; intro h; simp only [Eff.id, Option.some.injEq] at h; omega
    | mk o' hm' kd hk ho' h => subst h; intro h; simp only [Eff.id, Option.some.injEq] at h; omega
    | put m a x hk' id off cs hl h => rw [hk, hk'] at hap; simp [effApart] at hap
    | ins kd m q x' hk' c hc v h => subst h; intro h; simp only [Eff.id, Option.some.injEq] at h; omega
  | ins kd m q x' hk c hc v h =>
    subst h
    by_cases hch : ∃ id m, e2 = .chk id m
    · obtain ⟨id, m, hch⟩ := hch; exact second id m hch (fun _ _ => nofun)
    by_cases hck : ∃ id m, e2 = .kill id m
    · obtain ⟨id, m, hck⟩ := hck; exact secondK id m hck (fun _ _ => nofun) (fun _ _ => nofun) (fun _ e => by cases e)
    cases h2 with
    | chk id m x2 hk2 h => exact absurd ⟨id, m, h⟩ hch
    | kill id m x2 as2 hk2 h => exact absurd ⟨id, m, h⟩ hck
    | none h => subst h; exact byids fun i h h' => by cases h'
    | born o' hb' hm' ho' h =>
      subst h
      refine byids fun i' hq h => ?_
      cases hq
      have hs : (mapIx al).isSome = true := by
        rw [hk] at hap
        exact effApart_mb hb' hm' hap
      have := mapRk_ne hj hb' hm' hs
      simp only [Eff.id, Option.some.injEq] at h; omega
    | mk o' hm' kd hk' ho' h => rw [hk, hk'] at hap; simp [effApart] at hap
    | put m a x hk' id off cs hl h => subst h; refine byids fun i' hq h => ?_; cases hq; simp only [Eff.id, Option.some.injEq] at h; omega
    | ins kd' m' q' x'' hk' c' hc' v' h =>
      subst h
      rw [hk, hk'] at hap
      simp only [effApart] at hap
      split at hap
      · rename_i c1 c2 hk1 hk2
        have e1 := hc _ hk1
        have e2 := hc' _ hk2
        subst e1; subst e2
        exact app_comm_ins (of_decide_eq_true hap) a1 a2
      · cases hap

theorem anyQ_first {st : Store} {al : List AOp} {nq : Nat} {K : Fr → Store → Prop} {i : Nat} {oi : AOp} {v : AV} {ei : Eff} (hi : al[i]? = some oi) (hin : i < nq) (hloud : ∀ j, j < ops.size → nq ≤ j → ancB ops j j i = true) :
    ∀ (f : Nat) (L : Array Bool) (tm : Fr) (s s1 : Store), Closed ops L → (∀ (j : Nat) oj, al[j]? = some oj → j < nq → j ≠ i → L.getD j true = false → (∀ o, ops[j]? = some o → ∀ e ∈ o.after, Region.binds .any e = true → e.on ≠ i) → oi.apart oj = true ∧ effApart (mapIx al).isSome oi.ins oj.ins = true) →
      i ∈ Region.ready .any ops L → yv P E st (mapRk al) (rkL al i) oi tm v ei → ei.app s = some s1 → (∀ id n, (ei = .chk id n ∨ ei = .kill id n) → s[id]? = some (.tail n)) → anyQ P E ops st al nq K f (L.setIfInBounds i true) (tm.put oi.dst v) s1 → (∀ j, j < nq → ∃ o, al[j]? = some o) → anyQ P E ops st al nq K (f + 1) L tm s := by
  intro f
  have small : ∀ (L : Array Bool), Closed ops L → i ∈ Region.ready .any ops L → ∀ j ∈ Region.ready .any ops L, j < nq := by
    intro L hc hr j hj
    rcases Nat.lt_or_ge j nq with h' | h'
    · exact h'
    · obtain ⟨_, o, ho, hall⟩ := mem_ready.1 hj
      have hlt := (Array.getElem?_eq_some_iff.1 ho).1
      have h1 := hc.anc j j i (hloud j hlt h') fun o' ho' e he hb => by rw [ho] at ho'; cases ho'; exact hall e he hb
      have h0 := (mem_ready.1 hr).1
      rcases Nat.lt_or_ge i L.size with hl | hl
      · simp [hl] at h0 h1; rw [h0] at h1; cases h1
      · simp [Array.getElem?_eq_none hl] at h1
  have noedge : ∀ (L : Array Bool) (j : Nat), i ∈ Region.ready .any ops L → j ∈ Region.ready .any ops L → ∀ o, ops[j]? = some o → ∀ e ∈ o.after, Region.binds .any e = true → e.on ≠ i := by
    intro L j hr hj o ho e he hb heq
    obtain ⟨_, o', ho', hall⟩ := mem_ready.1 hj
    rw [ho] at ho'; cases ho'
    have h1 := hall e he hb
    have h0 := (mem_ready.1 hr).1
    rw [heq] at h1
    rcases Nat.lt_or_ge i L.size with hl | hl
    · simp [hl] at h0 h1; rw [h0] at h1; cases h1
    · simp [Array.getElem?_eq_none hl] at h1
  induction f with
  | zero =>
    intro L tm s s1 hc hfree hr hy ha hst H hal
    refine ⟨fun h => (by rw [h] at hr; cases hr), fun j hj => ?_⟩
    by_cases hji : j = i
    · subst hji; exact ⟨hin, oi, hi, v, ei, s1, hy, ha, H⟩
    · exfalso
      have hjn := small L hc hr j hj
      have hj0 := (mem_ready.1 hj).1
      have hL := H.1
      have key : ∀ (n k j : Nat), j < k → (listedN n k).getD j true = true := by
        intro n k
        induction k with
        | zero => intro j h; omega
        | succ k ih =>
          intro j h
          simp only [listedN]
          by_cases e : k = j
          · subst e
            rcases Nat.lt_or_ge k (listedN n k).size with hl | hl
            · simp [hl]
            · simp [Array.getElem?_eq_none hl]
          · rw [getD_set_ne true e]; exact ih j (by omega)
      have h1 := key ops.size nq j hjn
      rw [← hL, getD_set_ne true (Ne.symm hji), hj0] at h1
      cases h1
  | succ f ih =>
    intro L tm s s1 hc hfree hr hy ha hst H hal
    refine ⟨fun h => (by rw [h] at hr; cases hr), fun j hj => ?_⟩
    by_cases hji : j = i
    · subst hji; exact ⟨hin, oi, hi, v, ei, s1, hy, ha, H⟩
    · have hjn := small L hc hr j hj
      obtain ⟨oj, hoj⟩ := hal j hjn
      obtain ⟨_, oj', hoj', u, ej, s2, hu, haj, hn⟩ := H.2 j (ready_mono hj hji)
      rw [hoj] at hoj'; cases hoj'
      obtain ⟨hap, heap⟩ := hfree j oj hoj hjn hji (mem_ready.1 hj).1 (noedge L j hr hj)
      obtain ⟨h1, h2, h3⟩ := apart_spec hap
      have hu' := (yv_put (P := P) (E := E) h1).1 hu
      obtain ⟨s1', ha1, ha2⟩ := eff_comm hi hoj (Ne.symm hji) heap (yeffOf hy) (yeffOf hu') ha haj hst
      refine ⟨hjn, oj, hoj, u, ej, s1', hu', ha1, ih (L.setIfInBounds j true) (tm.put oj.dst u) s1' s2 (hc.set hj) ?_ (ready_mono hr (Ne.symm hji)) ((yv_put h3).2 hy) ha2 (fun id n e => (app_tail ha1 (hst id n e)).resolve_right fun hd => app_dead ha2 (by rcases e with e | e <;> subst e <;> rfl) hd.1) ?_ hal⟩
      · intro k ok hk hkn hki hun hno
        refine hfree k ok hk hkn hki ?_ hno
        by_cases hjk : j = k
        · subst hjk; exact (mem_ready.1 hj).1
        · rw [getD_set_ne true hjk] at hun; exact hun
      · rw [Array.setIfInBounds_comm _ _ hji, ← put_comm tm v u h2]
        exact hn

theorem listedN_lt (n : Nat) : ∀ (k j : Nat), j < k → (listedN n k).getD j true = true
  | 0, j, h => by omega
  | k + 1, j, h => by
    simp only [listedN]
    by_cases e : k = j
    · subst e
      rcases Nat.lt_or_ge k (listedN n k).size with hl | hl
      · simp [hl]
      · simp [Array.getElem?_eq_none hl]
    · rw [getD_set_ne true e]; exact listedN_lt n k j (by omega)

theorem rkL_step (al : List AOp) : ∀ (k : Nat) o, al[k]? = some o → rkL al (k + 1) = rkL al k + bornN o := by
  induction al with
  | nil => intro k o h; simp at h
  | cons x l ih =>
    intro k o h
    cases k with
    | zero => simp at h; subst h; cases l <;> simp [rkL]
    | succ k =>
      have := ih k o (by simpa using h)
      simp only [rkL] at this ⊢
      omega

theorem anyQ_lex {st : Store} {al : List AOp} {nq : Nat} {K : Fr → Store → Prop} (hd : drawOk ops al nq = true) : ∀ (l : List AOp) (k : Nat) (tm : Fr) (s : Store), (∀ j, l[j]? = if k + j < nq then al[k + j]? else none) → k + l.length = nq → Closed ops (listedN ops.size k) →
    lexQ P E st (mapRk al) l (rkL al k) K tm s → anyQ P E ops st al nq K l.length (listedN ops.size k) tm s
  | [], k, tm, s, _, hk, _, h => by
    simp at hk; subst hk
    exact ⟨rfl, by simpa only [lexQ] using h⟩
  | o :: l, k, tm, s, hl, hk, hc, h => by
    simp only [List.length_cons] at hk
    have hkn : k < nq := by omega
    have ho : al[k]? = some o := by have := hl 0; simp [hkn] at this; exact this.symm
    simp only [lexQ] at h
    obtain ⟨v, e, s', hy, haS, h⟩ := h
    obtain ⟨ha, hst⟩ := appS_app haS
    simp only [drawOk, Bool.and_eq_true, decide_eq_true_eq, List.all_eq_true, List.mem_range] at hd
    obtain ⟨⟨⟨⟨⟨d1, d2⟩, d3⟩, d4⟩, d5⟩, d6⟩ := hd
    have dk := d3 k hkn
    simp only [lexOk, Bool.and_eq_true, List.all_eq_true, List.mem_range] at dk
    obtain ⟨dk1, dk2⟩ := dk
    have hr : k ∈ Region.ready .any ops (listedN ops.size k) := by simpa using dk1
    refine anyQ_first ho hkn (fun j hj hjn => ?_) l.length _ tm s s' hc (fun j oj hj hjn hjk hun hno => ?_) hr hy ha hst ?_ (fun j hj => ?_)
    · have := d4 j hj
      simp only [Bool.or_eq_true, decide_eq_true_eq, List.all_eq_true, List.mem_range] at this
      rcases this with h' | h'
      · omega
      · exact h' k hkn
    · have := dk2 j hjn
      simp only [Bool.or_eq_true, decide_eq_true_eq] at this
      rcases this with (h' | h') | h'
      · have hlt : j < k := by omega
        rw [listedN_lt _ _ _ hlt] at hun; cases hun
      · split at h'
        · rename_i oo hoo
          obtain ⟨e, he, hb⟩ := Array.any_eq_true'.1 h'
          simp only [Bool.and_eq_true, beq_iff_eq] at hb
          exact absurd hb.2 (hno oo hoo e he hb.1)
        · cases h'
      · rw [ho, hj] at h'
        simpa using h'
    · have := anyQ_lex (K := K) (st := st) (by
        simp only [drawOk, Bool.and_eq_true, decide_eq_true_eq, List.all_eq_true, List.mem_range]
        exact ⟨⟨⟨⟨⟨d1, d2⟩, d3⟩, d4⟩, d5⟩, d6⟩) l (k + 1) (tm.put o.dst v) s' (fun j => by
          have := hl (j + 1)
          simp only [List.getElem?_cons_succ] at this
          rw [this, show k + (j + 1) = k + 1 + j by omega]) (by omega) (hc.set hr) (by rw [rkL_step al k o ho]; exact h)
      exact this
    · have : j < al.length := by omega
      exact ⟨al[j], by simp [this]⟩
end
end Go.Proofs.YtcidnoghoifmmaaDoor.AW
