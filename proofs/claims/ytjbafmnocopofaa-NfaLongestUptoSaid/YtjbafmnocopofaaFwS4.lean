/-
  Short words for printed code and printed walks; arrays that are spelled out.
-/
import Derived.Test.YtjbafmnocopofaaFwS3
set_option linter.unusedVariables false
namespace Go.Proofs.Ytjbafmnocopofaa.AW
open Go
instance (n : Nat) : OfNat AX n := ⟨.t n⟩
abbrev q (d : Nat) (i : AI) : AOp := ⟨.some d, .none, .plain i⟩
abbrev q0 (i : AI) : AOp := ⟨.none, .none, .plain i⟩
abbrev qc (d : Nat) (f : Nat) (l : List AX) : AOp := ⟨.some d, .none, .call f l⟩
abbrev qc0 (f : Nat) (l : List AX) : AOp := ⟨.none, .none, .call f l⟩
abbrev qf (d : Nat) (f : AX) (l : List AX) : AOp := ⟨.some d, .none, .callv f l⟩
abbrev qf0 (f : AX) (l : List AX) : AOp := ⟨.none, .none, .callv f l⟩
/-- If it is so. -/
abbrev AOp.y (o : AOp) (g : Nat) : AOp := ⟨o.dst, .some (g, true), o.ins⟩
abbrev AOp.n (o : AOp) (g : Nat) : AOp := ⟨o.dst, .some (g, false), o.ins⟩
abbrev ki (n : Int) : AX := .c (.int .i64 n)
abbrev ku (n : Int) : AX := .c (.int .u8 n)
abbrev ACode.s (a b : ACode) : ACode := .seq a b
abbrev zI (k : IntKind) (n : Int) : AV := .int k n

theorem ci {X : Cx} {k : List KJ} {tm : Fr} {st : Store} {z : AX} {x y : ACode} {t : Bool} {α : Type} {A B : Option α} {r : α} (hF : (if t = true then A else B) = some r) (hz : tm.x z = .bool t) (h1 : t = true → A = some r → W X (.code x :: k) tm st) (h2 : t = false → B = some r → W X (.code y :: k) tm st) : W X (.code (.cond z x y) :: k) tm st :=
  cd hz (fun c => h1 c (ite_t c hF)) (fun c => h2 c (ite_f c hF))
theorem bi {b : Bool} {p : Prop} {α : Type} {A B : Option α} {r : α} (hF : (if b = true then A else B) = some r) (h1 : b = true → A = some r → p) (h2 : b = false → B = some r → p) : p :=
  bsplit (fun c => h1 c (ite_t c hF)) (fun c => h2 c (ite_f c hF))

theorem let_some {α β : Type} {x : α} {f : α → Option β} {r : β} (h : (some x >>= f) = some r) : ∃ v, x = v ∧ f v = some r := ⟨x, rfl, h⟩
theorem updL_fix {tm : Fr} {fr : List (Nat × AV)} (g : Nat) {v w : AV} (hg : updL tm fr g = v) (hw : v = w) : updL tm ((g, w) :: fr) = updL tm fr := by
  subst hw
  funext i
  show upd (updL tm fr) g v i = updL tm fr i
  unfold upd
  cases e : Nat.beq g i with
  | false => rfl
  | true => rw [← Nat.eq_of_beq_eq_true e]; exact hg.symm
theorem wfx {X : Cx} {k : List KJ} {tm : Fr} {fr : List (Nat × AV)} {st : Store} (g : Nat) {b t : Bool} (hg : updL tm fr g = .bool b) (hb : b = t) (hk : W X k (updL tm ((g, .bool t) :: fr)) st) : W X k (updL tm fr) st := by
  rw [updL_fix g hg (by rw [hb])] at hk; exact hk
theorem dfx {X : Cx} {k : List KJ} {tm : Fr} {fr : List (Nat × AV)} {st st0 : Store} {mr r : Nat} {l suf : List AOp} (g : Nat) {b t : Bool} (hg : updL tm fr g = .bool b) (hb : b = t) (hk : WD X st0 mr l r suf k (updL tm ((g, .bool t) :: fr)) st) : WD X st0 mr l r suf k (updL tm fr) st := by
  rw [updL_fix g hg (by rw [hb])] at hk; exact hk

/-- The cells of a row of elements, each looked up. -/
def cF {α : Type} (c : α → List AV) (z : α) (l : List α) : Nat → Nat → List AV
  | 0, _ => []
  | n + 1, i => c (l.getD i z) ++ cF c z l n (i + 1)
theorem cF_flat {α : Type} (c : α → List AV) (z : α) (l : List α) : ∀ n i : Nat, l.length = i + n → cF c z l n i = (l.drop i).flatMap c
  | 0, i, h => by simp [cF, List.drop_of_length_le (show l.length ≤ i by omega)]
  | n + 1, i, h => by
    have hi : i < l.length := by omega
    rw [cF, cF_flat c z l n (i + 1) (by omega), List.drop_eq_getElem_cons hi, List.flatMap_cons]
    simp [List.getD, hi]
theorem cF_A {n : Nat} {α : Type} (c : α → List AV) (z : α) (a : Arr n α) : cF c z a.l n 0 = cA c a := by rw [cF_flat c z a.l n 0 (by rw [a.h]; omega)]; rfl
instance {α : Type} (c : α → List AV) (z : α) (l : List α) (n i : Nat) [h : ∀ x, DtL (c x)] : DtL (cF c z l n i) := by
  induction n generalizing i with
  | zero => exact ⟨dsl_nil⟩
  | succ n ih => exact ⟨dsl_app (h _).h (ih _).h⟩
theorem lrF_get {n : Nat} {α : Type} {c : α → List AV} {z : α} {es : Nat} (hc : ∀ x, (c x).length = es) {a : Arr n α} {i : Int} {x : α} (h : ix a.l i = some x) : LR (cF c z a.l n 0) (i.toNat * es) (c x) (c x) (cF c z a.l n 0) := by
  rw [cF_A]; exact lr_get hc h
theorem lrF_set {n : Nat} {α : Type} {c : α → List AV} {z : α} {es : Nat} (hc : ∀ x, (c x).length = es) {a : Arr n α} {i : Int} {x : α} (h : ix a.l i = some x) (y : α) : LR (cF c z a.l n 0) (i.toNat * es) (c x) (c y) (cF c z (aset a i y).l n 0) := by
  rw [cF_A, cF_A]; exact lr_set hc h y
theorem eqC_F {n : Nat} {α : Type} [DecidableEq α] {ks ks' : List LK} {c : α → List AV} {z : α} (hc : EqC ks c) (e : ks' = repK ks n) : EqC ks' (fun a : Arr n α => cF c z a.l n 0) := fun x y => by
  simp only [cF_A]; exact eqC_A hc e x y
def cSl {α : Type} (es : Nat) (f : α → AV) (o : Sl α) : List AV := [slV es f o]
theorem slV_cells {α : Type} {es : Nat} {f : α → AV} {o : Sl α} : (slV es f o).cells = cSl es f o := by cases o <;> rfl
theorem cSl_len {α : Type} {es : Nat} {f : α → AV} (o : Sl α) : (cSl es f o).length = 1 := rfl
theorem cSl_one {α : Type} {es : Nat} {f : α → AV} (o : Sl α) : (cSl es f o).all AV.one = true := by cases o <;> rfl
instance {α : Type} (es : Nat) (f : α → AV) (o : Sl α) [h : DtF f] : DtL (cSl es f o) := ⟨dsl_cons (ds_sl h.h) dsl_nil⟩
/-- A slot's value as plain data: its token is given up. -/
theorem weak_put {tm : Fr} {fr : List (Nat × AV)} (t : Nat) {p : AV} (h : DS (updL tm fr t) p) : Weak (updL tm fr) (updL tm ((t, p) :: fr)) := fun G a hf s => by
  by_cases e : s = t
  · subst e
    have h2 := strip_rep (G := G) (G' := G) (fun _ _ _ h => h) h.1 (hf s)
    rw [h.2] at h2
    have e2 : updL tm ((s, p) :: fr) s = p := by simp [updL, upd]
    rw [e2]; exact h2
  · have h3 : Nat.beq t s = false := by
      cases h4 : Nat.beq t s with
      | false => rfl
      | true => exact absurd (Nat.eq_of_beq_eq_true h4).symm e
    have e2 : updL tm ((t, p) :: fr) s = updL tm fr s := by simp [updL, upd, h3]
    rw [e2]; exact hf s
/-! ### What is known of an argument's numbers, and its bulk -/
def okI (k : IntKind) (n : Int) : Prop := (Lit.int k n).wf = true
def okT {α : Type} (_ : α) : Prop := True
def bk1 {α : Type} (_ : α) : Nat := 1
def bkS (s : Str) : Nat := s.length + 1
def bkSl {α : Type} (bk : α → Nat) (o : Sl α) : Nat := ((ls o).map bk).sum + 1
end Go.Proofs.Ytjbafmnocopofaa.AW
