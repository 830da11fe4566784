/-
  The rules of a function's walk: what stays where objects are made and written.
-/
import Derived.Test.YtcidnoghoifmmaaDoorProg
import Derived.Test.YtcidnoghoifmmaaDoorFwT2
import Derived.KernelRfl
set_option linter.unusedSimpArgs false
set_option linter.unusedVariables false
namespace Go.Proofs.YtcidnoghoifmmaaDoor.AW
open Go

def noG : Glob := fun _ => none

section
variable {tm : Fr}
theorem pk_nil {total : Nat} : partsOk total [] tm = some [] := rfl
theorem pk_cons {total off size : Nat} {x : AX} {v : AV} {cs : List AV} {rest : List (Nat × Nat × AX)} {l : List (Nat × List AV)} (hx : tm.x x = v) (hc : v.cells = cs) (hl : cs.length = size) (ho : off + size ≤ total) (h : partsOk total rest tm = some l) : partsOk total ((off, size, x) :: rest) tm = some ((off, cs) :: l) := by
  subst hx
  subst hc
  simp only [partsOk, h]
  rw [if_pos ⟨hl, ho⟩]
  rfl
theorem fl_nil (cs : List AV) : fillA cs [] = cs := rfl
theorem fl_cons {cs s s' cs' out : List AV} {off : Nat} {rest : List (Nat × List AV)} (hl : LR cs off s s' cs') (hn : s.length = s'.length) (h : fillA cs' rest = out) : fillA cs ((off, s') :: rest) = out := by
  simp only [fillA]
  rw [hl.put hn]
  exact h
end


def isK (K : AV → Store → Prop) (v : AV) (st : Store) : Prop := v.data = true ∧ K v.strip st
theorem isk {K : AV → Store → Prop} {st : Store} {v v' : AV} (h : DS v v') (hk : K v' st) : v.data = true ∧ K v.strip st := ⟨h.1, by rw [h.2]; exact hk⟩
theorem xcallO_at {P : Program} {E : Glob} {mu : Nat → Bool} {f : FuncId} {fn : AFunc} {ds : List AV} {st : Store} {K : AV → Store → Prop} (hf : compF P mu f = some fn) (hl : ds.length ≤ fn.n)
    (h : At ⟨P, E, fn.n, mu, fn.res, isK K, endQ E fn.res (isK K)⟩ fn.body [] (frInit ds) st) : XCall P E f ds st K := xcall_strip (xcall_at hf hl h)

def ArgL (l l' : List AV) : Prop := ∀ (G : Gh) (us : List Value), RepL G l us → RepL G l' us
theorem xcall_arg {P : Program} {E : Glob} {f : FuncId} {ds ds' : List AV} {st : Store} {K : AV → Store → Prop} (ha : ArgL ds ds') (h : XCall P E f ds' st K) : XCall P E f ds st K := fun G w vs hr hs => h G w vs (ha G vs hr) hs

section
variable {X : Cx} {k : List KI} {tm : Fr} {st : Store} {l : List AOp} {d : Nat}
end


structure Mp (κ α : Type) where
  get : κ → Option α
  n : Nat
def Mp.empty {κ α : Type} : Mp κ α := ⟨fun _ => none, 0⟩
def Mp.put {κ α : Type} [DecidableEq κ] (m : Mp κ α) (k : κ) (v : α) : Mp κ α := ⟨fun x => if x = k then some v else m.get x, if (m.get k).isNone then m.n + 1 else m.n⟩
def mS {α : Type} (f : α → AV) (m : Mp Str α) : Key → Option AV
  | .s l => (m.get l).map f
  | .i _ => none
theorem mS_empty {α : Type} (f : α → AV) : mS f Mp.empty = fun _ => none := by funext c; cases c <;> rfl
theorem mS_put {α : Type} (f : α → AV) (m : Mp Str α) (k : Str) (v : α) : updK (mS f m) (.s k) (f v) = mS f (m.put k v) := by
  funext c
  cases c with
  | s l =>
    by_cases h : l = k
    · subst h; simp [updK, mS, Mp.put]
    · simp [updK, mS, Mp.put, h]
  | i n => simp [updK, mS]
section
variable {X : Cx} {k : List KI} {tm : Fr} {st : Store} {l suf : List AOp} {d : Nat} {st0 : Store} {mr r : Nat} {m q x : AX} {α : Type} {f : α → AV} {id : Nat}

theorem e_lookupS1 {E : Glob} {key : Str} {z : α} {zero : AV} {M : Mp Str α} {n : Nat} (hm : tm.x m = .mp id) (ho : st[id]? = some (.map none (mS f M) n)) (hq : tm.x q = .str key) (hz : zero = f z) :
    evalAI E tm st (.lookup none zero false m q) = some (f ((M.get key).getD z), st) := by
  subst hz
  simp only [evalAI, hm, hq, keyOf, mapOf, ho, if_true, mS]
  cases M.get key <;> simp [lookA]
end
end Go.Proofs.YtcidnoghoifmmaaDoor.AW
