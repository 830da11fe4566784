/-
  Sets of bytes: the two ways of and, or, not, both cases and printing agree.
-/
import Derived.Test.YtfjdegohjnejkaaSetP8
namespace Go.Proofs.Ytfjdegohjnejkaa
open Go AW
set_option linter.unusedVariables false

theorem pureSetsTurned (a0 : Arr 4 Int) (a1 : Arr 4 Int) (w0 : ∀ y ∈ a0.l, (Lit.int .u64 y).wf = true) (w1 : ∀ y ∈ a1.l, (Lit.int .u64 y).wf = true) : F7 a0 a1 = some true := by
  obtain ⟨f, rfl⟩ := sa_of a0 w0
  obtain ⟨g, rfl⟩ := sa_of a1 w1
  unfold F7
  rw [f11_eq, bs, if_pos rfl, f25_eq, bs, f26_eq, bs, if_pos (decide_eq_true rfl), f27_eq, bs, f28_eq, bs, if_pos (decide_eq_true rfl), f29_eq, bs, f30_eq, bs, if_pos (decide_eq_true rfl), f31_eq, bs, f32_eq, bs, if_pos (decide_eq_true rfl), f24_eq, bs, f33_eq, bs, beq_self_eq_true]
end Go.Proofs.Ytfjdegohjnejkaa
