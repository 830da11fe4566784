/-
  Sets of bytes: the two ways of making sets, of listing them and of asking them agree.
-/
import Derived.Test.YtfjdegohjnejkaaSetP9
namespace Go.Proofs.Ytfjdegohjnejkaa
open Go AW
set_option linter.unusedVariables false

theorem u8_list : ∀ (l : List Int), (∀ y ∈ l, (Lit.int .u8 y).wf = true) → ∃ ns : List Nat, l = zl ns ∧ ∀ n ∈ ns, n < 256
  | [], _ => ⟨[], rfl, by simp⟩
  | y :: l, h => by
    obtain ⟨n, rfl, hn⟩ := u8_nat (h y (by simp))
    obtain ⟨ns, rfl, hns⟩ := u8_list l fun z hz => h z (by simp [hz])
    exact ⟨n :: ns, rfl, by simpa using ⟨hn, hns⟩⟩

theorem pureSetsMade (a0 : Sl Int) (a1 : Arr 4 Int) (a2 : Int) (a3 : Int) (a4 : Str) (w0 : ∀ y ∈ ls a0, (Lit.int .u8 y).wf = true) (y0 : (ls a0).length * Try.prog.bytesOf 5 ≤ 140737488351232) (w1 : ∀ y ∈ a1.l, (Lit.int .u64 y).wf = true) (w2 : (Lit.int .u8 a2).wf = true) (w3 : (Lit.int .u8 a3).wf = true) (w4 : a4.length ≤ 140737488351232) : F3 a0 a1 a2 a3 a4 = some true := by
  obtain ⟨f, rfl⟩ := sa_of a1 w1
  obtain ⟨a, rfl, ha⟩ := u8_nat w2
  obtain ⟨b, rfl, hb⟩ := u8_nat w3
  obtain ⟨ns, hns, hn⟩ := u8_list _ w0
  have by1 : Try.prog.bytesOf 5 = 1 := by kernel_rfl
  rw [by1, Nat.mul_one, hns, zl_len] at y0
  obtain ⟨c, c1, c2⟩ := class_eq a4
  obtain ⟨o1, h1, k1⟩ := f15_eq f
  obtain ⟨o2, h2, k2⟩ := f16_eq f
  have hl := bl_len f 256
  have h14 : F14 o1 o2 = some true := f14_eq (k1.trans k2.symm) (by rw [k1, zl_len]; omega)
  unfold F3
  rw [c1, bs, c2, bs, f11_eq, bs, if_pos rfl, f12_eq a0 ns hns hn y0, bs, f13_eq a0 ns hns hn y0, bs, if_pos (decide_eq_true rfl), h1, bs, h2, bs, h14, bs, if_pos rfl, has_eq f a ha, bs, has_eq' f a ha, bs, if_pos (beq_self_eq_true _),
    f19_eq, bs, bs, k2, zl_len, if_pos (by rw [beq_iff_eq]; rfl), f20_eq a b ha hb, bs, f21_eq a b ha hb, bs, if_pos (decide_eq_true rfl), if_pos (decide_eq_true rfl), beq_self_eq_true]
end Go.Proofs.Ytfjdegohjnejkaa
