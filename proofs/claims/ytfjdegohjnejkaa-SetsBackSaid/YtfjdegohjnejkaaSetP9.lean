/-
  Sets of bytes: the named classes, and two lists compared.
-/
import Derived.Test.YtfjdegohjnejkaaSetP8
namespace Go.Proofs.Ytfjdegohjnejkaa
open Go AW
set_option linter.unusedVariables false
set_option linter.unusedSimpArgs false
noncomputable section

def nUpper : Str := [117, 112, 112, 101, 114]
def nLower : Str := [108, 111, 119, 101, 114]
def nAlpha : Str := [97, 108, 112, 104, 97]
def nDigit : Str := [100, 105, 103, 105, 116]
def nAlnum : Str := [97, 108, 110, 117, 109]
def nXdigit : Str := [120, 100, 105, 103, 105, 116]
def nBlank : Str := [98, 108, 97, 110, 107]
def nSpace : Str := [115, 112, 97, 99, 101]
def nCntrl : Str := [99, 110, 116, 114, 108]
def nPrint : Str := [112, 114, 105, 110, 116]
def nGraph : Str := [103, 114, 97, 112, 104]
def nPunct : Str := [112, 117, 110, 99, 116]
def qAlpha (n : Nat) : Bool := ran 65 90 n || ran 97 122 n
def qAlnum (n : Nat) : Bool := qAlpha n || ran 48 57 n
def qXdigit (n : Nat) : Bool := ran 48 57 n || (ran 65 70 n || ran 97 102 n)
def ofl (l : List Nat) : Nat → Bool := l.foldl addS fun _ => false
def qSpace (n : Nat) : Bool := ran 9 13 n || ofl [32] n
def qCntrl (n : Nat) : Bool := ran 0 31 n || ofl [127] n
def qPunct (n : Nat) : Bool := ran 33 126 n && !qAlnum n

theorem f34_ex : ∃ M : Mp Str (Arr 4 Int), F34 = some M ∧ M.get nUpper = some (sa (ran 65 90)) ∧ M.get nLower = some (sa (ran 97 122)) ∧ M.get nAlpha = some (sa qAlpha) ∧ M.get nDigit = some (sa (ran 48 57)) ∧
    M.get nAlnum = some (sa qAlnum) ∧ M.get nXdigit = some (sa qXdigit) ∧ M.get nBlank = some (sa (ofl [32, 9])) ∧ M.get nSpace = some (sa qSpace) ∧ M.get nCntrl = some (sa qCntrl) ∧ M.get nPrint = some (sa (ran 32 126)) ∧
    M.get nGraph = some (sa (ran 33 126)) ∧ M.get nPunct = some (sa qPunct) ∧
    ∀ name, name ≠ nUpper → name ≠ nLower → name ≠ nAlpha → name ≠ nDigit → name ≠ nAlnum → name ≠ nXdigit → name ≠ nBlank → name ≠ nSpace → name ≠ nCntrl → name ≠ nPrint → name ≠ nGraph → name ≠ nPunct → M.get name = none := by
  have r1 : F20 65 90 = some (sa (ran 65 90)) := f20_eq 65 90 (by omega) (by omega)
  have r2 : F20 97 122 = some (sa (ran 97 122)) := f20_eq 97 122 (by omega) (by omega)
  have r3 : F20 48 57 = some (sa (ran 48 57)) := f20_eq 48 57 (by omega) (by omega)
  have r4 : F20 33 126 = some (sa (ran 33 126)) := f20_eq 33 126 (by omega) (by omega)
  have r5 : F20 65 70 = some (sa (ran 65 70)) := f20_eq 65 70 (by omega) (by omega)
  have r6 : F20 97 102 = some (sa (ran 97 102)) := f20_eq 97 102 (by omega) (by omega)
  have r7 : F20 9 13 = some (sa (ran 9 13)) := f20_eq 9 13 (by omega) (by omega)
  have r8 : F20 0 31 = some (sa (ran 0 31)) := f20_eq 0 31 (by omega) (by omega)
  have r9 : F20 32 126 = some (sa (ran 32 126)) := f20_eq 32 126 (by omega) (by omega)
  have b1 : F12 (some ([32, 9] : List Int)) = some (sa (ofl [32, 9])) := f12_eq _ [32, 9] rfl (by simp) (by simp)
  have b2 : F12 (some ([32] : List Int)) = some (sa (ofl [32])) := f12_eq _ [32] rfl (by simp) (by simp)
  have b3 : F12 (some ([127] : List Int)) = some (sa (ofl [127])) := f12_eq _ [127] rfl (by simp) (by simp)
  have u1 : F27 (sa (ran 65 90)) (sa (ran 97 122)) = some (sa qAlpha) := f27_eq _ _
  have u2 : F27 (sa qAlpha) (sa (ran 48 57)) = some (sa qAlnum) := f27_eq _ _
  have u3 : F27 (sa (ran 65 70)) (sa (ran 97 102)) = some (sa fun n => ran 65 70 n || ran 97 102 n) := f27_eq _ _
  have u4 : F27 (sa (ran 48 57)) (sa fun n => ran 65 70 n || ran 97 102 n) = some (sa qXdigit) := f27_eq _ _
  have u5 : F27 (sa (ran 9 13)) (sa (ofl [32])) = some (sa qSpace) := f27_eq _ _
  have u6 : F27 (sa (ran 0 31)) (sa (ofl [127])) = some (sa qCntrl) := f27_eq _ _
  have u7 : F29 (sa qAlnum) = some (sa fun n => !qAlnum n) := f29_eq _
  have u8 : F25 (sa (ran 33 126)) (sa fun n => !qAlnum n) = some (sa qPunct) := f25_eq _ _
  unfold F34
  rw [r1, bs, r2, bs, r3, bs, u1, bs, u2, bs, r4, bs, if_pos (by rfl), if_pos (by rfl), if_pos (by rfl), if_pos (by rfl), if_pos (by rfl), r5, bs, r6, bs, u3, bs, u4, bs, if_pos (by rfl), b1, bs, if_pos (by rfl), r7, bs, b2, bs, u5, bs, if_pos (by rfl),
    r8, bs, b3, bs, u6, bs, if_pos (by rfl), r9, bs, if_pos (by rfl), if_pos (by rfl), u7, bs, u8, bs, if_pos (by rfl)]
  refine ⟨_, rfl, rfl, rfl, rfl, rfl, rfl, rfl, rfl, rfl, rfl, rfl, rfl, rfl, fun name h1 h2 h3 h4 h5 h6 h7 h8 h9 h10 h11 h12 => ?_⟩
  unfold nUpper nLower nAlpha nDigit nAlnum nXdigit nBlank nSpace nCntrl nPrint nGraph nPunct at *
  simp only [Mp.put, Mp.empty, if_neg h1, if_neg h2, if_neg h3, if_neg h4, if_neg h5, if_neg h6, if_neg h7, if_neg h8, if_neg h9, if_neg h10, if_neg h11, if_neg h12]

theorem class_eq (name : Str) : ∃ c, F9 name = some c ∧ F10 name = some c := by
  have r1 : F21 65 90 = some (sa (ran 65 90)) := f21_eq 65 90 (by omega) (by omega)
  have r2 : F21 97 122 = some (sa (ran 97 122)) := f21_eq 97 122 (by omega) (by omega)
  have r3 : F21 48 57 = some (sa (ran 48 57)) := f21_eq 48 57 (by omega) (by omega)
  have r4 : F21 33 126 = some (sa (ran 33 126)) := f21_eq 33 126 (by omega) (by omega)
  have r5 : F21 65 70 = some (sa (ran 65 70)) := f21_eq 65 70 (by omega) (by omega)
  have r6 : F21 97 102 = some (sa (ran 97 102)) := f21_eq 97 102 (by omega) (by omega)
  have r7 : F21 9 13 = some (sa (ran 9 13)) := f21_eq 9 13 (by omega) (by omega)
  have r8 : F21 0 31 = some (sa (ran 0 31)) := f21_eq 0 31 (by omega) (by omega)
  have b1 : F13 (some ([32, 9] : List Int)) = some (sa (ofl [32, 9])) := f13_eq _ [32, 9] rfl (by simp) (by simp)
  have u1 : F28 (sa (ran 65 90)) (sa (ran 97 122)) = some (sa qAlpha) := f28_eq _ _
  have u2 : F28 (sa qAlpha) (sa (ran 48 57)) = some (sa qAlnum) := f28_eq _ _
  have u3 : F28 (sa (ran 65 70)) (sa (ran 97 102)) = some (sa fun n => ran 65 70 n || ran 97 102 n) := f28_eq _ _
  have u4 : F28 (sa (ran 48 57)) (sa fun n => ran 65 70 n || ran 97 102 n) = some (sa qXdigit) := f28_eq _ _
  have u5 : F35 (sa (ran 9 13)) 32 = some (sa qSpace) := (add_eq' (ran 9 13) 32 (by omega)).trans (congrArg some (sa_ext fun n _ => by simp [addS, qSpace, ofl, Bool.or_comm]))
  have u6 : F35 (sa (ran 0 31)) 127 = some (sa qCntrl) := (add_eq' (ran 0 31) 127 (by omega)).trans (congrArg some (sa_ext fun n _ => by simp [addS, qCntrl, ofl, Bool.or_comm]))
  have u7 : F35 (sa (ran 33 126)) 32 = some (sa (ran 32 126)) := (add_eq' (ran 33 126) 32 (by omega)).trans (congrArg some (sa_ext fun n _ => by
    simp only [addS, ran]; rw [← Bool.decide_or, decide_eq_decide]; omega))
  have u8 : F30 (sa qAlnum) = some (sa fun n => !qAlnum n) := f30_eq _
  have u9 : F26 (sa (ran 33 126)) (sa fun n => !qAlnum n) = some (sa qPunct) := f26_eq _ _
  obtain ⟨M, hM, g1, g2, g3, g4, g5, g6, g7, g8, g9, g10, g11, g12, gn⟩ := f34_ex
  refine ⟨_, by unfold F9; rw [hM, bs], ?_⟩
  have ne : ∀ {k : Str}, name ≠ k → ¬ (name == k) = true := fun h e => h (beq_iff_eq.1 e)
  have fin : ∀ {S : Arr 4 Int}, M.get name = some S → some (S, true) = some ((Option.getD (Mp.get M name) (Arr.rep 4 0)), (Option.isSome (Mp.get M name))) := fun h => by rw [h]; rfl
  unfold F10
  rw [r1, bs, r2, bs, r3, bs, u1, bs, u2, bs, r4, bs]
  by_cases h1 : name = nUpper
  · exact (if_pos (beq_iff_eq.2 h1)).trans (fin (h1 ▸ g1))
  refine (if_neg (ne h1)).trans ?_
  by_cases h2 : name = nLower
  · exact (if_pos (beq_iff_eq.2 h2)).trans (fin (h2 ▸ g2))
  refine (if_neg (ne h2)).trans ?_
  by_cases h3 : name = nAlpha
  · refine (if_pos (beq_iff_eq.2 h3)).trans ?_
    rw [bs]; exact (fin (h3 ▸ g3))
  refine (if_neg (ne h3)).trans ?_
  by_cases h4 : name = nDigit
  · exact (if_pos (beq_iff_eq.2 h4)).trans (fin (h4 ▸ g4))
  refine (if_neg (ne h4)).trans ?_
  by_cases h5 : name = nAlnum
  · exact (if_pos (beq_iff_eq.2 h5)).trans (fin (h5 ▸ g5))
  refine (if_neg (ne h5)).trans ?_
  by_cases h6 : name = nXdigit
  · refine (if_pos (beq_iff_eq.2 h6)).trans ?_
    rw [r5, bs, r6, bs, u3, bs, u4, bs]; exact (fin (h6 ▸ g6))
  refine (if_neg (ne h6)).trans ?_
  by_cases h7 : name = nBlank
  · refine (if_pos (beq_iff_eq.2 h7)).trans ?_
    rw [b1, bs]; exact (fin (h7 ▸ g7))
  refine (if_neg (ne h7)).trans ?_
  by_cases h8 : name = nSpace
  · refine (if_pos (beq_iff_eq.2 h8)).trans ?_
    rw [r7, bs, u5, bs]; exact (fin (h8 ▸ g8))
  refine (if_neg (ne h8)).trans ?_
  by_cases h9 : name = nCntrl
  · refine (if_pos (beq_iff_eq.2 h9)).trans ?_
    rw [r8, bs, u6, bs]; exact (fin (h9 ▸ g9))
  refine (if_neg (ne h9)).trans ?_
  by_cases h10 : name = nPrint
  · refine (if_pos (beq_iff_eq.2 h10)).trans ?_
    rw [u7, bs]; exact (fin (h10 ▸ g10))
  refine (if_neg (ne h10)).trans ?_
  by_cases h11 : name = nGraph
  · exact (if_pos (beq_iff_eq.2 h11)).trans (fin (h11 ▸ g11))
  refine (if_neg (ne h11)).trans ?_
  by_cases h12 : name = nPunct
  · refine (if_pos (beq_iff_eq.2 h12)).trans ?_
    rw [u8, bs, u9, bs]; exact (fin (h12 ▸ g12))
  refine (if_neg (ne h12)).trans ?_
  rw [gn name h1 h2 h3 h4 h5 h6 h7 h8 h9 h10 h11 h12]
  rfl

theorem f14_loop {a b : Sl Int} (h : ls a = ls b) (hl : (ls a).length ≤ 1000000) : ∀ (k i : Nat), i + k = (ls a).length → G14 (.p1 a b ((ls a).length : Int) (i : Int)) = some true
  | 0, i, e => by rw [G14.eq_1, df (by omega)]
  | k + 1, i, e => by
    have hi : (ls a)[i]? = some ((ls a)[i]'(by omega)) := List.getElem?_eq_getElem (by omega)
    rw [G14.eq_1, dt (by omega), ← h, ix_nat, hi, bs, bs, if_neg (by simp), wrapi _ (by omega) (by omega)]
    exact f14_loop h hl k (i + 1) (by omega)
theorem f14_eq {a b : Sl Int} (h : ls a = ls b) (hl : (ls a).length ≤ 1000000) : F14 a b = some true := by
  unfold F14
  rw [if_neg (by simp [h])]
  exact f14_loop h hl (ls a).length 0 (by omega)
end
end Go.Proofs.Ytfjdegohjnejkaa
