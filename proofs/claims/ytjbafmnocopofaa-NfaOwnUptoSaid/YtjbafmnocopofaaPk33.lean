/-
  Texts of this proof, put together: NfS6, NfA, NfS7, NfC, NfD, NfE, Fu, Fu2, PureOwn.
-/
import Derived.Test.YtjbafmnocopofaaPk32
import Derived.KernelRfl
import Derived.Test.YtjbafmnocopofaaPk31
set_option linter.unusedSectionVars false
set_option linter.unusedSimpArgs false
set_option linter.unusedVariables false
section
namespace Go.Proofs.Ytjbafmnocopofaa
open Go AW
set_option maxHeartbeats 4000000
theorem co_up (L : List T52) (s fr : Nat) (h : fr < 100000) : ({ Co L s fr with free := IntKind.wrap .i64 ((Co L s fr).free + 1), slots := (if (IntKind.wrap .i64 ((Co L s fr).free + 1)) > (Co L s fr).slots then (IntKind.wrap .i64 ((Co L s fr).free + 1)) else (Co L s fr).slots) } : T65) = Co L (max s (fr + 1)) (fr + 1) := by
  show ({ code := so L, slots := (if (IntKind.wrap .i64 ((fr : Int) + 1)) > (s : Int) then (IntKind.wrap .i64 ((fr : Int) + 1)) else (s : Int)), free := IntKind.wrap .i64 ((fr : Int) + 1) } : T65) = _
  rw [wn1 fr (by omega)]
  have : (if ((fr + 1 : Nat) : Int) > (s : Int) then ((fr + 1 : Nat) : Int) else (s : Int)) = ((max s (fr + 1) : Nat) : Int) := by split <;> omega
  rw [this]
  rfl
theorem co_down (L : List T52) (s fr : Nat) (h : fr < 100000) : ({ Co L s (fr + 1) with free := IntKind.wrap .i64 ((Co L s (fr + 1)).free - 1) } : T65) = Co L s fr := by
  simp only [Co]
  rw [wm1 (fr + 1) (by omega) (by omega)]
  rfl
structure Kd (k : T27) : Prop where
  p : Pn k
  l : Ln k
  g : F38 k = some (lh k)
  c : (clr (lh k)).length = if gcnt k = 0 then 0 else 1
theorem clr_of {k : T27} (hk : Kd k) : sz k + (clr (lh k)).length = rsz k := by rw [hk.c]; rfl
theorem p59_1 {k : T27} (hk : Kd k) (free : Bool) (slot : Int) (L : List T52) (s fr : Nat) (h : L.length + rsz k ≤ 16384) :
    G26r (.p59_1 free k slot (Co L s fr)) = G26r (.p59_2 free k slot (Co (L ++ clr (lh k)) s fr)) := by
  rw [G26r.eq_14, hk.g, sm]
  unfold clr
  by_cases h0 : (lh k).1 > 0
  · rw [dti h0, f27 _ _ _ _ (by omega), sm, if_pos h0]
  rw [dfi h0, if_neg h0, List.append_nil]
theorem p59_r {k : T27} (hk : Kd k) (L : List T52) (s fr : Nat) (h : L.length + rsz k ≤ 16384) (hf : fr ≤ L.length) (hfs : fr ≤ s) :
    G26r (.e59 (Co L s fr) k false) = some (Co (L ++ rnd (cd k) (lh k) L.length fr) (max s (fr + dep k)) fr) := by
  have hr := clr_of hk
  have hl : (L ++ clr (lh k)).length = L.length + (clr (lh k)).length := List.length_append
  rw [G26r.eq_13, if_neg (by simp), p59_1 hk _ _ _ _ _ h, G26r.eq_15, hk.p (L ++ clr (lh k)) s fr (by rw [hl]; omega) (by rw [hl]; omega) hfs, sm, if_neg (by simp), hl]
  unfold rnd
  rw [List.append_assoc]
theorem p59_f {k : T27} (hk : Kd k) (L : List T52) (s fr : Nat) (h : L.length + rsz k + 2 ≤ 16384) (hf : fr ≤ L.length) (hfs : fr ≤ s) :
    G26r (.e59 (Co L s fr) k true) = some (Co (L ++ frd (cd k) (lh k) L.length fr) (max s (fr + (dep k + 1))) fr) := by
  have hr := clr_of hk
  have h1 : (L ++ [iSl 7 fr]).length = L.length + 1 := by simp
  have hl : (L ++ [iSl 7 fr] ++ clr (lh k)).length = L.length + 1 + (clr (lh k)).length := by rw [List.length_append, h1]
  rw [G26r.eq_13, if_pos rfl, f27 _ _ _ _ (by omega), sm]
  have e1 := co_up (L ++ [iSl 7 fr]) s fr (by omega)
  refine Eq.trans (congrArg (fun c => G26r (.p59_1 true k (fr : Int) c)) e1) ?_
  rw [p59_1 hk _ _ _ _ _ (by rw [h1]; omega), G26r.eq_15, hk.p (L ++ [iSl 7 fr] ++ clr (lh k)) _ (fr + 1) (by rw [hl]; omega) (by rw [hl]; omega) (by omega), sm, if_pos rfl]
  have e2 := co_down (L ++ [iSl 7 fr] ++ clr (lh k) ++ cd k (L ++ [iSl 7 fr] ++ clr (lh k)).length (fr + 1)) (max (max s (fr + 1)) (fr + 1 + dep k)) fr (by omega)
  rw [e2, f27 _ _ _ _ (by rw [List.length_append, hk.l, hl]; omega), sm, hl]
  have e3 : max (max s (fr + 1)) (fr + 1 + dep k) = max s (fr + (dep k + 1)) := by omega
  rw [e3]
  unfold frd rnd
  simp
theorem len0 {f : Nat → Nat → List T52} {l : Int × Int} {s : Nat} (hf : ∀ a fr, (f a fr).length = s) (r fr : Nat) (hr : r = s + (clr l).length) (h0 : r = 0) (m a : Nat) : mins f l r fr m a = [] :=
  List.eq_nil_of_length_eq_zero (by rw [mins_len hf r fr hr, h0, Nat.mul_zero])
theorem p54_1 (n : T27) {k : T27} (hk : Kd k) (hks : ix (ls n.Kids) 0 = some k) (mn : Nat) (hmn : mn ≤ 255) : ∀ (m i : Nat) (L : List T52) (s fr : Nat), m + i = mn → L.length + m * rsz k ≤ 16384 → fr ≤ L.length → fr ≤ s →
    G26r (.p54_1 n (mn : Int) (i : Int) (Co L s fr)) = G26r (.p54_2 n (Co (L ++ mins (cd k) (lh k) (rsz k) fr m L.length) (if m = 0 then s else max s (fr + dep k)) fr))
  | 0, i, L, s, fr, h, hs, hf, hfs => by
    rw [G26r.eq_9, dfi (by omega), mins, List.append_nil, if_pos rfl]
  | m + 1, i, L, s, fr, h, hs, hf, hfs => by
    have hr := clr_of hk
    have hrl : (rnd (cd k) (lh k) L.length fr).length = rsz k := by rw [rnd_len hk.l]; exact hr
    rw [Nat.add_mul, Nat.one_mul] at hs
    rw [G26r.eq_9, dti (by omega), hks, sm, p59_r hk L s fr (by omega) hf hfs, sm, co_code, co_code, List.length_append, hrl]
    by_cases h0 : rsz k = 0
    · rw [eti (by omega), if_neg (by omega), mins, len0 hk.l (rsz k) fr hr.symm h0, List.append_nil]
    rw [efi (by omega), wn1 i (by omega), p54_1 n hk hks mn hmn m (i + 1) _ _ fr (by omega) (by rw [List.length_append, hrl]; omega) (by rw [List.length_append]; omega) (by omega), mins, List.length_append, hrl, if_neg (by omega : ¬ m + 1 = 0), List.append_assoc]
    have e : (if m = 0 then max s (fr + dep k) else max (max s (fr + dep k)) (fr + dep k)) = max s (fr + dep k) := by split <;> omega
    rw [e]
def opp (r : Nat) : Nat → Nat → List Nat
  | 0, _ => []
  | m + 1, a => a :: opp r m (a + r + 3)
theorem opp_lt (r : Nat) : ∀ (m a : Nat), ∀ p ∈ opp r m a, p < a + m * (r + 3)
  | 0, a, p, h => by simp [opp] at h
  | m + 1, a, p, h => by
    rw [opp] at h
    rw [Nat.add_mul, Nat.one_mul]
    rcases List.mem_cons.1 h with rfl | h
    · omega
    have := opp_lt r m _ p h; omega
theorem opp_len (r : Nat) : ∀ (m a : Nat), (opp r m a).length = m
  | 0, _ => rfl
  | m + 1, a => by rw [opp, List.length_cons, opp_len r m]
theorem opt_pat (k : T27) (hk : Kd k) (e e0 fr : Nat) : ∀ (m : Nat) (A B : List T52), (opp (rsz k) m A.length).foldl (pat e) (A ++ (opts (cd k) (lh k) (rsz k) fr e0 m A.length ++ B)) = A ++ (opts (cd k) (lh k) (rsz k) fr e m A.length ++ B)
  | 0, A, B => by rw [opp, opts, opts]; rfl
  | m + 1, A, B => by
    have hfl : ∀ a, (frd (cd k) (lh k) a fr).length = rsz k + 2 := fun a => by rw [frd_len hk.l]; have := clr_of hk; omega
    rw [opp, opts, opts, List.foldl_cons]
    have e1 : A ++ (iTo 2 e0 :: (frd (cd k) (lh k) (A.length + 1) fr ++ opts (cd k) (lh k) (rsz k) fr e0 m (A.length + rsz k + 3)) ++ B) = A ++ iTo 2 e0 :: (frd (cd k) (lh k) (A.length + 1) fr ++ (opts (cd k) (lh k) (rsz k) fr e0 m (A.length + rsz k + 3) ++ B)) := by simp
    rw [e1, pat_mid]
    have e5 : (({ iTo 2 e0 with To := (e : Int) } : T52)) = iTo 2 e := rfl
    have e3 : A ++ iTo 2 e :: (frd (cd k) (lh k) (A.length + 1) fr ++ (opts (cd k) (lh k) (rsz k) fr e0 m (A.length + rsz k + 3) ++ B)) = (A ++ iTo 2 e :: frd (cd k) (lh k) (A.length + 1) fr) ++ (opts (cd k) (lh k) (rsz k) fr e0 m (A.length + rsz k + 3) ++ B) := by simp
    have e4 : A.length + rsz k + 3 = (A ++ iTo 2 e :: frd (cd k) (lh k) (A.length + 1) fr).length := by simp [hfl]; omega
    have ihh := opt_pat k hk e e0 fr m (A ++ iTo 2 e :: frd (cd k) (lh k) (A.length + 1) fr) B
    rw [← e4] at ihh
    rw [e5, e3, ihh]
    simp
theorem p54_3 (n : T27) {k : T27} (hk : Kd k) (hks : ix (ls n.Kids) 0 = some k) (d : Nat) (hd : d ≤ 255) : ∀ (m i : Nat) (L : List T52) (s fr : Nat) (O : List Nat), m + i = d → L.length + m * (rsz k + 3) ≤ 16384 → fr ≤ L.length → fr ≤ s → O.length ≤ i →
    G26r (.p54_3 n (d : Int) (i : Int) (Co L s fr) (so (intz O))) = G26r (.p54_4 (so (intz (O ++ opp (rsz k) m L.length))) ((O ++ opp (rsz k) m L.length).length : Int) 0 (Co (L ++ opts (cd k) (lh k) (rsz k) fr 0 m L.length) (if m = 0 then s else max s (fr + (dep k + 1))) fr))
  | 0, i, L, s, fr, O, h, hs, hf, hfs, hO => by
    rw [G26r.eq_11, dfi (by omega), opts, List.append_nil, if_pos rfl, opp, List.append_nil, ls_so, intz_len]
  | m + 1, i, L, s, fr, O, h, hs, hf, hfs, hO => by
    have hfl : ∀ a, (frd (cd k) (lh k) a fr).length = rsz k + 2 := fun a => by rw [frd_len hk.l]; have := clr_of hk; omega
    rw [Nat.add_mul, Nat.one_mul] at hs
    have h1 : (L ++ [ik 2]).length = L.length + 1 := by simp
    have h2 : (L ++ [ik 2] ++ frd (cd k) (lh k) (L.length + 1) fr).length = L.length + rsz k + 3 := by rw [List.length_append, h1, hfl]; omega
    have e0 : ls (some [(L.length : Int)]) = intz [L.length] := rfl
    rw [G26r.eq_11, dti (by omega), f27 L s fr _ (by omega), sm, if_pos (by rw [ls_so]; simp [intz, ls]; omega), hks, sm, p59_f hk (L ++ [ik 2]) s fr (by rw [h1]; omega) (by rw [h1]; omega) hfs, sm, h1, e0, sapp_so, wn1 i (by omega)]
    have e4 : intz O ++ intz [L.length] = intz (O ++ [L.length]) := by simp [intz]
    rw [e4, p54_3 n hk hks d hd m (i + 1) _ _ fr _ (by omega) (by rw [h2]; omega) (by rw [h2]; omega) (by omega) (by simp; omega), h2, opp, opts, if_neg (by omega : ¬ m + 1 = 0)]
    have e : (if m = 0 then max s (fr + (dep k + 1)) else max (max s (fr + (dep k + 1))) (fr + (dep k + 1))) = max s (fr + (dep k + 1)) := by split <;> omega
    rw [e]
    have e7 : L ++ [ik 2] ++ frd (cd k) (lh k) (L.length + 1) fr ++ opts (cd k) (lh k) (rsz k) fr 0 m (L.length + rsz k + 3) = L ++ iTo 2 ((0 : Nat) : Int) :: (frd (cd k) (lh k) (L.length + 1) fr ++ opts (cd k) (lh k) (rsz k) fr 0 m (L.length + rsz k + 3)) := by simp
    have e8 : O ++ [L.length] ++ opp (rsz k) m (L.length + rsz k + 3) = O ++ L.length :: opp (rsz k) m (L.length + rsz k + 3) := by simp
    rw [e7, e8]
theorem p54_2 (n : T27) {k : T27} (hk : Kd k) (hks : ix (ls n.Kids) 0 = some k) (mn : Nat) (hmn : n.Min = mn) (hmm : mn ≤ 255 ∧ (n.Max = -1 ∨ (mn : Int) ≤ n.Max ∧ n.Max ≤ 255)) (L : List T52) (s fr : Nat) (h : L.length + (if n.Max = -1 then rsz k + 4 else (n.Max - n.Min).toNat * (rsz k + 3)) ≤ 16384) (hf : fr ≤ L.length) (hfs : fr ≤ s) :
    G26r (.p54_2 n (Co L s fr)) = some (Co (L ++ if n.Max = -1 then iTo 2 ((L.length + rsz k + 4 : Nat) : Int) :: (frd (cd k) (lh k) (L.length + 1) fr ++ [iTo 3 (L.length : Int)]) else opts (cd k) (lh k) (rsz k) fr (L.length + (n.Max - n.Min).toNat * (rsz k + 3)) (n.Max - n.Min).toNat L.length) (if n.Max = -1 ∨ n.Min < n.Max then max s (fr + (dep k + 1)) else s) fr) := by
  have hfl : ∀ a, (frd (cd k) (lh k) a fr).length = rsz k + 2 := fun a => by rw [frd_len hk.l]; have := clr_of hk; omega
  rw [G26r.eq_10]
  by_cases hx : n.Max = -1
  · rw [if_pos hx] at h
    have h1 : (L ++ [ik 2]).length = L.length + 1 := by simp
    have h2 : (L ++ [ik 2] ++ frd (cd k) (lh k) (L.length + 1) fr).length = L.length + rsz k + 3 := by rw [List.length_append, h1, hfl]; omega
    rw [eti hx, if_pos hx, if_pos (.inl hx), f27 L s fr _ (by omega), sm, hks, sm, p59_f hk (L ++ [ik 2]) s fr (by rw [h1]; omega) (by rw [h1]; omega) hfs, sm, h1, f27 _ _ _ _ (by rw [h2]; omega), sm, co_code]
    have e2 : L ++ [ik 2] ++ frd (cd k) (lh k) (L.length + 1) fr ++ [iTo 3 (L.length : Int)] = L ++ ik 2 :: (frd (cd k) (lh k) (L.length + 1) fr ++ [iTo 3 (L.length : Int)]) := by simp
    have e3 : (L ++ ik 2 :: (frd (cd k) (lh k) (L.length + 1) fr ++ [iTo 3 (L.length : Int)])).length = L.length + rsz k + 4 := by rw [List.length_append, List.length_cons, List.length_append, hfl]; simp; omega
    simp only [e2]
    rw [ixs (get_mid L _ (ik 2)), sm, pat_co _ _ (get_mid L _ (ik 2)), e3, pat_mid]
  obtain ⟨d, hd⟩ : ∃ d : Nat, n.Max - n.Min = d := ⟨(n.Max - n.Min).toNat, by omega⟩
  rw [if_neg hx, hd, Int.toNat_natCast] at h
  rw [efi hx, if_neg hx, hd, wi _ (by omega) (by omega), Int.toNat_natCast]
  have h3 := p54_3 n hk hks d (by omega) d 0 L s fr [] (by omega) h hf hfs (by simp)
  have h3' : G26r (.p54_3 n (d : Int) 0 (Co L s fr) none) = _ := h3
  have hol : (opts (cd k) (lh k) (rsz k) fr 0 d L.length).length = d * (rsz k + 3) := opts_len hk.l _ _ _ (clr_of hk).symm d _
  have hlen : (L ++ opts (cd k) (lh k) (rsz k) fr 0 d L.length).length = L.length + d * (rsz k + 3) := by rw [List.length_append, hol]
  have hpl := opp_len (rsz k) d L.length
  have h4 := p54_4 (opp (rsz k) d L.length) (by omega) (opp (rsz k) d L.length).length 0 (L ++ opts (cd k) (lh k) (rsz k) fr 0 d L.length) (if d = 0 then s else max s (fr + (dep k + 1))) fr (by omega) (fun p hp => by rw [hlen]; exact opp_lt _ _ _ p hp)
  have h5 := opt_pat k hk (L.length + d * (rsz k + 3)) 0 fr d L []
  rw [List.append_nil, List.append_nil] at h5
  rw [h3', List.nil_append]
  have h4' : G26r (.p54_4 (so (intz (opp (rsz k) d L.length))) ((opp (rsz k) d L.length).length : Int) 0 (Co (L ++ opts (cd k) (lh k) (rsz k) fr 0 d L.length) (if d = 0 then s else max s (fr + (dep k + 1))) fr)) = _ := h4
  rw [h4', List.drop_zero, hlen, h5]
  have e : (if d = 0 then s else max s (fr + (dep k + 1))) = if n.Max = -1 ∨ n.Min < n.Max then max s (fr + (dep k + 1)) else s := by
    by_cases h0 : d = 0
    · rw [if_pos h0, if_neg (by omega)]
    rw [if_neg h0, if_pos (by omega)]
  rw [e]
theorem compile : ∀ (n : T27) (b : Nat), cnt n ≤ 100000 → good n b → Pn n := by
  intro n
  induction n using tree_ind with
  | h n ih =>
    intro b hc hg L s fr hs hf hfs
    have hcl := cnt_eq n
    have hlen := cntl_len (ls n.Kids)
    have hln := cd_len n b hc hg
    rw [good_eq] at hg
    have ih' : ∀ k ∈ ls n.Kids, Kd k := fun k hk => by
      obtain ⟨b', hb'⟩ := goodl_mem hg.2 hk
      have := cnt_kid hk
      exact ⟨ih k hk b' (by omega) hb', cd_len k b' (by omega) hb', (f38 (by omega) hb').1, clr_len (by omega) hb'⟩
    have ihp : ∀ k ∈ ls n.Kids, Pn k ∧ Ln k := fun k hk => ⟨(ih' k hk).p, (ih' k hk).l⟩
    rw [G26r.eq_1]
    unfold F39
    rw [sm, cd_eq, dep_eq]
    rw [sz_eq] at hs
    have nok : ∀ (h : (ls n.Kids).length = 0), depl (ls n.Kids) = 0 := fun h => by rw [List.eq_nil_of_length_eq_zero h, depl]
    rcases pl_kids hg.1.1 with ⟨h, hk⟩ | ⟨h, hm, hk⟩ | ⟨h, hk⟩ | ⟨h, hk⟩
    · rcases h with h | h
      · simp (config := {decide := true}) only [h, if_true, if_false] at hs ⊢
        have := p51 n (by omega) ihp (ls n.Kids).length 0 L s fr (by omega) (by rw [List.drop_zero]; exact hs) hf hfs
        have this' : G26r (.p51_1 n.Kids ((ls n.Kids).length : Int) 0 (Co L s fr)) = _ := this
        rw [G26r.eq_2, this', sm, List.drop_zero]
      simp (config := {decide := true}) only [h, if_true, if_false] at hs ⊢
      obtain ⟨F, k, hFk⟩ : ∃ F k, ls n.Kids = F ++ [k] := ⟨_, _, (List.dropLast_concat_getLast (by intro e; rw [e] at hk; simp at hk)).symm⟩
      obtain ⟨K, hK⟩ : ∃ K, n.Kids = some K := by
        cases e : n.Kids with
        | none => rw [e] at hk; simp [ls] at hk
        | some K => exact ⟨K, rfl⟩
      have hKl : K = F ++ [k] := by rw [hK] at hFk; exact hFk
      have hFl : (ls n.Kids).length = F.length + 1 := by rw [hFk]; simp
      have hcut : scut n.Kids 0 (IntKind.wrap .i64 (((ls n.Kids).length : Int) - 1)) = some (some F) := by
        rw [wm1 _ (by omega) (by omega), hFl, hK]
        simp only [scut]
        rw [if_pos (by rw [hKl]; simp; omega), hKl]
        simp
      have hixk : ix (ls n.Kids) (IntKind.wrap .i64 (((ls n.Kids).length : Int) - 1)) = some k := by
        rw [wm1 _ (by omega) (by omega), hFl, hFk]
        exact ixs (by simp)
      have hkm : k ∈ ls n.Kids := by rw [hFk]; simp
      have hFm : ∀ x ∈ F, Pn x ∧ Ln x := fun x hx => ihp x (by rw [hFk]; simp [hx])
      rw [hFl, hFk, szl_app] at hs
      have hal := alf_len F (fun x hx => (hFm x hx).2) 0 L.length fr
      have hL2 : (L ++ alf F 0 L.length fr).length = L.length + szl F + 2 * F.length := by rw [List.length_append, hal]; omega
      have h1 := p53_1 n (IntKind.wrap .i64 (((ls n.Kids).length : Int) - 1)) (some F) F rfl (by omega) hFm F.length 0 L s fr [] (by omega) (by rw [List.drop_zero]; omega) hf hfs (by simp)
      rw [List.drop_zero, List.nil_append] at h1
      have h1' : G26r (.p53_1 n (IntKind.wrap .i64 (((ls n.Kids).length : Int) - 1)) (some F) ((ls (some F)).length : Int) 0 (Co L s fr) none) = _ := h1
      rw [G26r.eq_5, hcut, sm, h1', hixk, sm, (ihp k hkm).1 (L ++ alf F 0 L.length fr) _ fr (by rw [hL2]; omega) (by rw [hL2]; omega) (by omega), sm, hL2]
      have hlk := (ihp k hkm).2 (L.length + szl F + 2 * F.length) fr
      have hC : (L ++ alf F 0 L.length fr ++ cd k (L.length + szl F + 2 * F.length) fr).length = L.length + szl F + 2 * F.length + sz k := by rw [List.length_append, hL2, hlk]
      have h2 := p53_2 (jps F L.length) (by rw [jps_len]; omega) (jps F L.length).length 0 _ (max (max s (fr + depl F)) (fr + dep k)) fr (by omega) (fun p hp => by rw [hC]; have := jps_lt F L.length p hp; omega)
      have h2' : G26r (.p53_2 (so (intz (jps F L.length))) ((jps F L.length).length : Int) 0 (Co (L ++ alf F 0 L.length fr ++ cd k (L.length + szl F + 2 * F.length) fr) (max (max s (fr + depl F)) (fr + dep k)) fr)) = _ := h2
      rw [h2', sm, List.drop_zero, hC, List.append_assoc, alf_pat _ _ _ F (fun x hx => (hFm x hx).2), hFk, all_front, depl_app, szl_app]
      have e1 : max (max s (fr + depl F)) (fr + dep k) = max s (fr + max (depl F) (dep k)) := by omega
      have e2 : L.length + (szl F + sz k) + 2 * ((F ++ [k]).length - 1) = L.length + szl F + 2 * F.length + sz k := by simp; omega
      rw [e1, e2]
    · simp (config := {decide := true}) only [h, if_true, if_false] at hs ⊢
      obtain ⟨k, hk⟩ : ∃ k, ls n.Kids = [k] := List.length_eq_one_iff.1 hk
      have hkd := ih' k (by simp [hk])
      have hks : ix (ls n.Kids) 0 = some k := by rw [hk]; rfl
      have e1 : szl [k] = sz k := by rw [szl, szl]; rfl
      have e2 : gcntl [k] = gcnt k := by rw [gcntl, gcntl]; rfl
      have e3 : depl [k] = dep k := by rw [depl, depl]; omega
      rw [hk, e1, e2] at hs
      have hs' : L.length + (n.Min.toNat * rsz k + if n.Max = -1 then rsz k + 4 else (n.Max - n.Min).toNat * (rsz k + 3)) ≤ 16384 := hs
      obtain ⟨mn, hmn⟩ := nat_of' hm.1
      have hmt : n.Min.toNat = mn := by omega
      rw [hmt] at hs'
      have hml := mins_len hkd.l (rsz k) fr (clr_of hkd).symm mn L.length
      have h1 := p54_1 n hkd hks mn (by omega) mn 0 L s fr (by omega) (by omega) hf hfs
      have h1' : G26r (.p54_1 n (mn : Int) 0 (Co L s fr)) = _ := h1
      have hL2 : (L ++ mins (cd k) (lh k) (rsz k) fr mn L.length).length = L.length + mn * rsz k := by rw [List.length_append, hml]
      have h2 := p54_2 n hkd hks mn hmn (by omega) (L ++ mins (cd k) (lh k) (rsz k) fr mn L.length) (if mn = 0 then s else max s (fr + dep k)) fr (by rw [hL2]; omega) (by rw [hL2]; omega) (by split <;> omega)
      rw [G26r.eq_8, hmn, h1', h2, sm, hL2, hk, rpl, ← hmn]
      unfold repc
      rw [hmt, e3, List.append_assoc]
      have e4 : (if n.Max = -1 ∨ n.Min < n.Max then max (if mn = 0 then s else max s (fr + dep k)) (fr + (dep k + 1)) else if mn = 0 then s else max s (fr + dep k)) = max s (fr + if n.Max = -1 ∨ n.Min < n.Max then dep k + 1 else if 0 < n.Min then dep k else 0) := by
        by_cases c1 : n.Max = -1 ∨ n.Min < n.Max
        · rw [if_pos c1, if_pos c1]; split <;> omega
        rw [if_neg c1, if_neg c1]
        by_cases c2 : mn = 0
        · rw [if_pos c2, if_neg (by omega)]; omega
        rw [if_neg c2, if_pos (by omega)]
      rw [e4]
    · simp (config := {decide := true}) only [h, if_true, if_false] at hs ⊢
      obtain ⟨k, hk⟩ : ∃ k, ls n.Kids = [k] := List.length_eq_one_iff.1 hk
      have hkd := ih' k (by simp [hk])
      have hks : ix (ls n.Kids) 0 = some k := by rw [hk]; rfl
      have e1 : szl [k] = sz k := by rw [szl, szl]; rfl
      have e3 : depl [k] = dep k := by rw [depl, depl]; omega
      rw [hk, e1] at hs
      have h1 : (L ++ [iGr 4 n.Group]).length = L.length + 1 := by simp
      rw [G26r.eq_4, f27 L s fr _ (by omega), sm, hks, sm, hkd.p (L ++ [iGr 4 n.Group]) s fr (by rw [h1]; omega) (by rw [h1]; omega) hfs, sm, f27 _ _ _ _ (by rw [List.length_append, hkd.l, h1]; omega), sm, sm, h1, hk, chl, e3]
      simp
    have hd := nok hk
    have e0 : max s (fr + depl (ls n.Kids)) = s := by rw [hd]; omega
    rcases h with h | h | h | h | h <;> simp (config := {decide := true}) only [h, if_true, if_false, e0] at hs ⊢
    · unfold F46; rw [sm, List.append_nil]
    · unfold F47; rw [f27 L s fr _ (by omega), sm, sm]
    · unfold F50; rw [f27 L s fr _ (by omega), sm, sm]
    · unfold F48; rw [f27 L s fr _ (by omega), sm, sm]
    unfold F49; rw [f27 L s fr _ (by omega), sm, sm]
noncomputable def prg (n : T27) : T34 := { Groups := (gcnt n : Int), Slots := (dep n : Int), Code := some (cd n 0 0 ++ [ik 12]) }
theorem f10 (n : T27) : ∃ r : T34 × Int, F10 n = some r ∧ ∃ w : Int × Int, F9 n = some w ∧ r.2 = w.2 ∧ (w.2 ≠ 0 → r.1 = { Groups := 0, Slots := 0, Code := none }) ∧ (w.2 = 0 → good n 0 ∧ cnt n ≤ 8192 ∧ sz n < 16384 ∧ w.1 = ((sz n + 1 : Nat) : Int) ∧ r.1 = prg n) := by
  obtain ⟨w, hw, u, hu, h1, h2⟩ := f9 n
  unfold F10
  rw [hw, sm]
  by_cases h0 : w.2 = 0
  · have hu0 : u = 0 := by
      by_cases e : u = 0
      · exact e
      have := h1 e; rw [this] at h0; exact h0
    obtain ⟨hg, hc, hwe⟩ := h2 hu0
    have hsz : sz n < 16384 := by
      by_cases e : sz n < 16384
      · exact e
      rw [if_neg e] at hwe; rw [hwe] at h0; cases h0
    rw [if_pos hsz] at hwe
    have hcp := compile n 0 (by omega) hg [] 0 0 (by simp; omega) (by simp) (by omega)
    have hcp' : F26 ({ code := (none : Sl T52), slots := 0, free := 0 } : T65) n = _ := hcp
    have hl := cd_len n 0 (by omega) hg 0 0
    rw [nfi h0, hcp', sm, List.nil_append, f27 _ _ _ _ (by rw [List.length_nil, hl]; omega), sm, f28 n hc, sm]
    refine ⟨_, rfl, w, rfl, h0.symm, fun h => absurd h0 h, fun _ => ⟨hg, hc, hsz, by rw [hwe], ?_⟩⟩
    unfold prg Co
    simp only [List.length_nil, Nat.zero_add, Nat.zero_max]
    congr 1
    cases cd n 0 0 <;> rfl
  rw [nti h0]
  exact ⟨_, rfl, w, rfl, rfl, fun _ => rfl, fun h => absurd h h0⟩
end Go.Proofs.Ytjbafmnocopofaa
end
section
namespace Go.Proofs.Ytjbafmnocopofaa
open Go AW
set_option maxHeartbeats 4000000
def fit (p : T34) (x : T52) : Bool :=
  if x.Kind = 1 then decide (({ Kind := x.Kind, Set := x.Set, To := 0, Group := 0, Last := 0, Slot := 0 } : T52) = x)
  else if x.Kind = 2 ∨ x.Kind = 3 then decide (({ Kind := x.Kind, Set := Arr.rep 4 0, To := x.To, Group := 0, Last := 0, Slot := 0 } : T52) = x) && decide (0 ≤ x.To ∧ x.To < ((ls p.Code).length : Int))
  else if x.Kind = 4 ∨ x.Kind = 5 ∨ x.Kind = 9 then decide (({ Kind := x.Kind, Set := Arr.rep 4 0, To := 0, Group := x.Group, Last := 0, Slot := 0 } : T52) = x) && decide (1 ≤ x.Group ∧ x.Group ≤ p.Groups)
  else if x.Kind = 6 then decide (({ Kind := x.Kind, Set := Arr.rep 4 0, To := 0, Group := x.Group, Last := x.Last, Slot := 0 } : T52) = x) && decide (1 ≤ x.Group ∧ x.Group ≤ p.Groups ∧ x.Group ≤ x.Last ∧ x.Last ≤ p.Groups)
  else if x.Kind = 7 ∨ x.Kind = 8 then decide (({ Kind := x.Kind, Set := Arr.rep 4 0, To := 0, Group := 0, Last := 0, Slot := x.Slot } : T52) = x) && decide (0 ≤ x.Slot ∧ x.Slot < p.Slots)
  else if x.Kind = 10 ∨ x.Kind = 11 ∨ x.Kind = 12 then decide (({ Kind := x.Kind, Set := Arr.rep 4 0, To := 0, Group := 0, Last := 0, Slot := 0 } : T52) = x)
  else false
def fits (p : T34) : Nat → List T52 → Bool
  | _, [] => true
  | i, x :: l => (fit p x && ((x.Kind == 12) == decide (i + 1 = (ls p.Code).length))) && fits p (i + 1) l
def rp (p : T34) : Bool := decide (0 ≤ p.Groups ∧ p.Groups ≤ 99 ∧ 0 ≤ p.Slots ∧ p.Slots ≤ 16384 ∧ 1 ≤ (ls p.Code).length ∧ (ls p.Code).length ≤ 16384) && fits p 0 (ls p.Code)
theorem kinds (k : Int) : k = 1 ∨ k = 2 ∨ k = 3 ∨ k = 4 ∨ k = 5 ∨ k = 6 ∨ k = 7 ∨ k = 8 ∨ k = 9 ∨ k = 10 ∨ k = 11 ∨ k = 12 ∨ (k ≠ 1 ∧ k ≠ 2 ∧ k ≠ 3 ∧ k ≠ 4 ∧ k ≠ 5 ∧ k ≠ 6 ∧ k ≠ 7 ∧ k ≠ 8 ∧ k ≠ 9 ∧ k ≠ 10 ∧ k ≠ 11 ∧ k ≠ 12) := by omega
theorem bite {α : Type} (c : Bool) (x y : α) : (if (!c) = true then x else y) = if c = true then y else x := by cases c <;> rfl
theorem g11_2 (p : T34) (n i : Int) (ok : Bool) (t : Sl T52) (a b : Int) (x y : T52) : G11 (.p2 p n i ok t a b x y) = if (ok && decide (y = x) && ((x.Kind == 12) == (i == IntKind.wrap .i64 (n - 1)))) = true then G11 (.p1 p n t a (IntKind.wrap .i64 (b + 1))) else some false := by
  rw [G11.eq_2, bite, bite, bite]
  cases ok <;> cases decide (y = x) <;> cases ((x.Kind == 12) == (i == IntKind.wrap .i64 (n - 1))) <;> rfl
theorem g11_3 (p : T34) (n i : Int) (t : Sl T52) (a b : Int) (x y : T52) : G11 (.p3 p n i t a b x y) = G11 (.p2 p n i (decide (0 ≤ x.To ∧ x.To < n)) t a b x { y with To := x.To }) := by
  rw [G11.eq_3]
  by_cases h : 0 ≤ x.To
  · rw [dti h]; simp [h]
  rw [dfi h]; simp [h]
theorem g11_4 (p : T34) (n i : Int) (t : Sl T52) (a b : Int) (x y : T52) : G11 (.p4 p n i t a b x y) = G11 (.p2 p n i (decide (1 ≤ x.Group ∧ x.Group ≤ p.Groups)) t a b x { y with Group := x.Group }) := by
  rw [G11.eq_4]
  by_cases h : 1 ≤ x.Group
  · rw [dti h]; simp [h]
  rw [dfi h]; simp [h]
theorem g11_5 (p : T34) (n i : Int) (t : Sl T52) (a b : Int) (x y : T52) : G11 (.p5 p n i t a b x y) = G11 (.p2 p n i (decide (0 ≤ x.Slot ∧ x.Slot < p.Slots)) t a b x { y with Slot := x.Slot }) := by
  rw [G11.eq_5]
  by_cases h : 0 ≤ x.Slot
  · rw [dti h]; simp [h]
  rw [dfi h]; simp [h]
theorem and3 {α : Type} {a b c : Bool} {x y : α} : (if (a && b && c) = true then x else y) = if (b && a && c) = true then x else y := by rw [Bool.and_comm a b]
theorem g11_1 (p : T34) (n : Nat) (hn : n < 100000) (hn1 : n = (ls p.Code).length) (i : Nat) (hi : i < n) (x : T52) (hx : (ls p.Code)[i]? = some x) :
    G11 (.p1 p (n : Int) p.Code (n : Int) (i : Int)) = if (fit p x && ((x.Kind == 12) == decide (i + 1 = n))) = true then G11 (.p1 p (n : Int) p.Code (n : Int) ((i + 1 : Nat) : Int)) else some false := by
  have e : ((i : Int) == IntKind.wrap .i64 ((n : Int) - 1)) = decide (i + 1 = n) := by
    rw [wi _ (by omega) (by omega), Bool.eq_iff_iff, beq_iff_eq, decide_eq_true_eq]; omega
  rw [G11.eq_1, dti (by omega), ixs hx, sm, ← wn1 i (by omega), ← e]
  subst hn1
  unfold fit
  simp only [g11_3, g11_4, g11_5, g11_2]
  rcases kinds x.Kind with h | h | h | h | h | h | h | h | h | h | h | h | h
  case inr.inr.inr.inr.inr.inl =>
    simp (config := {decide := true}) only [h, if_true, if_false, Bool.true_and, true_or, or_true, or_false, false_or]
    by_cases h1 : 1 ≤ x.Group
    · by_cases h2 : x.Group ≤ p.Groups
      · by_cases h3 : x.Group ≤ x.Last
        · rw [dti h1, dti h2, dti h3]; simp [h1, h2, h3, Bool.and_comm, Bool.and_assoc, Bool.and_left_comm]
        rw [dti h1, dti h2, dfi h3]; simp [h1, h2, h3]
      rw [dti h1, dfi h2]; simp [h1, h2]
    rw [dfi h1]; simp [h1]
  all_goals first
    | (simp (config := {decide := true}) only [h, if_true, if_false, Bool.true_and, true_or, or_true, or_false, false_or]; done)
    | (simp (config := {decide := true}) only [h, if_true, if_false, Bool.true_and, true_or, or_true, or_false, false_or]; rw [and3]; done)
    | (obtain ⟨a1, a2, a3, a4, a5, a6, a7, a8, a9, b1, b2, b3⟩ := h
       have e1 : ∀ k : Int, x.Kind ≠ k → (x.Kind == k) = false := fun k h => by simpa using h
       simp (config := {decide := true}) only [e1 _ a1, e1 _ a2, e1 _ a3, e1 _ a4, e1 _ a5, e1 _ a6, e1 _ a7, e1 _ a8, e1 _ a9, e1 _ b1, e1 _ b2, e1 _ b3, a1, a2, a3, a4, a5, a6, a7, a8, a9, b1, b2, b3, if_false, or_self, Bool.false_and, Bool.false_eq_true])
    | skip
theorem g11 (p : T34) (hn : (ls p.Code).length < 100000) : ∀ (k i : Nat), i + k = (ls p.Code).length → G11 (.p1 p ((ls p.Code).length : Int) p.Code ((ls p.Code).length : Int) (i : Int)) = some (fits p i ((ls p.Code).drop i))
  | 0, i, h => by
    rw [G11.eq_1, dfi (by omega), List.drop_of_length_le (by omega)]; rfl
  | k + 1, i, h => by
    obtain ⟨x, hx⟩ := get_ex (ls p.Code) (i := i) (by omega)
    rw [g11_1 p _ hn rfl i (by omega) x hx, g11 p hn k (i + 1) (by omega), drop_cons hx, fits]
    cases fit p x && ((x.Kind == 12) == decide (i + 1 = (ls p.Code).length)) <;> rfl
theorem f11 (p : T34) : F11 p = some (rp p) := by
  unfold F11 rp
  by_cases h1 : p.Groups < 0
  · rw [dti h1, decide_eq_false (by omega)]; rfl
  rw [dfi h1]
  by_cases h2 : p.Groups > 99
  · rw [dti h2, decide_eq_false (by omega)]; rfl
  rw [dfi h2]
  by_cases h3 : p.Slots < 0
  · rw [dti h3, decide_eq_false (by omega)]; rfl
  rw [dfi h3]
  by_cases h4 : p.Slots > 16384
  · rw [dti h4, decide_eq_false (by omega)]; rfl
  rw [dfi h4]
  by_cases h5 : ((ls p.Code).length : Int) < 1
  · rw [dti h5, decide_eq_false (by omega)]; rfl
  rw [dfi h5]
  by_cases h6 : ((ls p.Code).length : Int) > 16384
  · rw [dti h6, decide_eq_false (by omega)]; rfl
  rw [dfi h6, decide_eq_true (by omega)]
  have := g11 p (by omega) (ls p.Code).length 0 (by omega)
  simpa using this
def hb (l : List T52) : Bool := l.any fun x => x.Kind == 9
theorem g60 (s : Sl T52) (hn : (ls s).length < 100000) : ∀ (k i : Nat), i + k = (ls s).length → ∃ r : Int, G60 (.p1 s ((ls s).length : Int) (i : Int)) = some r ∧ decide (r ≥ 0) = hb ((ls s).drop i)
  | 0, i, h => by
    rw [G60.eq_1, dfi (by omega), List.drop_of_length_le (by omega)]; exact ⟨_, rfl, rfl⟩
  | k + 1, i, h => by
    obtain ⟨x, hx⟩ := get_ex (ls s) (i := i) (by omega)
    obtain ⟨r, h1, h2⟩ := g60 s hn k (i + 1) (by omega)
    rw [G60.eq_1, dti (by omega), ixs hx, sm, F56, sm, drop_cons hx]
    by_cases e : x.Kind = 9
    · rw [if_pos (by simp [e])]
      exact ⟨_, rfl, by simp [hb, e]⟩
    rw [if_neg (by simp [e]), wn1 i (by omega), h1]
    exact ⟨_, rfl, by rw [h2]; simp [hb, e]⟩
theorem f42 (p : T34) (hn : (ls p.Code).length < 100000) : F42 p = some (hb (ls p.Code)) := by
  unfold F42 F55 F60
  obtain ⟨r, h1, h2⟩ := g60 p.Code hn (ls p.Code).length 0 (by omega)
  have h1' : G60 (.p1 p.Code ((ls p.Code).length : Int) 0) = some r := h1
  rw [h1', sm, sm, h2]; rfl
theorem rp_len {p : T34} (h : rp p = true) : 1 ≤ (ls p.Code).length ∧ (ls p.Code).length ≤ 16384 := by
  simp only [rp, Bool.and_eq_true, decide_eq_true_eq] at h
  exact ⟨h.1.2.2.2.2.1, h.1.2.2.2.2.2⟩
def flt (p : T34) : Int := if rp p = true then (if hb (ls p.Code) = true then 101 else 0) else 100
theorem f32 (p : T34) : F32 p = some (flt p) := by
  unfold F32 flt
  rw [f11, sm, bite]
  by_cases h : rp p = true
  · have := rp_len h
    rw [if_pos h, if_pos h, f42 p (by omega), sm]
    cases hb (ls p.Code) <;> rfl
  rw [if_neg h, if_neg h]
theorem fits_at (p : T34) : ∀ (l : List T52) (k i : Nat) (x : T52), fits p k l = true → l[i]? = some x → fit p x = true ∧ (x.Kind = 12 ↔ k + i + 1 = (ls p.Code).length)
  | [], k, i, x, _, h => by simp at h
  | y :: l, k, 0, x, hf, h => by
    simp at h
    subst h
    simp only [fits, Bool.and_eq_true, beq_iff_eq] at hf
    refine ⟨hf.1.1, ?_⟩
    have := hf.1.2
    rw [Bool.eq_iff_iff, decide_eq_true_eq, beq_iff_eq] at this
    simpa using this
  | y :: l, k, i + 1, x, hf, h => by
    simp only [fits, Bool.and_eq_true] at hf
    have := fits_at p l (k + 1) i x hf.2 (by simpa using h)
    rw [show k + (i + 1) + 1 = k + 1 + i + 1 by omega]
    exact this
theorem rp_at {p : T34} (h : rp p = true) {i : Nat} {x : T52} (hx : (ls p.Code)[i]? = some x) : fit p x = true ∧ (x.Kind = 12 ↔ i + 1 = (ls p.Code).length) := by
  simp only [rp, Bool.and_eq_true] at h
  have := fits_at p _ 0 i x h.2 hx
  simpa using this
end Go.Proofs.Ytjbafmnocopofaa
end
section
namespace Go.Proofs.Ytjbafmnocopofaa
open Go AW
set_option maxHeartbeats 4000000
inductive Okx (hi G S : Nat) : T52 → Prop
  | set (s : Arr 4 Int) : Okx hi G S (iSet s)
  | to (k : Int) (t : Nat) : k = 2 ∨ k = 3 → t ≤ hi → Okx hi G S (iTo k (t : Int))
  | gr (k g : Int) : k = 4 ∨ k = 5 ∨ k = 9 → 1 ≤ g → g ≤ (G : Int) → Okx hi G S (iGr k g)
  | cl (g l : Int) : 1 ≤ g → g ≤ l → l ≤ (G : Int) → Okx hi G S (iCl g l)
  | sl (k : Int) (s : Nat) : k = 7 ∨ k = 8 → s < S → Okx hi G S (iSl k (s : Int))
  | be (k : Int) : k = 10 ∨ k = 11 → Okx hi G S (ik k)
theorem Okx.mono {hi G S hi' G' S' : Nat} {x : T52} (h : Okx hi G S x) (h1 : hi ≤ hi') (h2 : G ≤ G') (h3 : S ≤ S') : Okx hi' G' S' x := by
  cases h with
  | set s => exact .set s
  | to k t a b => exact .to k t a (by omega)
  | gr k g a b c => exact .gr k g a b (by omega)
  | cl g l a b c => exact .cl g l a b (by omega)
  | sl k s a b => exact .sl k s a (by omega)
  | be k a => exact .be k a
def AllOk (hi G S : Nat) (l : List T52) : Prop := ∀ x ∈ l, Okx hi G S x
theorem AllOk.nil {hi G S : Nat} : AllOk hi G S [] := fun x h => by simp at h
theorem AllOk.cons {hi G S : Nat} {x : T52} {l : List T52} (h : Okx hi G S x) (h' : AllOk hi G S l) : AllOk hi G S (x :: l) := fun y hy => by
  rcases List.mem_cons.1 hy with rfl | hy
  · exact h
  exact h' y hy
theorem AllOk.app {hi G S : Nat} {l m : List T52} (h : AllOk hi G S l) (h' : AllOk hi G S m) : AllOk hi G S (l ++ m) := fun y hy => by
  rcases List.mem_append.1 hy with hy | hy
  · exact h y hy
  exact h' y hy
theorem AllOk.mono {hi G S hi' G' S' : Nat} {l : List T52} (h : AllOk hi G S l) (h1 : hi ≤ hi') (h2 : G ≤ G') (h3 : S ≤ S') : AllOk hi' G' S' l := fun x hx => (h x hx).mono h1 h2 h3
def Ak (b : Nat) (k : T27) : Prop := ∀ a fr, AllOk (a + sz k) (b + gcnt k) (fr + dep k) (cd k a fr)
theorem cdl_ok (P : ∀ k b, Ak b k ∨ True) : ∀ (l : List T27) (b : Nat), (∀ k ∈ l, ∀ b, good k b → Ak b k) → goodl l b → ∀ a fr, AllOk (a + szl l) (b + gcntl l) (fr + depl l) (cdl l a fr)
  | [], b, _, _, a, fr => by rw [cdl]; exact .nil
  | x :: l, b, h, hg, a, fr => by
    rw [goodl] at hg
    rw [cdl, szl, gcntl, depl]
    exact (h x (by simp) b hg.1 a fr |>.mono (by omega) (by omega) (by omega)).app ((cdl_ok P l (b + gcnt x) (fun k hk => h k (by simp [hk])) hg.2 (a + sz x) fr).mono (by omega) (by omega) (by omega))
theorem all_ok : ∀ (l : List T27) (b : Nat), (∀ k ∈ l, ∀ b, good k b → Ak b k) → goodl l b → ∀ (e a fr : Nat), a + szl l + 2 * (l.length - 1) ≤ e → AllOk e (b + gcntl l) (fr + depl l) (all l e a fr)
  | [], b, _, _, e, a, fr, he => by rw [all]; exact .nil
  | [x], b, h, hg, e, a, fr, he => by
    rw [goodl] at hg
    have e1 : szl [x] = sz x := by simp [szl]
    rw [e1] at he
    rw [all, if_pos (show ([] : List T27).isEmpty = true from rfl), gcntl, depl]
    exact (h x (by simp) b hg.1 a fr).mono (by omega) (by omega) (by omega)
  | x :: y :: l, b, h, hg, e, a, fr, he => by
    rw [goodl] at hg
    have e1 : szl (x :: y :: l) = sz x + szl (y :: l) := by rw [szl]
    have e2 : gcntl (x :: y :: l) = gcnt x + gcntl (y :: l) := by rw [gcntl]
    have e3 : depl (x :: y :: l) = max (dep x) (depl (y :: l)) := by rw [depl]
    simp only [List.length_cons] at he
    rw [all, if_neg (by simp), e2, e3]
    refine .cons (.to 2 _ (.inl rfl) (by omega)) (.app ((h x (by simp) b hg.1 (a + 1) fr).mono (by omega) (by omega) (by omega)) (.cons (.to 3 _ (.inr rfl) (by omega)) ?_))
    exact (all_ok (y :: l) (b + gcnt x) (fun k hk => h k (by simp at hk ⊢; exact .inr hk)) hg.2 e (a + sz x + 2) fr (by simp only [List.length_cons]; omega)).mono (by omega) (by omega) (by omega)
section
variable {k : T27} {b : Nat} (hA : Ak b k) (hk : Kd k) (hl : lh k = (glo b (gcnt k), ghi b (gcnt k)))
include hA hk hl
theorem rnd_ok (a fr : Nat) : AllOk (a + rsz k) (b + gcnt k) (fr + dep k) (rnd (cd k) (lh k) a fr) := by
  have hr := clr_of hk
  refine .app ?_ ((hA (a + (clr (lh k)).length) fr).mono (by omega) (by omega) (by omega))
  rw [hl]
  unfold clr glo ghi
  by_cases h0 : gcnt k = 0
  · rw [if_pos h0, if_neg (by simp)]; exact .nil
  rw [if_neg h0, if_neg h0, if_pos (show (b : Int) + 1 > 0 by omega)]
  exact .cons (.cl _ _ (by simp only; omega) (by simp only; omega) (by simp only; omega)) .nil
theorem frd_ok (a fr : Nat) : AllOk (a + rsz k + 2) (b + gcnt k) (fr + (dep k + 1)) (frd (cd k) (lh k) a fr) := by
  refine .cons (.sl 7 fr (.inl rfl) (by omega)) (.app ((rnd_ok hA hk hl (a + 1) (fr + 1)).mono (by omega) (by omega) (by omega)) (.cons (.sl 8 fr (.inr rfl) (by omega)) .nil))
theorem mins_ok (fr : Nat) : ∀ (m a : Nat), AllOk (a + m * rsz k) (b + gcnt k) (fr + dep k) (mins (cd k) (lh k) (rsz k) fr m a)
  | 0, a => by rw [mins]; exact .nil
  | m + 1, a => by
    rw [mins, Nat.add_mul, Nat.one_mul]
    exact .app ((rnd_ok hA hk hl a fr).mono (by omega) (by omega) (by omega)) ((mins_ok fr m (a + rsz k)).mono (by omega) (by omega) (by omega))
theorem opts_ok (fr e : Nat) : ∀ (m a : Nat), a + m * (rsz k + 3) ≤ e → AllOk e (b + gcnt k) (fr + (dep k + 1)) (opts (cd k) (lh k) (rsz k) fr e m a)
  | 0, a, h => by rw [opts]; exact .nil
  | m + 1, a, h => by
    rw [Nat.add_mul, Nat.one_mul] at h
    rw [opts]
    exact .cons (.to 2 e (.inl rfl) (by omega)) (.app ((frd_ok hA hk hl (a + 1) fr).mono (by omega) (by omega) (by omega)) (opts_ok fr e m (a + rsz k + 3) (by omega)))
theorem repc_ok (mn mx : Int) (h0 : 0 ≤ mn) (hm : mx = -1 ∨ mn ≤ mx) (a fr : Nat) : AllOk (a + (mn.toNat * rsz k + if mx = -1 then rsz k + 4 else (mx - mn).toNat * (rsz k + 3))) (b + gcnt k) (fr + (if mx = -1 ∨ mn < mx then dep k + 1 else if 0 < mn then dep k else 0)) (repc (cd k) (lh k) (rsz k) mn mx a fr) := by
  unfold repc
  refine .app ?_ ?_
  · by_cases hz : mn.toNat = 0
    · rw [hz, mins]; exact .nil
    refine (mins_ok hA hk hl fr mn.toNat a).mono (by omega) (by omega) ?_
    split
    · omega
    rw [if_pos (by omega)]; omega
  by_cases hx : mx = -1
  · rw [if_pos hx, if_pos hx, if_pos (.inl hx)]
    refine .cons (.to 2 _ (.inl rfl) (by omega)) (.app ((frd_ok hA hk hl (a + mn.toNat * rsz k + 1) fr).mono (by omega) (by omega) (by omega)) (.cons (.to 3 _ (.inr rfl) (by omega)) .nil))
  rw [if_neg hx, if_neg hx]
  by_cases hz : (mx - mn).toNat = 0
  · rw [hz, opts]; exact .nil
  rw [if_pos (by omega)]
  exact (opts_ok hA hk hl fr _ (mx - mn).toNat (a + mn.toNat * rsz k) (Nat.le_refl _)).mono (by omega) (by omega) (by omega)
end
theorem cd_ok : ∀ (n : T27) (b : Nat), cnt n ≤ 100000 → good n b → Ak b n := by
  intro n
  induction n using tree_ind with
  | h n ih =>
    intro b hc hg a fr
    have hcl := cnt_eq n
    have hgc := gcnt_eq n
    rw [good_eq] at hg
    have ih' : ∀ k ∈ ls n.Kids, ∀ b, good k b → Ak b k := fun k hk b hb => ih k hk b (by have := cnt_kid hk; omega) hb
    rw [cd_eq, dep_eq, sz_eq]
    rcases pl_kids hg.1.1 with ⟨h, hk⟩ | ⟨h, hm, hk⟩ | ⟨h, hk⟩ | ⟨h, hk⟩
    · rcases h with h | h
      · simp (config := {decide := true}) only [h, if_true, if_false, Nat.add_zero, Nat.zero_add] at hg hgc ⊢
        rw [hgc]
        exact cdl_ok (fun _ _ => .inr trivial) _ b ih' hg.2 a fr
      simp (config := {decide := true}) only [h, if_true, if_false, Nat.add_zero, Nat.zero_add] at hg hgc ⊢
      rw [hgc, ← Nat.add_assoc]
      exact all_ok _ b ih' hg.2 _ a fr (Nat.le_refl _)
    · obtain ⟨k, hk⟩ : ∃ k, ls n.Kids = [k] := List.length_eq_one_iff.1 hk
      have hkm : k ∈ ls n.Kids := by simp [hk]
      have hck := cnt_kid hkm
      simp (config := {decide := true}) only [h, if_true, if_false, Nat.add_zero, Nat.zero_add] at hg hgc ⊢
      rw [hk, goodl, goodl] at hg
      have hgk := hg.2.1
      have hkd : Kd k := ⟨compile k b (by omega) hgk, cd_len k b (by omega) hgk, (f38 (by omega) hgk).1, clr_len (by omega) hgk⟩
      have := repc_ok (ih' k hkm b hgk) hkd (f38 (by omega) hgk).2 n.Min n.Max (by omega) (by omega) a fr
      have e1 : szl [k] = sz k := by simp [szl]
      have e2 : gcntl [k] = gcnt k := by simp [gcntl]
      have e3 : depl [k] = dep k := by simp [depl]
      rw [hgc, hk, rpl, e1, e2, e3]
      exact this
    · obtain ⟨k, hk⟩ : ∃ k, ls n.Kids = [k] := List.length_eq_one_iff.1 hk
      have hkm : k ∈ ls n.Kids := by simp [hk]
      simp (config := {decide := true}) only [h, if_true, if_false, Nat.add_zero, Nat.zero_add] at hg hgc ⊢
      rw [hk, goodl, goodl] at hg
      have hgr := (hg.1.2.1 h).1
      have e1 : szl [k] = sz k := by simp [szl]
      have e2 : gcntl [k] = gcnt k := by simp [gcntl]
      have e3 : depl [k] = dep k := by simp [depl]
      rw [hgc, hk, chl, e1, e2, e3]
      exact .cons (.gr 4 _ (.inl rfl) (by omega) (by omega)) (.app ((ih' k hkm _ hg.2.1 (a + 1) fr).mono (by omega) (by omega) (by omega)) (.cons (.gr 5 _ (.inr (.inl rfl)) (by omega) (by omega)) .nil))
    rcases h with h | h | h | h | h <;> simp (config := {decide := true}) only [h, if_true, if_false]
    · exact .nil
    · exact .cons (.set _) .nil
    · have := hg.1.2.2 h
      exact .cons (.gr 9 _ (.inr (.inr rfl)) (by omega) (by omega)) .nil
    · exact .cons (.be 10 (.inl rfl)) .nil
    exact .cons (.be 11 (.inr rfl)) .nil
theorem gcnt_99 : ∀ (n : T27) (b : Nat), good n b → gcnt n = 0 ∨ b + gcnt n ≤ 99 := by
  intro n
  induction n using tree_ind with
  | h n ih =>
    intro b hg
    rw [good_eq] at hg
    rw [gcnt_eq]
    have key : ∀ (l : List T27) (b : Nat), (∀ k ∈ l, ∀ b, good k b → gcnt k = 0 ∨ b + gcnt k ≤ 99) → goodl l b → gcntl l = 0 ∨ b + gcntl l ≤ 99 := by
      intro l
      induction l with
      | nil => intro b _ _; left; rw [gcntl]
      | cons x l ihl =>
        intro b h hg
        rw [goodl] at hg
        have h1 := h x (by simp) b hg.1
        have h2 := ihl (b + gcnt x) (fun k hk => h k (by simp [hk])) hg.2
        rw [gcntl]; omega
    have := key _ _ ih hg.2
    by_cases h6 : n.Kind = 6
    · have h99 := (hg.1.2.1 h6).2
      rw [if_pos h6] at this ⊢; omega
    rw [if_neg h6] at this ⊢; omega
theorem dep_sz : ∀ (n : T27) (b : Nat), good n b → dep n ≤ sz n := by
  intro n
  induction n using tree_ind with
  | h n ih =>
    intro b hg
    rw [good_eq] at hg
    have ih' : ∀ k ∈ ls n.Kids, dep k ≤ sz k := fun k hk => by
      obtain ⟨b', hb'⟩ := goodl_mem hg.2 hk
      exact ih k hk b' hb'
    have key : ∀ (l : List T27), (∀ k ∈ l, dep k ≤ sz k) → depl l ≤ szl l := by
      intro l
      induction l with
      | nil => intro _; rw [depl, szl]; omega
      | cons x l ihl => intro h; have := h x (by simp); have := ihl fun k hk => h k (by simp [hk]); rw [depl, szl]; omega
    have hd := key _ ih'
    rw [dep_eq, sz_eq]
    rcases pl_kids hg.1.1 with ⟨h, hk⟩ | ⟨h, hm, hk⟩ | ⟨h, hk⟩ | ⟨h, hk⟩
    · rcases h with h | h <;> simp (config := {decide := true}) only [h, if_true, if_false] <;> omega
    · simp (config := {decide := true}) only [h, if_true, if_false]
      generalize (if gcntl (ls n.Kids) = 0 then 0 else 1) = c
      by_cases hx : n.Max = -1
      · rw [if_pos (.inl hx), if_pos hx]; omega
      rw [if_neg hx]
      by_cases h1 : n.Min < n.Max
      · rw [if_pos (.inr h1)]
        have : szl (ls n.Kids) + c + 3 ≤ (n.Max - n.Min).toNat * (szl (ls n.Kids) + c + 3) := Nat.le_mul_of_pos_left _ (by omega)
        omega
      rw [if_neg (by omega)]
      by_cases h2 : 0 < n.Min
      · rw [if_pos h2]
        have : szl (ls n.Kids) + c ≤ n.Min.toNat * (szl (ls n.Kids) + c) := Nat.le_mul_of_pos_left _ (by omega)
        omega
      rw [if_neg h2]; omega
    · simp (config := {decide := true}) only [h, if_true, if_false]; omega
    have : depl (ls n.Kids) = 0 := by rw [List.eq_nil_of_length_eq_zero hk, depl]
    rcases h with h | h | h | h | h <;> simp (config := {decide := true}) only [h, if_true, if_false] <;> omega
theorem okx_fit {p : T34} {hi G S : Nat} {x : T52} (h : Okx hi G S x) (h1 : hi < (ls p.Code).length) (h2 : p.Groups = (G : Int)) (h3 : p.Slots = (S : Int)) : fit p x = true ∧ x.Kind ≠ 12 := by
  unfold fit
  cases h with
  | set s => exact ⟨by simp, by show (1 : Int) ≠ 12; decide⟩
  | to k t a b => rcases a with rfl | rfl <;> refine ⟨by simp; omega, by simp⟩
  | gr k g a b c => rcases a with rfl | rfl | rfl <;> refine ⟨by simp; omega, by simp⟩
  | cl g l a b c => exact ⟨by simp; omega, by show (6 : Int) ≠ 12; decide⟩
  | sl k s a b => rcases a with rfl | rfl <;> refine ⟨by simp; omega, by simp⟩
  | be k a => rcases a with rfl | rfl <;> refine ⟨by simp, by simp⟩
theorem fits_app {p : T34} : ∀ (l : List T52) (i : Nat), (∀ x ∈ l, fit p x = true ∧ x.Kind ≠ 12) → i + l.length + 1 = (ls p.Code).length → fits p i (l ++ [ik 12]) = true
  | [], i, _, h => by
    have : fit p (ik 12) = true := by unfold fit; simp
    rw [List.nil_append, fits, fits, this]
    simp at h
    simp [h]
  | x :: l, i, hx, h => by
    obtain ⟨h1, h2⟩ := hx x (by simp)
    simp only [List.length_cons] at h
    rw [List.cons_append, fits, h1, fits_app l (i + 1) (fun y hy => hx y (by simp [hy])) (by omega), decide_eq_false (by omega)]
    simp [h2]
theorem rp_prg {n : T27} (hg : good n 0) (hc : cnt n ≤ 8192) (hs : sz n < 16384) : rp (prg n) = true := by
  have hl := cd_len n 0 (by omega) hg 0 0
  have hok := cd_ok n 0 (by omega) hg 0 0
  have h99 := gcnt_99 n 0 hg
  have hd := dep_sz n 0 hg
  have hcode : ls (prg n).Code = cd n 0 0 ++ [ik 12] := rfl
  have hlen : (ls (prg n).Code).length = sz n + 1 := by rw [hcode, List.length_append, hl]; rfl
  unfold rp
  rw [hlen, decide_eq_true (by show 0 ≤ ((gcnt n : Nat) : Int) ∧ ((gcnt n : Nat) : Int) ≤ 99 ∧ 0 ≤ ((dep n : Nat) : Int) ∧ ((dep n : Nat) : Int) ≤ 16384 ∧ _; omega), hcode, Bool.true_and]
  apply fits_app
  · intro x hx
    exact okx_fit (hok x hx) (by rw [hlen]; omega) (by show ((gcnt n : Nat) : Int) = _; omega) (by show ((dep n : Nat) : Int) = _; omega)
  rw [hl, hlen]; omega
end Go.Proofs.Ytjbafmnocopofaa
end
section
namespace Go.Proofs.Ytjbafmnocopofaa
open Go AW
set_option maxHeartbeats 4000000
theorem nat_of {z : Int} (h : 0 ≤ z) : ∃ n : Nat, z = n := ⟨z.toNat, by omega⟩
theorem nodup_len : ∀ (N : Nat) (L : List Nat), L.Nodup → (∀ x ∈ L, x < N) → L.length ≤ N
  | 0, L, _, h => by
    cases L with
    | nil => simp
    | cons a l => exact absurd (h a (by simp)) (by omega)
  | N + 1, L, hn, h => by
    by_cases hm : N ∈ L
    · have h1 := nodup_len N (L.erase N) (hn.erase N) (fun x hx => by
        have := (List.Nodup.mem_erase_iff hn).1 hx
        have := h x this.2
        omega)
      have := List.length_erase_of_mem hm
      omega
    have := nodup_len N L hn (fun x hx => by
      have := h x hx
      have : x ≠ N := fun e => hm (e ▸ hx)
      omega)
    omega
def addN (L : List Nat) (i : Nat) : List Nat := if i ∈ L then L else L ++ [i]
theorem mem_addN (L : List Nat) (i j : Nat) : j ∈ addN L i ↔ j ∈ L ∨ j = i := by
  unfold addN
  split
  · constructor
    · exact .inl
    rintro (h | rfl) <;> assumption
  simp
theorem addN_pre (L : List Nat) (i : Nat) : L <+: addN L i := by
  unfold addN
  split
  · exact List.prefix_refl _
  exact List.prefix_append _ _
theorem addsN_pre (l : List Nat) : ∀ L : List Nat, L <+: l.foldl addN L := by
  induction l with
  | nil => exact fun L => List.prefix_refl _
  | cons a l ih => exact fun L => (addN_pre L a).trans (ih _)
theorem mem_addsN (l : List Nat) : ∀ (L : List Nat) (j : Nat), j ∈ l.foldl addN L ↔ j ∈ L ∨ j ∈ l := by
  induction l with
  | nil => simp
  | cons a l ih => intro L j; simp only [List.foldl_cons, ih, mem_addN, List.mem_cons, or_assoc]
def ints (L : List Nat) : List Int := L.map fun (n : Nat) => (n : Int)
structure Mk (N : Nat) (s : T92) (L : List Nat) : Prop where
  len : ∃ b, s.in_ = some b ∧ b.length = N ∧ ∀ j, j < N → b[j]? = some (decide (j ∈ L))
  lst : s.list = so (ints L)
  nd : L.Nodup
  lt : ∀ j ∈ L, j < N
theorem f58 {N : Nat} {s : T92} {L : List Nat} (hN : N ≤ 20000) (h : Mk N s L) (i : Nat) (hi : i < N) : ∃ b s', F58 s (i : Int) = some (b, s') ∧ Mk N s' (addN L i) := by
  obtain ⟨⟨b, e, hl, hb⟩, hs, hn, hlt⟩ := h
  have hix : ix (ls s.in_) (i : Int) = some (decide (i ∈ L)) := by rw [e]; exact ixs (hb i hi)
  unfold F58 addN
  rw [hix, sm]
  by_cases hm : i ∈ L
  · rw [dti hm, if_pos hm]
    exact ⟨_, _, rfl, ⟨b, e, hl, hb⟩, hs, hn, hlt⟩
  have hL := nodup_len N L hn hlt
  rw [dfi hm, sm, if_neg hm, hs, ls_so, if_pos (by simp [ints, ls]; omega)]
  refine ⟨_, _, rfl, ⟨b.set i true, by simp [e, vset], by simp [hl], fun j hj => ?_⟩, ?_, ?_, ?_⟩
  · rw [List.getElem?_set]
    by_cases hij : i = j
    · subst hij; simp [hl, hj]
    have h2 : decide (j ∈ L) = decide (j ∈ L ++ [i]) := by
      congr 1; apply propext; simp; intro h; exact absurd h.symm hij
    rw [if_neg hij, hb j hj, h2]
  · show sapp (so (ints L)) _ = _
    rw [sapp_so]
    simp [ints, ls]
  · rw [List.nodup_append]
    exact ⟨hn, by simp, by simp; rintro a ha rfl; exact hm ha⟩
  intro j hj
  rcases List.mem_append.1 hj with h | h
  · exact hlt j h
  simp at h; omega
def eps (C : List T52) (len q i : Nat) : List Nat :=
  match C[i]? with
  | none => []
  | some x =>
    if x.Kind = 1 then [] else if x.Kind = 12 then [] else if x.Kind = 2 then [i + 1, x.To.toNat] else if x.Kind = 3 then [x.To.toNat]
    else if x.Kind = 10 then (if q = 0 then [i + 1] else []) else if x.Kind = 11 then (if q = len then [i + 1] else []) else [i + 1]
theorem fit_to {p : T34} {x : T52} (h : fit p x = true) (hk : x.Kind = 2 ∨ x.Kind = 3) : 0 ≤ x.To ∧ x.To < ((ls p.Code).length : Int) := by
  unfold fit at h
  have h1 : x.Kind ≠ 1 := by omega
  simp only [h1, if_false, hk, if_true, Bool.and_eq_true, decide_eq_true_eq] at h
  exact h.2
theorem eps_lt {p : T34} (hr : rp p = true) {len q i j : Nat} (h : j ∈ eps (ls p.Code) len q i) : j < (ls p.Code).length := by
  unfold eps at h
  split at h
  · simp at h
  rename_i x hx
  obtain ⟨hf, hl⟩ := rp_at hr hx
  have hi := ge_lt hx
  have hne : x.Kind ≠ 12 → i + 1 < (ls p.Code).length := fun h => by
    have : i + 1 ≠ (ls p.Code).length := fun e => h (hl.2 e)
    omega
  split at h
  · simp at h
  split at h
  · simp at h
  rename_i h12
  have := hne h12
  split at h
  · rename_i h2
    have := fit_to hf (.inl h2)
    simp at h
    omega
  split at h
  · rename_i h3
    have := fit_to hf (.inr h3)
    simp at h
    omega
  split at h
  · split at h <;> simp at h; omega
  split at h
  · split at h <;> simp at h; omega
  simp at h; omega
variable {σ : Type}
theorem g57_step {p : T34} (hr : rp p = true) {Y : Int → σ → Option (Bool × σ)} {q : Nat} {text : Str} {s : T92} {L : List Nat} (hm : Mk (ls p.Code).length s L) {k i : Nat} (hk : L[k]? = some i) {z z' : σ} (hY : Y (i : Int) z = some (true, z')) :
    ∃ s', G57 Y (.p2 p (q : Int) text (k : Int) z s) = G57 Y (.p2 p (q : Int) text ((k + 1 : Nat) : Int) z' s') ∧ Mk (ls p.Code).length s' ((eps (ls p.Code) text.length q i).foldl addN L) := by
  have hlen := rp_len hr
  have hL := nodup_len _ L hm.nd hm.lt
  have hkl := ge_lt hk
  have hi := hm.lt i (List.mem_of_getElem? hk)
  obtain ⟨x, hx⟩ := get_ex (ls p.Code) hi
  have hix : ix (ls s.list) (k : Int) = some (i : Int) := by rw [hm.lst, ls_so]; exact ixs (by simp [ints, hk])
  have e1 : ∀ s' : T92, G57 Y (.p2 p (q : Int) text (IntKind.wrap .i64 ((k : Int) + 1)) z' s') = G57 Y (.p2 p (q : Int) text ((k + 1 : Nat) : Int) z' s') := fun s' => by rw [wn1 k (by omega)]
  have e2 : IntKind.wrap .i64 ((i : Int) + 1) = ((i + 1 : Nat) : Int) := wn1 i (by omega)
  have he := fun j => @eps_lt p hr text.length q i j
  rw [G57.eq_2, dti (by rw [hm.lst, ls_so]; simp [ints]; omega), hix, sm, hY, sm, if_neg (by simp), ixs hx, sm]
  simp only [e1, e2]
  unfold eps at he ⊢
  simp only [hx] at he ⊢
  by_cases h1 : x.Kind = 1
  · rw [eti h1, if_pos h1]; exact ⟨s, rfl, hm⟩
  rw [efi h1, if_neg h1]
  rw [if_neg h1] at he
  by_cases h12 : x.Kind = 12
  · rw [eti h12, if_pos h12]; exact ⟨s, rfl, hm⟩
  rw [efi h12, if_neg h12]
  rw [if_neg h12] at he
  by_cases h2 : x.Kind = 2
  · rw [eti h2, if_pos h2]
    rw [if_pos h2] at he
    obtain ⟨b1, s1, f1, m1⟩ := f58 (by omega) hm (i + 1) (he _ (by simp))
    obtain ⟨t, ht⟩ := nat_of (fit_to (rp_at hr hx).1 (.inl h2)).1
    obtain ⟨b2, s2, f2, m2⟩ := f58 (by omega) m1 t (he _ (by simp [ht]))
    rw [f1, sm, ht, f2, sm]
    exact ⟨s2, rfl, by simpa [ht] using m2⟩
  rw [efi h2, if_neg h2]
  rw [if_neg h2] at he
  by_cases h3 : x.Kind = 3
  · rw [eti h3, if_pos h3]
    rw [if_pos h3] at he
    obtain ⟨t, ht⟩ := nat_of (fit_to (rp_at hr hx).1 (.inr h3)).1
    obtain ⟨b2, s2, f2, m2⟩ := f58 (by omega) hm t (he _ (by simp [ht]))
    rw [ht, f2, sm]
    exact ⟨s2, rfl, by simpa [ht] using m2⟩
  rw [efi h3, if_neg h3]
  rw [if_neg h3] at he
  by_cases h10 : x.Kind = 10
  · rw [eti h10, if_pos h10]
    rw [if_pos h10] at he
    by_cases hq : q = 0
    · rw [if_pos hq] at he ⊢
      obtain ⟨b1, s1, f1, m1⟩ := f58 (by omega) hm (i + 1) (he _ (by simp))
      rw [eti (by omega), f1, sm]
      exact ⟨s1, rfl, m1⟩
    rw [if_neg hq, efi (by omega)]; exact ⟨s, rfl, hm⟩
  rw [efi h10, if_neg h10]
  rw [if_neg h10] at he
  by_cases h11 : x.Kind = 11
  · rw [eti h11, if_pos h11]
    rw [if_pos h11] at he
    by_cases hq : q = text.length
    · rw [if_pos hq] at he ⊢
      obtain ⟨b1, s1, f1, m1⟩ := f58 (by omega) hm (i + 1) (he _ (by simp))
      rw [eti (by omega), f1, sm]
      exact ⟨s1, rfl, m1⟩
    rw [if_neg hq, efi (by omega)]; exact ⟨s, rfl, hm⟩
  rw [efi h11, if_neg h11]
  rw [if_neg h11] at he
  obtain ⟨b1, s1, f1, m1⟩ := f58 (by omega) hm (i + 1) (he _ (by simp))
  rw [f1, sm]
  exact ⟨s1, rfl, m1⟩
inductive Rch (C : List T52) (len q : Nat) (B : Nat → Prop) : Nat → Prop
  | base {j : Nat} : B j → Rch C len q B j
  | step {i j : Nat} : Rch C len q B i → j ∈ eps C len q i → Rch C len q B j
theorem g57_2 {p : T34} (hr : rp p = true) {Y : Int → σ → Option (Bool × σ)} {y : Nat → σ → σ} {P : Nat → σ → Prop} (hY : ∀ k i z, k < (ls p.Code).length → i < (ls p.Code).length → P k z → Y (i : Int) z = some (true, y i z) ∧ P (k + 1) (y i z)) {q : Nat} {text : Str} {B : Nat → Prop} :
    ∀ (m k : Nat) (L : List Nat) (s : T92) (z : σ), m + k = (ls p.Code).length → Mk (ls p.Code).length s L → k ≤ L.length → P k z → (∀ j ∈ L, Rch (ls p.Code) text.length q B j) → (∀ j, B j → j ∈ L) → (∀ t i, t < k → L[t]? = some i → ∀ j ∈ eps (ls p.Code) text.length q i, j ∈ L) →
    ∃ Lf, L <+: Lf ∧ Lf.Nodup ∧ (∀ j, j ∈ Lf ↔ Rch (ls p.Code) text.length q B j) ∧ G57 Y (.p2 p (q : Int) text (k : Int) z s) = some ((Lf.drop k).foldl (fun z i => y i z) z) ∧ P Lf.length ((Lf.drop k).foldl (fun z i => y i z) z) := by
  have hlen := rp_len hr
  have done : ∀ (k : Nat) (L : List Nat) (s : T92) (z : σ), Mk (ls p.Code).length s L → k = L.length → P k z → (∀ j ∈ L, Rch (ls p.Code) text.length q B j) → (∀ j, B j → j ∈ L) → (∀ t i, t < k → L[t]? = some i → ∀ j ∈ eps (ls p.Code) text.length q i, j ∈ L) →
    ∃ Lf, L <+: Lf ∧ Lf.Nodup ∧ (∀ j, j ∈ Lf ↔ Rch (ls p.Code) text.length q B j) ∧ G57 Y (.p2 p (q : Int) text (k : Int) z s) = some ((Lf.drop k).foldl (fun z i => y i z) z) ∧ P Lf.length ((Lf.drop k).foldl (fun z i => y i z) z) := by
    intro k L s z hm hk hP h1 h2 h3
    refine ⟨L, List.prefix_refl _, hm.nd, fun j => ⟨h1 j, fun h => ?_⟩, ?_, ?_⟩
    · induction h with
      | base h => exact h2 _ h
      | step h e ih =>
        obtain ⟨t, ht⟩ := List.getElem?_of_mem ih
        exact h3 t _ (by have := ge_lt ht; omega) ht _ e
    · rw [G57.eq_2, dfi (by rw [hm.lst, ls_so]; simp [ints]; omega), List.drop_of_length_le (by omega)]; rfl
    rw [List.drop_of_length_le (by omega)]; exact hk ▸ hP
  intro m
  induction m with
  | zero =>
    intro k L s z hmk hm hk hP h1 h2 h3
    have := nodup_len _ L hm.nd hm.lt
    exact done k L s z hm (by omega) hP h1 h2 h3
  | succ m ih =>
    intro k L s z hmk hm hk hP h1 h2 h3
    by_cases hkl : k = L.length
    · exact done k L s z hm hkl hP h1 h2 h3
    obtain ⟨i, hi⟩ := get_ex L (i := k) (by omega)
    have hil := hm.lt i (List.mem_of_getElem? hi)
    have hLl := nodup_len _ L hm.nd hm.lt
    obtain ⟨y1, y2⟩ := hY k i z (by omega) hil hP
    obtain ⟨s', e, hm'⟩ := g57_step hr (q := q) (text := text) hm hi y1
    have hpre := addsN_pre (eps (ls p.Code) text.length q i) L
    have hll := hpre.length_le
    obtain ⟨Lf, l1, l2, l3, l4, l5⟩ := ih (k + 1) _ s' _ (by omega) hm' (by omega) y2
      (fun j hj => by
        rcases (mem_addsN _ _ _).1 hj with h | h
        · exact h1 j h
        exact .step (h1 i (List.mem_of_getElem? hi)) h)
      (fun j hj => (mem_addsN _ _ _).2 (.inl (h2 j hj)))
      (fun t i' ht hti j hj => by
        rw [mem_addsN]
        have hL : L[t]? = some i' := by
          obtain ⟨r, hr⟩ := hpre
          rw [← hr, List.getElem?_append_left (by omega)] at hti
          exact hti
        by_cases htk : t = k
        · subst htk
          rw [hi] at hL; cases hL
          exact .inr hj
        exact .inl (h3 t i' (by omega) hL j hj))
    have hf : Lf.drop k = i :: Lf.drop (k + 1) := by
      apply drop_cons
      obtain ⟨r, hr⟩ := hpre.trans l1
      rw [← hr, List.getElem?_append_left (by omega)]
      exact hi
    refine ⟨Lf, hpre.trans l1, l2, l3, ?_, ?_⟩
    · rw [e, l4, hf]; rfl
    rw [hf]; exact l5
theorem g57_1 {p : T34} (hr : rp p = true) {Y : Int → σ → Option (Bool × σ)} {q : Nat} {text : Str} (A : List Nat) (hA : ∀ a ∈ A, a < (ls p.Code).length) (hAl : A.length ≤ 100000000) (z : σ) :
    ∀ (m t : Nat) (L : List Nat) (s : T92), m + t = A.length → Mk (ls p.Code).length s L → (∀ j, j ∈ L ↔ j ∈ A.take t) →
    ∃ s' L', Mk (ls p.Code).length s' L' ∧ (∀ j, j ∈ L' ↔ j ∈ A) ∧ G57 Y (.p1 p (q : Int) text (so (ints A)) (A.length : Int) (t : Int) z s) = G57 Y (.p2 p (q : Int) text 0 z s')
  | 0, t, L, s, h, hm, hj => by
    rw [G57.eq_1, dfi (by omega)]
    exact ⟨s, L, hm, fun j => by rw [hj, List.take_of_length_le (by omega)], rfl⟩
  | m + 1, t, L, s, h, hm, hj => by
    have hlen := rp_len hr
    obtain ⟨a, ha⟩ := get_ex A (i := t) (by omega)
    obtain ⟨b, s1, f1, m1⟩ := f58 (by omega) hm a (hA a (List.mem_of_getElem? ha))
    rw [G57.eq_1, dti (by omega), ls_so, ixs (c := (a : Int)) (by simp [ints, ha]), sm, f1, sm, wn1 t (by omega)]
    exact g57_1 hr A hA hAl z m (t + 1) _ s1 (by omega) m1 fun j => by rw [mem_addN, hj, take_snoc ha]; simp
theorem f57 {p : T34} (hr : rp p = true) {Y : Int → σ → Option (Bool × σ)} {y : Nat → σ → σ} {P : Nat → σ → Prop} (hY : ∀ k i z, k < (ls p.Code).length → i < (ls p.Code).length → P k z → Y (i : Int) z = some (true, y i z) ∧ P (k + 1) (y i z)) (q : Nat) (text : Str) (A : List Nat) (hA : ∀ a ∈ A, a < (ls p.Code).length) (hAl : A.length ≤ 100000000) (z : σ) (hP : P 0 z) :
    ∃ Lf : List Nat, Lf.Nodup ∧ (∀ j, j ∈ Lf ↔ Rch (ls p.Code) text.length q (· ∈ A) j) ∧ F57 Y p (so (ints A)) (q : Int) text z = some (Lf.foldl (fun z i => y i z) z) ∧ P Lf.length (Lf.foldl (fun z i => y i z) z) := by
  have hlen := rp_len hr
  unfold F57
  rw [if_pos (by omega)]
  have hm : Mk (ls p.Code).length { in_ := some (List.replicate (Int.toNat ((ls p.Code).length : Int)) false), list := none } [] := by
    refine ⟨⟨_, rfl, by simp, fun j hj => by simp [List.getElem?_replicate, hj]⟩, rfl, by simp, by simp⟩
  obtain ⟨s', L', m', h1, h2⟩ := g57_1 hr (Y := Y) (q := q) (text := text) A hA hAl z A.length 0 [] _ (by omega) hm (by simp)
  have h2' : G57 Y (.p1 p (q : Int) text (so (ints A)) ((ls (so (ints A))).length : Int) 0 z { in_ := some (List.replicate (Int.toNat ((ls p.Code).length : Int)) false), list := none }) = G57 Y (.p2 p (q : Int) text 0 z s') := by
    rw [ls_so, show (ints A).length = A.length by simp [ints]]; exact h2
  rw [h2']
  obtain ⟨Lf, l1, l2, l3, l4, l5⟩ := g57_2 hr hY (q := q) (text := text) (B := (· ∈ A)) (ls p.Code).length 0 L' s' z (by omega) m' (by omega) hP (fun j hj => .base ((h1 j).1 hj)) (fun j hj => (h1 j).2 hj) (fun t i ht => by omega)
  exact ⟨Lf, l2, l3, by simpa using l4, by simpa using l5⟩
end Go.Proofs.Ytjbafmnocopofaa
end
section
namespace Go.Proofs.Ytjbafmnocopofaa
open Go AW
set_option maxHeartbeats 4000000
theorem div64 : ∀ n : Fin 256, IntKind.wrap .u8 (Int.tdiv (n.val : Int) 64) = ((n.val / 64 : Nat) : Int) ∧ Int.tmod (n.val : Int) 64 = ((n.val % 64 : Nat) : Int) := by decide +kernel
def hasB (s : Arr 4 Int) (b : UInt8) : Bool := andI .u64 (shrI .u64 (s.l.getD (b.toNat / 64) 0) ((b.toNat % 64 : Nat) : Int)) 1 == 1
theorem f44 (s : Arr 4 Int) (b : UInt8) : F44 s (b.toNat : Int) = some (hasB s b) := by
  have hb : b.toNat < 256 := b.toNat_lt
  obtain ⟨h1, h2⟩ := div64 ⟨b.toNat, hb⟩
  simp only at h1 h2
  have hl := s.h
  obtain ⟨v, hv⟩ := get_ex s.l (i := b.toNat / 64) (by omega)
  unfold F44 hasB
  rw [h1, h2, if_pos (by omega), ixs hv, sm, if_pos (by omega)]
  simp [List.getD, hv]
inductive Cf (C : List T52) (s : Str) (fr : Nat) : Nat → Nat → Prop
  | start : Cf C s fr fr 0
  | eps {q i j : Nat} : Cf C s fr q i → j ∈ eps C s.length q i → Cf C s fr q j
  | chr {q i : Nat} {x : T52} {b : UInt8} : Cf C s fr q i → C[i]? = some x → x.Kind = 1 → s[q]? = some b → hasB x.Set b = true → Cf C s fr (q + 1) (i + 1)
def Base (C : List T52) (s : Str) (fr q j : Nat) : Prop := (q = fr ∧ j = 0) ∨ ∃ q' i x b, q = q' + 1 ∧ j = i + 1 ∧ Cf C s fr q' i ∧ C[i]? = some x ∧ x.Kind = 1 ∧ s[q']? = some b ∧ hasB x.Set b = true
theorem cf_rch {C : List T52} {s : Str} {fr q j : Nat} : Cf C s fr q j ↔ Rch C s.length q (Base C s fr q) j := by
  constructor
  · intro h
    induction h with
    | start => exact .base (.inl ⟨rfl, rfl⟩)
    | eps _ e ih => exact .step ih e
    | chr h h1 h2 h3 h4 _ => exact .base (.inr ⟨_, _, _, _, rfl, rfl, h, h1, h2, h3, h4⟩)
  intro h
  induction h with
  | base h =>
    rcases h with ⟨rfl, rfl⟩ | ⟨q', i, x, b, rfl, rfl, h, h1, h2, h3, h4⟩
    · exact .start
    exact .chr h h1 h2 h3 h4
  | step _ e ih => exact .eps ih e
open Classical in
noncomputable def acc (C : List T52) (s : Str) (fr q : Nat) : Bool := decide (Cf C s fr q (C.length - 1))
noncomputable def endsF (C : List T52) (s : Str) (fr q : Nat) : List Int := ((List.range' q (s.length + 1 - q)).filter (acc C s fr)).map fun (n : Nat) => (n : Int)
theorem filter_one : ∀ {l : List Nat}, l.Nodup → ∀ a : Nat, l.filter (fun i => decide (i = a)) = if a ∈ l then [a] else []
  | [], _, a => by simp
  | x :: l, h, a => by
    rw [List.nodup_cons] at h
    have ih := filter_one h.2 a
    by_cases e : x = a
    · subst e
      rw [List.filter_cons_of_pos (by simp), ih, if_neg h.1, if_pos (by simp)]
    rw [List.filter_cons_of_neg (by simp [e]), ih]
    have e' : a ≠ x := fun h => e h.symm
    simp [e']
def hit (C : List T52) (s : Str) (q i : Nat) : Bool := match C[i]?, s[q]? with
  | some x, some b => x.Kind == 1 && hasB x.Set b
  | _, _ => false
theorem hit_ne {C : List T52} {s : Str} {q i : Nat} {x : T52} (hx : C[i]? = some x) (h : x.Kind ≠ 1) : ¬ hit C s q i = true := by
  unfold hit
  have : (x.Kind == 1) = false := by simpa using h
  cases e : s[q]? <;> simp [hx, this]
theorem hit_no {C : List T52} {s : Str} {q i : Nat} (h : s.length ≤ q) : ¬ hit C s q i = true := by
  unfold hit
  have : s[q]? = none := by simp; omega
  cases e : C[i]? <;> simp [this]
theorem hit_is {C : List T52} {s : Str} {q i : Nat} {x : T52} {b : UInt8} (hx : C[i]? = some x) (h : x.Kind = 1) (hb : s[q]? = some b) : hit C s q i = hasB x.Set b := by
  simp [hit, hx, hb, h]
abbrev Zz := (Sl Int) × Int × (Sl Int) × Nat
def yst (N : Nat) (C : List T52) (s : Str) (q i : Nat) (z : Zz) : Zz :=
  (if i + 1 = N then sapp z.1 [(q : Int)] else z.1, z.2.1, if hit C s q i = true then sapp z.2.2.1 [((i + 1 : Nat) : Int)] else z.2.2.1, z.2.2.2)
structure Pz (q base k : Nat) (z : Zz) : Prop where
  f : z.2.2.2 = 0
  p : z.2.1 = (q : Int)
  o : (ls z.1).length ≤ base + k
  n : (ls z.2.2.1).length ≤ k
theorem b33 {p : T34} (hr : rp p = true) {s : Str} (hs : s.length ≤ 1000000000) {q base k : Nat} (hb : base ≤ 1000000000) (hk : k < (ls p.Code).length) {z : Zz} (hP : Pz q base k z) {i : Nat} (hi : i < (ls p.Code).length) (t6 now : Sl Int) (t24 : T34) (a2 : Sl Int) (a3 : Int) (a4 : Str) :
    B33_1 p s t6 now t24 a2 a3 a4 (i : Int) z = some (true, yst (ls p.Code).length (ls p.Code) s q i z) ∧ Pz q base (k + 1) (yst (ls p.Code).length (ls p.Code) s q i z) := by
  have hlen := rp_len hr
  obtain ⟨z1, z2, z3, z4⟩ := z
  obtain ⟨h1, h2, h3, h4⟩ := hP
  simp only at h1 h2 h3 h4
  subst h1; subst h2
  obtain ⟨x, hx⟩ := get_ex (ls p.Code) hi
  obtain ⟨hf, h12⟩ := rp_at hr hx
  have pz : ∀ (o n : Sl Int), (ls o).length ≤ (ls z1).length + 1 → (ls n).length ≤ (ls z3).length + 1 → Pz q base (k + 1) (o, (q : Int), n, 0) := fun o n h h' => ⟨rfl, rfl, by show (ls o).length ≤ _; omega, by show (ls n).length ≤ _; omega⟩
  unfold B33_1 yst
  simp only
  rw [if_pos trivial, ixs hx, sm]
  by_cases e : x.Kind = 12
  · have hN := h12.1 e
    have hh := hit_ne (s := s) (q := q) hx (show x.Kind ≠ 1 by omega)
    rw [eti e, if_pos (by simp [ls]; unfold ls at h3; omega), if_pos hN, if_neg hh]
    exact ⟨rfl, pz _ _ (by rw [ls_sapp]; simp) (by omega)⟩
  have hN : i + 1 ≠ (ls p.Code).length := fun h => e (h12.2 h)
  rw [efi e, if_neg hN]
  by_cases e1 : x.Kind = 1
  · rw [eti e1]
    by_cases hq : q < s.length
    · obtain ⟨b, hb'⟩ := get_ex s hq
      rw [dti (by omega), ixs hb', sm, f44, sm, hit_is hx e1 hb']
      by_cases hh : hasB x.Set b = true
      · rw [if_pos hh, if_pos hh, if_pos (by simp [ls]; unfold ls at h4; omega), wn1 i (by omega)]
        exact ⟨rfl, pz _ _ (by omega) (by rw [ls_sapp]; simp)⟩
      rw [if_neg hh, if_neg hh]
      exact ⟨rfl, pz _ _ (by omega) (by omega)⟩
    rw [dfi (by omega), if_neg (hit_no (by omega))]
    exact ⟨rfl, pz _ _ (by omega) (by omega)⟩
  rw [efi e1, if_neg (hit_ne hx e1)]
  exact ⟨rfl, pz _ _ (by omega) (by omega)⟩
theorem yfold (N : Nat) (C : List T52) (s : Str) (q : Nat) : ∀ (l : List Nat) (O : List Int) (pl : Int) (H : List Nat) (f : Nat),
    l.foldl (fun z i => yst N C s q i z) (so O, pl, so (ints H), f) = (so (O ++ (l.filter fun i => decide (i + 1 = N)).map fun _ => (q : Int)), pl, so (ints (H ++ (l.filter (hit C s q)).map (· + 1))), f)
  | [], O, pl, H, f => by simp
  | i :: l, O, pl, H, f => by
    have e : yst N C s q i (so O, pl, so (ints H), f) = (so (O ++ ([i].filter fun i => decide (i + 1 = N)).map fun _ => (q : Int)), pl, so (ints (H ++ ([i].filter (hit C s q)).map (· + 1))), f) := by
      unfold yst
      simp only
      by_cases h1 : i + 1 = N
      · by_cases h2 : hit C s q i = true
        · rw [if_pos h1, if_pos h2, sapp_so, sapp_so]; simp [h1, h2, ints]
        rw [if_pos h1, if_neg h2, sapp_so]; simp [h1, h2, ints]
      by_cases h2 : hit C s q i = true
      · rw [if_neg h1, if_pos h2, sapp_so]; simp [h1, h2, ints]
      rw [if_neg h1, if_neg h2]; simp [h1, h2, ints]
    rw [List.foldl_cons, e, yfold N C s q l, List.append_assoc, List.append_assoc, ← List.map_append, ← List.map_append, ← List.filter_append, ← List.filter_append, List.singleton_append]
theorem no_cf {C : List T52} {s : Str} {fr q : Nat} (hq : fr ≤ q) (h : ∀ j, ¬ Base C s fr q j) (hf : fr < q) : ∀ q', q ≤ q' → ∀ j, ¬ Cf C s fr q' j := by
  have key : ∀ q' j, Cf C s fr q' j → q ≤ q' → False := by
    intro q' j hc
    induction hc with
    | start => intro h; omega
    | eps _ _ ih => exact ih
    | @chr q0 i0 x0 b0 hc h1 h2 h3 h4 ih =>
      intro hle
      by_cases e : q = q0 + 1
      · exact h (i0 + 1) (.inr ⟨q0, i0, x0, b0, e, rfl, hc, h1, h2, h3, h4⟩)
      exact ih (by omega)
  exact fun q' hle j hc => key q' j hc hle
theorem endsF_nil {C : List T52} {s : Str} {fr q : Nat} (h : ∀ q', q ≤ q' → ∀ j, ¬ Cf C s fr q' j) : endsF C s fr q = [] := by
  unfold endsF
  rw [List.filter_eq_nil_iff.2, List.map_nil]
  intro a ha
  rw [List.mem_range'_1] at ha
  simp [acc, h a ha.1]
theorem g33 {p : T34} (hr : rp p = true) {s : Str} (hs : s.length ≤ 100000000) {fr : Nat} (hfr : fr ≤ s.length) (t6 : Sl Int) : ∀ (m q : Nat) (A : List Nat) (out : List Int), m + q = s.length + 1 → fr ≤ q → (∀ j, j ∈ A ↔ Base (ls p.Code) s fr q j) → A.length ≤ 100000 → out.length ≤ q →
    G33 (.p1 p s t6 (so (ints A)) (so out) (q : Int)) = some (so (out ++ endsF (ls p.Code) s fr q)) := by
  have hlen := rp_len hr
  have stop : ∀ (q : Nat) (out : List Int), fr ≤ q → (∀ j, ¬ Base (ls p.Code) s fr q j) → fr < q → G33 (.p1 p s t6 (so (ints [])) (so out) (q : Int)) = some (so (out ++ endsF (ls p.Code) s fr q)) := by
    intro q out h1 h2 h3
    rw [endsF_nil (no_cf h1 h2 h3), G33.eq_1, dfi (by simp [ls_so, ints]), List.append_nil]
  intro m
  induction m with
  | zero =>
    intro q A out hm hq hA hAl ho
    have hB : ∀ j, ¬ Base (ls p.Code) s fr q j := by
      rintro j (⟨rfl, _⟩ | ⟨q', i, x, b, rfl, _, _, _, _, hb, _⟩)
      · omega
      have := ge_lt hb; omega
    have : A = [] := List.eq_nil_iff_forall_not_mem.2 fun j hj => hB j ((hA j).1 hj)
    subst this
    exact stop q out hq hB (by omega)
  | succ m ih =>
    intro q A out hm hq hA hAl ho
    by_cases hn : A = []
    · subst hn
      have hB : ∀ j, ¬ Base (ls p.Code) s fr q j := fun j h => by simpa using (hA j).2 h
      have : fr ≠ q := fun e => hB 0 (.inl ⟨e.symm, rfl⟩)
      exact stop q out hq hB (by omega)
    have hApos : 0 < A.length := List.length_pos_iff.2 hn
    have hBlt : ∀ j, Base (ls p.Code) s fr q j → j < (ls p.Code).length := by
      rintro j (⟨_, rfl⟩ | ⟨q', i, x, b, rfl, rfl, _, hx, hk, hb, _⟩)
      · omega
      have := ge_lt hx
      have : i + 1 ≠ (ls p.Code).length := fun e => by have := (rp_at hr hx).2.2 e; omega
      omega
    rw [G33.eq_1, dti (by rw [ls_so]; simp [ints]; omega)]
    unfold F43
    rw [sm, G33.eq_2]
    simp only
    obtain ⟨Lf, l1, l2, l3, l4⟩ := f57 hr (Y := B33_1 p s t6 (so (ints A)) p (so (ints A)) (q : Int) s) (y := yst (ls p.Code).length (ls p.Code) s q) (P := Pz q out.length) (fun k i z hk hi hP => b33 hr (by omega) (by omega) hk hP hi _ _ _ _ _ _) q s A (fun a ha => hBlt a ((hA a).1 ha)) (by omega) (so out, (q : Int), none, 0) ⟨rfl, rfl, by simp [ls_so], by simp [ls]⟩
    rw [l3, sm]
    have yf := yfold (ls p.Code).length (ls p.Code) s q Lf out (q : Int) [] 0
    have yf' : Lf.foldl (fun z i => yst (ls p.Code).length (ls p.Code) s q i z) (so out, (q : Int), none, 0) = _ := yf
    rw [yf', if_pos rfl]
    simp only [List.nil_append]
    rw [wn1 q (by omega)]
    have hcf : ∀ j, j ∈ Lf ↔ Cf (ls p.Code) s fr q j := fun j => by
      rw [l2, cf_rch]
      have : (fun j => j ∈ A) = Base (ls p.Code) s fr q := by funext j; exact propext (hA j)
      rw [this]
    have hLl := nodup_len _ Lf l1 (fun j hj => by
      have := (l2 j).1 hj
      cases this with
      | base h => exact hBlt j ((hA j).1 h)
      | step _ e => exact eps_lt hr e)
    have hfo : (Lf.filter fun i => decide (i + 1 = (ls p.Code).length)) = if (ls p.Code).length - 1 ∈ Lf then [(ls p.Code).length - 1] else [] := by
      rw [← filter_one l1]
      congr 1
      funext i
      congr 1
      apply propext
      omega
    have hend : endsF (ls p.Code) s fr q = ((Lf.filter fun i => decide (i + 1 = (ls p.Code).length)).map fun _ => (q : Int)) ++ endsF (ls p.Code) s fr (q + 1) := by
      unfold endsF
      rw [hfo, show s.length + 1 - q = (s.length + 1 - (q + 1)) + 1 by omega, List.range'_succ]
      by_cases h : (ls p.Code).length - 1 ∈ Lf
      · rw [if_pos h, List.filter_cons_of_pos (by simp [acc, ← hcf, h])]; rfl
      rw [if_neg h, List.filter_cons_of_neg (by simp [acc, ← hcf, h])]; rfl
    rw [ih (q + 1) _ _ (by omega) (by omega) ?_ ?_ ?_, hend, List.append_assoc]
    · intro j
      rw [List.mem_map]
      constructor
      · rintro ⟨i, hi, rfl⟩
        rw [List.mem_filter, hcf] at hi
        obtain ⟨hc, hh⟩ := hi
        unfold hit at hh
        split at hh
        · rename_i x b hx hb
          simp only [Bool.and_eq_true, beq_iff_eq] at hh
          exact .inr ⟨q, i, x, b, rfl, rfl, hc, hx, hh.1, hb, hh.2⟩
        simp at hh
      rintro (⟨h, _⟩ | ⟨q', i, x, b, h, rfl, hc, hx, hk, hb, hh⟩)
      · omega
      obtain rfl : q = q' := by omega
      refine ⟨i, ?_, rfl⟩
      rw [List.mem_filter, hcf]
      exact ⟨hc, by simp [hit, hx, hb, hk, hh]⟩
    · have := List.length_filter_le (hit (ls p.Code) s q) Lf
      simp; omega
    rw [hfo]; split <;> simp <;> omega
theorem f33 {p : T34} (hr : rp p = true) {s : Str} (hs : s.length ≤ 100000000) {fr : Nat} (hfr : fr ≤ s.length) : F33 p s (fr : Int) = some (so (endsF (ls p.Code) s fr fr)) := by
  unfold F33
  have := g33 hr hs hfr none (s.length + 1 - fr) fr [0] [] (by omega) (by omega) (fun j => ?_) (by simp) (by simp)
  · rw [List.nil_append] at this; exact this
  constructor
  · intro h; simp at h; exact .inl ⟨rfl, h⟩
  rintro (⟨_, rfl⟩ | ⟨q', i, x, b, h, rfl, hc, _⟩)
  · simp
  exfalso
  have : ∀ q j, Cf (ls p.Code) s fr q j → fr ≤ q := by
    intro q j h
    induction h with
    | start => omega
    | eps _ _ ih => exact ih
    | chr _ _ _ _ _ ih => omega
  have := this _ _ hc
  omega
end Go.Proofs.Ytjbafmnocopofaa
end
section
namespace Go.Proofs.Ytjbafmnocopofaa
open Go AW
set_option maxHeartbeats 4000000
theorem nne {a b : Int} (h : a = b) : ¬ a ≠ b := fun k => k h
noncomputable def EN (p : T34) (s : Str) (i : Nat) : List Nat := (List.range' i (s.length + 1 - i)).filter (acc (ls p.Code) s i)
theorem f33' {p : T34} (hr : rp p = true) {s : Str} (hs : s.length ≤ 100000000) {i : Nat} (hi : i ≤ s.length) : F33 p s (i : Int) = some (so (ints (EN p s i))) := f33 hr hs hi
theorem en_len (p : T34) (s : Str) (i : Nat) : (EN p s i).length ≤ s.length + 1 := by
  have := List.length_filter_le (acc (ls p.Code) s i) (List.range' i (s.length + 1 - i))
  unfold EN
  simp at this
  omega
theorem flt_0 {p : T34} (h : flt p = 0) : rp p = true ∧ hb (ls p.Code) = false := by
  unfold flt at h
  split at h
  · rename_i h1
    split at h
    · simp at h
    rename_i h2; exact ⟨h1, by simpa using h2⟩
  simp at h
theorem f17 (p : T34) {s : Str} (hs : s.length ≤ 100000000) (fr : Int) : F17 p s fr = some (if flt p ≠ 0 then (none, flt p) else if fr < 0 ∨ (s.length : Int) < fr then (none, 2) else (so (ints (EN p s fr.toNat)), 0)) := by
  unfold F17
  rw [f32, sm]
  by_cases h : flt p = 0
  · rw [nfi h, if_neg (nne h)]
    by_cases h1 : fr < 0
    · rw [dti h1, if_pos (.inl h1)]
    rw [dfi h1]
    by_cases h2 : (s.length : Int) < fr
    · rw [dti h2, if_pos (.inr h2)]
    obtain ⟨n, rfl⟩ := nat_of (by omega : 0 ≤ fr)
    rw [dfi h2, if_neg (by omega), f33' (flt_0 h).1 hs (by omega), sm]; rfl
  rw [nti h, if_pos h]
end Go.Proofs.Ytjbafmnocopofaa
end
section
namespace Go.Proofs.Ytjbafmnocopofaa
open Go AW
set_option maxRecDepth 100000
set_option maxHeartbeats 4000000
def Le {α : Type} (x y : Option α) : Prop := ∀ r, x = some r → y = some r
theorem le_refl {α : Type} (x : Option α) : Le x x := fun _ h => h
theorem le_none {α : Type} (x : Option α) : Le none x := fun _ h => by cases h
theorem le_bind {α β : Type} {x y : Option α} {f g : α → Option β} (h : Le x y) (h' : ∀ v, Le (f v) (g v)) : Le (x >>= f) (y >>= g) := fun r e => by
  obtain ⟨v, e1, e2⟩ := bind_some e
  rw [h v e1]; exact h' v r e2
theorem le_ite {α : Type} {c : Prop} [Decidable c] {x y x' y' : Option α} (h : Le x x') (h' : Le y y') : Le (if c then x else y) (if c then x' else y') := fun r e => by
  by_cases k : c
  · rw [if_pos k] at e ⊢; exact h r e
  rw [if_neg k] at e ⊢; exact h' r e
noncomputable def HG31 (fu : Nat)  : St31 → Option Bool := fun st => match st with | .p1 n kids want => (if (kids == want) = true then (if (n.Kind == 2) = true then (if (n.Kind == 5) = true then (if (n.Kind == 6) = true then (some true) else (if (n.Kind == 7) = true then (some true) else (some (n.Group == 0)))) else (if (n.Min == 0) = true then (if (n.Max == 0) = true then (if (n.Kind == 6) = true then (some true) else (if (n.Kind == 7) = true then (some true) else (some (n.Group == 0)))) else (some false)) else (some false))) else (if (decide (n.Set = (Arr.rep 4 (0 : Int)))) = true then (if (n.Kind == 5) = true then (if (n.Kind == 6) = true then (some true) else (if (n.Kind == 7) = true then (some true) else (some (n.Group == 0)))) else (if (n.Min == 0) = true then (if (n.Max == 0) = true then (if (n.Kind == 6) = true then (some true) else (if (n.Kind == 7) = true then (some true) else (some (n.Group == 0)))) else (some false)) else (some false))) else (some false))) else (some false))
theorem leG31 (fu : Nat) (st : St31) : Le (HG31 fu st) (G31 st) := by
  unfold HG31 G31
  cases st <;> dsimp only <;> (repeat' (with_reducible first | exact le_refl _ | apply le_ite | refine le_bind ?_ (fun _ => ?_)))
noncomputable def HF31 (fu : Nat) (n : T27) : Option Bool := (if (n.Kind == 3) = true then (HG31 fu (.p1 n ((ls n.Kids).length : Int) (if 2 > ((ls n.Kids).length : Int) then 2 else ((ls n.Kids).length : Int)))) else (if (n.Kind == 4) = true then (HG31 fu (.p1 n ((ls n.Kids).length : Int) (if 2 > ((ls n.Kids).length : Int) then 2 else ((ls n.Kids).length : Int)))) else (if (n.Kind == 5) = true then (if (decide (n.Min < 0)) = true then (some false) else (if (decide (n.Min > 255)) = true then (some false) else (if (n.Max != (-1)) = true then (if (decide (n.Max < n.Min)) = true then (some false) else (if (decide (n.Max > 255)) = true then (some false) else (HG31 fu (.p1 n ((ls n.Kids).length : Int) 1)))) else (HG31 fu (.p1 n ((ls n.Kids).length : Int) 1))))) else (if (n.Kind == 6) = true then (HG31 fu (.p1 n ((ls n.Kids).length : Int) 1)) else (if (n.Kind == 1) = true then (HG31 fu (.p1 n ((ls n.Kids).length : Int) 0)) else (if (n.Kind == 2) = true then (HG31 fu (.p1 n ((ls n.Kids).length : Int) 0)) else (if (n.Kind == 7) = true then (HG31 fu (.p1 n ((ls n.Kids).length : Int) 0)) else (if (n.Kind == 8) = true then (HG31 fu (.p1 n ((ls n.Kids).length : Int) 0)) else (if (n.Kind == 9) = true then (HG31 fu (.p1 n ((ls n.Kids).length : Int) 0)) else (some false))))))))))
theorem leF31 (fu : Nat) (n : T27) : Le (HF31 fu n) (F31 n) := by
  unfold HF31 F31
  repeat' (with_reducible first | exact leG31 fu _ | exact le_refl _ | apply le_ite | refine le_bind ?_ (fun _ => ?_))
noncomputable def SG38 (fu : Nat)  (ih : St38 → Option (Int × Int)) : St38 → Option (Int × Int) := fun st => match st with | .e n => (if (n.Kind == 6) = true then (ih (.p1 n n.Group n.Group)) else (ih (.p1 n 0 0))) | .p1 n low high => (ih (.p2 low high n.Kids ((ls n.Kids).length : Int) 0)) | .p2 low high t18_ t19_ t20_ => (if (decide (t20_ < t19_)) = true then (ix (ls t18_) t20_ >>= fun v_3 => (ih (.e v_3) >>= fun r_6 => (if (decide (r_6.1 > 0)) = true then (if (low == 0) = true then (ih (.p3 r_6.1 high r_6.2 t18_ t19_ t20_)) else (if (decide (r_6.1 < low)) = true then (ih (.p3 r_6.1 high r_6.2 t18_ t19_ t20_)) else (ih (.p3 low high r_6.2 t18_ t19_ t20_)))) else (ih (.p3 low high r_6.2 t18_ t19_ t20_))))) else (some (low, high))) | .p3 low high b t18_ t19_ t20_ => (ih (.p2 low (if b > high then b else high) t18_ t19_ (IntKind.wrap .i64 (t20_ + 1))))
noncomputable def HG38 (fu : Nat)  : St38 → Option (Int × Int) := Nat.rec (motive := fun _ => St38 → Option (Int × Int)) (fun _ => none) (fun fu ih => SG38 fu ih) fu
theorem HG38_s (fu : Nat)  (st : St38) : HG38 (fu + 1) st = SG38 fu (HG38 fu) st := rfl
theorem leG38 (fu : Nat) (st : St38) : Le (HG38 fu st) (G38 st) := by
  induction fu generalizing st with
  | zero => exact le_none _
  | succ fu ih => cases st <;> (rw [HG38_s]; (first | rw [G38.eq_1] | rw [G38.eq_2] | rw [G38.eq_3] | rw [G38.eq_4]); unfold SG38; dsimp only; generalize HG38 fu = hh at ih ⊢; repeat' (with_reducible first | exact ih _ | exact le_refl _ | apply le_ite | refine le_bind ?_ (fun _ => ?_)))
noncomputable def HF38 (fu : Nat) (n : T27) : Option (Int × Int) := HG38 fu (.e n)
theorem leF38 (fu : Nat) (n : T27) : Le (HF38 fu n) (F38 n) := by
  unfold HF38 F38
  repeat' (with_reducible first | exact leG38 fu _ | exact le_refl _ | apply le_ite | refine le_bind ?_ (fun _ => ?_))
noncomputable def HF29 (fu : Nat) (n : T27) : Option T27 := (some n)
theorem leF29 (fu : Nat) (n : T27) : Le (HF29 fu n) (F29 n) := by
  unfold HF29 F29
  repeat' (with_reducible first | exact le_refl _ | apply le_ite | refine le_bind ?_ (fun _ => ?_))
noncomputable def SG41 (fu : Nat) {σ : Type} (Y : T27 → σ → Option (Bool × σ)) (ih : St41 σ → Option (Bool × σ)) : St41 σ → Option (Bool × σ) := fun st => match st with | .e n s_ => (Y n s_ >>= fun r_1 => (if (!r_1.1) = true then (some (false, r_1.2)) else (ih (.p1 n ((ls n.Kids).length : Int) 0 r_1.2)))) | .p1 n t14_ t15_ s_ => (if (decide (t15_ < t14_)) = true then (ix (ls n.Kids) t15_ >>= fun v_5 => (ih (.e v_5 s_) >>= fun r_7 => (if (!r_7.1) = true then (some (false, r_7.2)) else (ih (.p1 n t14_ (IntKind.wrap .i64 (t15_ + 1)) r_7.2))))) else (some (true, s_)))
noncomputable def HG41 (fu : Nat) {σ : Type} (Y : T27 → σ → Option (Bool × σ)) : St41 σ → Option (Bool × σ) := Nat.rec (motive := fun _ => St41 σ → Option (Bool × σ)) (fun _ => none) (fun fu ih => SG41 fu Y ih) fu
theorem HG41_s (fu : Nat) {σ : Type} (Y : T27 → σ → Option (Bool × σ)) (st : St41 σ) : HG41 (fu + 1) Y st = SG41 fu Y (HG41 fu Y) st := rfl
theorem leG41 (fu : Nat) {σ : Type} (Y Y2 : T27 → σ → Option (Bool × σ)) (hY : ∀ a b, Le (Y a b) (Y2 a b)) (st : St41 σ) : Le (HG41 fu Y st) (G41 Y2 st) := by
  induction fu generalizing st with
  | zero => exact le_none _
  | succ fu ih => cases st <;> (rw [HG41_s]; (first | rw [G41.eq_1] | rw [G41.eq_2]); unfold SG41; dsimp only; generalize HG41 fu Y = hh at ih ⊢; repeat' (with_reducible first | exact ih _ | exact hY _ _ | exact le_refl _ | apply le_ite | refine le_bind ?_ (fun _ => ?_)))
noncomputable def HF41 (fu : Nat) {σ : Type} (Y : T27 → σ → Option (Bool × σ)) (n : T27) (s_ : σ) : Option (Bool × σ) := HG41 fu Y (.e n s_)
theorem leF41 (fu : Nat) {σ : Type} (Y Y2 : T27 → σ → Option (Bool × σ)) (n : T27) (s_ : σ) (hY : ∀ a b, Le (Y a b) (Y2 a b)) : Le (HF41 fu Y n s_) (F41 Y2 n s_) := by
  unfold HF41 F41
  repeat' (with_reducible first | exact hY _ _ | exact leG41 fu _ _ (fun _ _ => by first | exact hY _ _ ) _ | exact le_refl _ | apply le_ite | refine le_bind ?_ (fun _ => ?_))
noncomputable def HF40 (fu : Nat) {σ : Type} (Y : T27 → σ → Option (Bool × σ)) (d0_ : T27) (s_ : σ) : Option σ := (HF41 fu Y d0_ s_ >>= fun r_2 => (some r_2.2))
theorem leF40 (fu : Nat) {σ : Type} (Y Y2 : T27 → σ → Option (Bool × σ)) (d0_ : T27) (s_ : σ) (hY : ∀ a b, Le (Y a b) (Y2 a b)) : Le (HF40 fu Y d0_ s_) (F40 Y2 d0_ s_) := by
  unfold HF40 F40
  repeat' (with_reducible first | exact hY _ _ | exact leF41 fu _ _ _ _ (fun _ _ => by first | exact hY _ _ ) | exact le_refl _ | apply le_ite | refine le_bind ?_ (fun _ => ?_))
noncomputable def HB28_1 (fu : Nat) (t2_ : Int) (t5_ : T27) (x : T27) (zz : Int × Nat) : Option (Bool × (Int × Nat)) := if zz.2 = 0 then (if (x.Kind == 6) = true then (some (true, (IntKind.wrap .i64 (zz.1 + 1), 0))) else (some (true, (zz.1, 0))))
else none
theorem leB28_1 (fu : Nat) (t2_ : Int) (t5_ : T27) (x : T27) (zz : Int × Nat) : Le (HB28_1 fu t2_ t5_ x zz) (B28_1 t2_ t5_ x zz) := by
  unfold HB28_1 B28_1
  repeat' (with_reducible first | exact le_refl _ | apply le_ite | refine le_bind ?_ (fun _ => ?_))
noncomputable def HG28 (fu : Nat)  : St28 → Option Int := fun st => match st with | .p1 t2_ t5_ k => (HF40 fu (HB28_1 fu t2_ t5_) t5_ (k, 0) >>= fun r_4 => (if r_4.2 = 0 then (some r_4.1) else none))
theorem leG28 (fu : Nat) (st : St28) : Le (HG28 fu st) (G28 st) := by
  unfold HG28 G28
  cases st <;> dsimp only <;> (repeat' (with_reducible first | exact leF40 fu _ _ _ _ (fun _ _ => by first | exact leB28_1 fu _ _ _ _) | exact leB28_1 fu _ _ _ _ | exact le_refl _ | apply le_ite | refine le_bind ?_ (fun _ => ?_)))
noncomputable def HF28 (fu : Nat) (n : T27) : Option Int := (HF29 fu n >>= fun r_2 => (HG28 fu (.p1 0 r_2 0)))
theorem leF28 (fu : Nat) (n : T27) : Le (HF28 fu n) (F28 n) := by
  unfold HF28 F28
  repeat' (with_reducible first | exact leF29 fu _ | exact leG28 fu _ | exact le_refl _ | apply le_ite | refine le_bind ?_ (fun _ => ?_))
noncomputable def HF37 (fu : Nat) (x_ : Int) (q0_ : Int) : Option Int := (some (if 16385 < (IntKind.wrap .i64 (q0_ + x_)) then 16385 else (IntKind.wrap .i64 (q0_ + x_))))
theorem leF37 (fu : Nat) (x_ : Int) (q0_ : Int) : Le (HF37 fu x_ q0_) (F37 x_ q0_) := by
  unfold HF37 F37
  repeat' (with_reducible first | exact le_refl _ | apply le_ite | refine le_bind ?_ (fun _ => ?_))
noncomputable def SG25 (fu : Nat)  (ih : St25 → Option Int) : St25 → Option Int := fun st => match st with | .e n => (if (n.Kind == 1) = true then (some 0) else (if (n.Kind == 3) = true then (ih (.p1 n 0)) else (if (n.Kind == 4) = true then (ih (.p1 n 0)) else (if (n.Kind == 6) = true then (ih (.p1 n 0)) else (if (n.Kind == 5) = true then (ix (ls n.Kids) 0 >>= fun v_7 => (ih (.e v_7) >>= fun r_9 => (ix (ls n.Kids) 0 >>= fun v_11 => (HF38 fu v_11 >>= fun r_13 => (if (decide (r_13.1 > 0)) = true then (ih (.p2 n (if 16385 < (IntKind.wrap .i64 (r_9 + 1)) then 16385 else (IntKind.wrap .i64 (r_9 + 1))) 0)) else (ih (.p2 n r_9 0))))))) else (HF37 fu 1 0 >>= fun r_16 => (some r_16))))))) | .p1 n sum => (ih (.p3 n n.Kids ((ls n.Kids).length : Int) 0 sum)) | .p2 n round sum => (HF37 fu (IntKind.wrap .i64 (n.Min * round)) sum >>= fun r_18 => (if (n.Max == (-1)) = true then (HF37 fu (IntKind.wrap .i64 (round + 4)) r_18 >>= fun r_21 => (some r_21)) else (HF37 fu (IntKind.wrap .i64 ((IntKind.wrap .i64 (n.Max - n.Min)) * (IntKind.wrap .i64 (round + 3)))) r_18 >>= fun r_23 => (some r_23)))) | .p3 n t22_ t23_ t24_ sum => (if (decide (t24_ < t23_)) = true then (ix (ls t22_) t24_ >>= fun v_26 => (ih (.e v_26) >>= fun r_29 => (HF37 fu r_29 sum >>= fun r_31 => (ih (.p3 n t22_ t23_ (IntKind.wrap .i64 (t24_ + 1)) r_31))))) else (if (n.Kind == 4) = true then (HF37 fu (IntKind.wrap .i64 (2 * (IntKind.wrap .i64 (((ls n.Kids).length : Int) - 1)))) sum >>= fun r_34 => (ih (.p4 n r_34))) else (ih (.p4 n sum)))) | .p4 n sum => (if (n.Kind == 6) = true then (HF37 fu 2 sum >>= fun r_37 => (some r_37)) else (some sum))
noncomputable def HG25 (fu : Nat)  : St25 → Option Int := Nat.rec (motive := fun _ => St25 → Option Int) (fun _ => none) (fun fu ih => SG25 fu ih) fu
theorem HG25_s (fu : Nat)  (st : St25) : HG25 (fu + 1) st = SG25 fu (HG25 fu) st := rfl
theorem leG25 (fu : Nat) (st : St25) : Le (HG25 fu st) (G25 st) := by
  induction fu generalizing st with
  | zero => exact le_none _
  | succ fu ih => cases st <;> (rw [HG25_s]; (first | rw [G25.eq_1] | rw [G25.eq_2] | rw [G25.eq_3] | rw [G25.eq_4] | rw [G25.eq_5]); unfold SG25; dsimp only; generalize HG25 fu = hh at ih ⊢; repeat' (with_reducible first | exact ih _ | exact leF38 fu _ | exact leF37 fu _ _ | exact le_refl _ | apply le_ite | refine le_bind ?_ (fun _ => ?_)))
noncomputable def HF25 (fu : Nat) (n : T27) : Option Int := HG25 fu (.e n)
theorem leF25 (fu : Nat) (n : T27) : Le (HF25 fu n) (F25 n) := by
  unfold HF25 F25
  repeat' (with_reducible first | exact leG25 fu _ | exact le_refl _ | apply le_ite | refine le_bind ?_ (fun _ => ?_))
noncomputable def SG30 (fu : Nat)  (ih : St30 → Option (Bool × Int × Sl Bool)) : St30 → Option (Bool × Int × Sl Bool) := fun st => match st with | .e n q0_ q1_ q2_ => (if q0_ = true then (HF31 fu n >>= fun r_2 => (ih (.p1 n r_2 q1_ q2_))) else (ih (.p1 n false q1_ q2_))) | .p1 n q0_ q1_ q2_ => (if (!q0_) = true then (some (q0_, q1_, q2_)) else (if (n.Kind == 6) = true then (if (n.Group == (IntKind.wrap .i64 (q1_ + 1))) = true then (ih (.p2 n (decide ((IntKind.wrap .i64 (q1_ + 1)) ≤ 99)) (IntKind.wrap .i64 (q1_ + 1)) q2_)) else (ih (.p2 n false (IntKind.wrap .i64 (q1_ + 1)) q2_))) else (if (n.Kind == 7) = true then (if (decide (n.Group ≥ 1)) = true then (if (decide (n.Group ≤ 9)) = true then (if (decide (n.Group ≤ q1_)) = true then (ix (ls q2_) (IntKind.wrap .i64 (n.Group - 1)) >>= fun v_12 => (ih (.p3 n v_12 q1_ q2_))) else (ih (.p3 n false q1_ q2_))) else (ih (.p3 n false q1_ q2_))) else (ih (.p3 n false q1_ q2_))) else (ih (.p3 n q0_ q1_ q2_))))) | .p2 n q0_ q1_ q2_ => (if ((ls q2_).length + (ls (some ([false] : List Bool))).length) * 1 ≤ 140737488355328 then (ih (.p3 n q0_ q1_ (sapp q2_ (ls (some ([false] : List Bool)))))) else none) | .p3 n q0_ q1_ q2_ => (ih (.p4 n ((ls n.Kids).length : Int) 0 q0_ q1_ q2_)) | .p4 n t71_ t72_ q0_ q1_ q2_ => (if (decide (t72_ < t71_)) = true then (if q0_ = true then (ix (ls n.Kids) t72_ >>= fun v_20 => (ih (.e v_20 q0_ q1_ q2_) >>= fun r_22 => (ih (.p4 n t71_ (IntKind.wrap .i64 (t72_ + 1)) r_22.1 r_22.2.1 r_22.2.2)))) else (ih (.p4 n t71_ (IntKind.wrap .i64 (t72_ + 1)) q0_ q1_ q2_))) else (if q0_ = true then (if (n.Kind == 6) = true then (ix (ls q2_) (IntKind.wrap .i64 (n.Group - 1)) >>= fun v_27 => (some (q0_, q1_, (vset q2_ (IntKind.wrap .i64 (n.Group - 1)) true)))) else (some (q0_, q1_, q2_))) else (some (q0_, q1_, q2_))))
noncomputable def HG30 (fu : Nat)  : St30 → Option (Bool × Int × Sl Bool) := Nat.rec (motive := fun _ => St30 → Option (Bool × Int × Sl Bool)) (fun _ => none) (fun fu ih => SG30 fu ih) fu
theorem HG30_s (fu : Nat)  (st : St30) : HG30 (fu + 1) st = SG30 fu (HG30 fu) st := rfl
theorem leG30 (fu : Nat) (st : St30) : Le (HG30 fu st) (G30 st) := by
  induction fu generalizing st with
  | zero => exact le_none _
  | succ fu ih => cases st <;> (rw [HG30_s]; (first | rw [G30.eq_1] | rw [G30.eq_2] | rw [G30.eq_3] | rw [G30.eq_4] | rw [G30.eq_5]); unfold SG30; dsimp only; generalize HG30 fu = hh at ih ⊢; repeat' (with_reducible first | exact ih _ | exact leF31 fu _ | exact le_refl _ | apply le_ite | refine le_bind ?_ (fun _ => ?_)))
noncomputable def HF30 (fu : Nat) (n : T27) (q0_ : Bool) (q1_ : Int) (q2_ : Sl Bool) : Option (Bool × Int × Sl Bool) := HG30 fu (.e n q0_ q1_ q2_)
theorem leF30 (fu : Nat) (n : T27) (q0_ : Bool) (q1_ : Int) (q2_ : Sl Bool) : Le (HF30 fu n q0_ q1_ q2_) (F30 n q0_ q1_ q2_) := by
  unfold HF30 F30
  repeat' (with_reducible first | exact leG30 fu _ | exact le_refl _ | apply le_ite | refine le_bind ?_ (fun _ => ?_))
noncomputable def HB12_1 (fu : Nat) (n : T27) (t8_ : T27) (x : T27) (zz : Int × Int × Nat) : Option (Bool × (Int × Int × Nat)) := if zz.2.2 = 0 then (if (decide ((IntKind.wrap .i64 (zz.2.1 + 1)) > 8192)) = true then (some (false, (3, IntKind.wrap .i64 (zz.2.1 + 1), 1))) else (some (true, (zz.1, IntKind.wrap .i64 (zz.2.1 + 1), 0))))
else none
theorem leB12_1 (fu : Nat) (n : T27) (t8_ : T27) (x : T27) (zz : Int × Int × Nat) : Le (HB12_1 fu n t8_ x zz) (B12_1 n t8_ x zz) := by
  unfold HB12_1 B12_1
  repeat' (with_reducible first | exact le_refl _ | apply le_ite | refine le_bind ?_ (fun _ => ?_))
noncomputable def HG12 (fu : Nat)  : St12 → Option Int := fun st => match st with | .p1 n t8_ t2_ count => (HF40 fu (HB12_1 fu n t8_) t8_ (t2_, count, 0) >>= fun r_5 => (if r_5.2.2 = 0 then (HF30 fu n true 0 (none : Sl Bool) >>= fun r_12 => (if (!r_12.1) = true then (some 90) else (some 0))) else (if r_5.2.2 = 1 then (some r_5.1) else none)))
theorem leG12 (fu : Nat) (st : St12) : Le (HG12 fu st) (G12 st) := by
  unfold HG12 G12
  cases st <;> dsimp only <;> (repeat' (with_reducible first | exact leF40 fu _ _ _ _ (fun _ _ => by first | exact leB12_1 fu _ _ _ _) | exact leB12_1 fu _ _ _ _ | exact leF30 fu _ _ _ _ | exact le_refl _ | apply le_ite | refine le_bind ?_ (fun _ => ?_)))
noncomputable def HF12 (fu : Nat) (n : T27) : Option Int := (HF29 fu n >>= fun r_3 => (HG12 fu (.p1 n r_3 0 0)))
theorem leF12 (fu : Nat) (n : T27) : Le (HF12 fu n) (F12 n) := by
  unfold HF12 F12
  repeat' (with_reducible first | exact leF29 fu _ | exact leG12 fu _ | exact le_refl _ | apply le_ite | refine le_bind ?_ (fun _ => ?_))
noncomputable def HF27 (fu : Nat) (c : T65) (x_ : T52) : Option (Int × T65) := (if ((ls c.code).length + (ls (some ([x_] : List T52))).length) * 72 ≤ 140737488355328 then (some (IntKind.wrap .i64 (((ls (sapp c.code (ls (some ([x_] : List T52))))).length : Int) - 1), ({ c with code := sapp c.code (ls (some ([x_] : List T52))) } : T65))) else none)
theorem leF27 (fu : Nat) (c : T65) (x_ : T52) : Le (HF27 fu c x_) (F27 c x_) := by
  unfold HF27 F27
  repeat' (with_reducible first | exact le_refl _ | apply le_ite | refine le_bind ?_ (fun _ => ?_))
noncomputable def HF58 (fu : Nat) (s : T92) (i : Int) : Option (Bool × T92) := (ix (ls s.in_) i >>= fun v_3 => (if v_3 = true then (some (false, s)) else (ix (ls s.in_) i >>= fun v_6 => (if ((ls s.list).length + (ls (some ([i] : List Int))).length) * 8 ≤ 140737488355328 then (some (true, ({ s with in_ := (vset s.in_ i true), list := sapp s.list (ls (some ([i] : List Int))) } : T92))) else none))))
theorem leF58 (fu : Nat) (s : T92) (i : Int) : Le (HF58 fu s i) (F58 s i) := by
  unfold HF58 F58
  repeat' (with_reducible first | exact le_refl _ | apply le_ite | refine le_bind ?_ (fun _ => ?_))
noncomputable def HF9 (fu : Nat) (n : T27) : Option (Int × Int) := (HF12 fu n >>= fun r_1 => (if (r_1 != 0) = true then (some (0, r_1)) else (HF25 fu n >>= fun r_4 => (if (decide (r_4 < 16384)) = true then (some (IntKind.wrap .i64 (r_4 + 1), 0)) else (some (0, 3))))))
theorem leF9 (fu : Nat) (n : T27) : Le (HF9 fu n) (F9 n) := by
  unfold HF9 F9
  repeat' (with_reducible first | exact leF12 fu _ | exact leF25 fu _ | exact le_refl _ | apply le_ite | refine le_bind ?_ (fun _ => ?_))
noncomputable def HF39 (fu : Nat)  : Option Unit := (some ())
theorem leF39 (fu : Nat)  : Le (HF39 fu ) (F39 ) := by
  unfold HF39 F39
  repeat' (with_reducible first | exact le_refl _ | apply le_ite | refine le_bind ?_ (fun _ => ?_))
noncomputable def HF46 (fu : Nat) (c : T65) (n : T27) : Option T65 := (some c)
theorem leF46 (fu : Nat) (c : T65) (n : T27) : Le (HF46 fu c n) (F46 c n) := by
  unfold HF46 F46
  repeat' (with_reducible first | exact le_refl _ | apply le_ite | refine le_bind ?_ (fun _ => ?_))
noncomputable def HF47 (fu : Nat) (c : T65) (n : T27) : Option T65 := (HF27 fu c ({ Kind := 1, Set := n.Set, To := 0, Group := 0, Last := 0, Slot := 0 } : T52) >>= fun r_1 => (some r_1.2))
theorem leF47 (fu : Nat) (c : T65) (n : T27) : Le (HF47 fu c n) (F47 c n) := by
  unfold HF47 F47
  repeat' (with_reducible first | exact leF27 fu _ _ | exact le_refl _ | apply le_ite | refine le_bind ?_ (fun _ => ?_))
noncomputable def HF48 (fu : Nat) (c : T65) (n : T27) : Option T65 := (HF27 fu c ({ Kind := 10, Set := (Arr.rep 4 (0 : Int)), To := 0, Group := 0, Last := 0, Slot := 0 } : T52) >>= fun r_1 => (some r_1.2))
theorem leF48 (fu : Nat) (c : T65) (n : T27) : Le (HF48 fu c n) (F48 c n) := by
  unfold HF48 F48
  repeat' (with_reducible first | exact leF27 fu _ _ | exact le_refl _ | apply le_ite | refine le_bind ?_ (fun _ => ?_))
noncomputable def HF49 (fu : Nat) (c : T65) (n : T27) : Option T65 := (HF27 fu c ({ Kind := 11, Set := (Arr.rep 4 (0 : Int)), To := 0, Group := 0, Last := 0, Slot := 0 } : T52) >>= fun r_1 => (some r_1.2))
theorem leF49 (fu : Nat) (c : T65) (n : T27) : Le (HF49 fu c n) (F49 c n) := by
  unfold HF49 F49
  repeat' (with_reducible first | exact leF27 fu _ _ | exact le_refl _ | apply le_ite | refine le_bind ?_ (fun _ => ?_))
noncomputable def HF50 (fu : Nat) (c : T65) (n : T27) : Option T65 := (HF27 fu c ({ Kind := 9, Set := (Arr.rep 4 (0 : Int)), To := 0, Group := n.Group, Last := 0, Slot := 0 } : T52) >>= fun r_1 => (some r_1.2))
theorem leF50 (fu : Nat) (c : T65) (n : T27) : Le (HF50 fu c n) (F50 c n) := by
  unfold HF50 F50
  repeat' (with_reducible first | exact leF27 fu _ _ | exact le_refl _ | apply le_ite | refine le_bind ?_ (fun _ => ?_))
noncomputable def SG26r (fu : Nat)  (ih : St26r → Option T65) : St26r → Option T65 := fun st => match st with | .e26 c n => (HF39 fu >>= fun r_1 => (if n.Kind = 1 then (HF46 fu c n >>= fun r_28 => (some r_28)) else (if n.Kind = 2 then (HF47 fu c n >>= fun r_25 => (some r_25)) else (if n.Kind = 3 then (ih (.e51 c n) >>= fun r_22 => (some r_22)) else (if n.Kind = 4 then (ih (.e53 c n) >>= fun r_19 => (some r_19)) else (if n.Kind = 5 then (ih (.e54 c n) >>= fun r_16 => (some r_16)) else (if n.Kind = 6 then (ih (.e52 c n) >>= fun r_13 => (some r_13)) else (if n.Kind = 7 then (HF50 fu c n >>= fun r_10 => (some r_10)) else (if n.Kind = 8 then (HF48 fu c n >>= fun r_7 => (some r_7)) else (if n.Kind = 9 then (HF49 fu c n >>= fun r_4 => (some r_4)) else none)))))))))) | .e51 c n => (ih (.p51_1 n.Kids ((ls n.Kids).length : Int) 0 c)) | .p51_1 t7_ t8_ t9_ c => (if (decide (t9_ < t8_)) = true then (ix (ls t7_) t9_ >>= fun v_2 => (ih (.e26 c v_2) >>= fun r_5 => (ih (.p51_1 t7_ t8_ (IntKind.wrap .i64 (t9_ + 1)) r_5)))) else (some c)) | .e52 c n => (HF27 fu c ({ Kind := 4, Set := (Arr.rep 4 (0 : Int)), To := 0, Group := n.Group, Last := 0, Slot := 0 } : T52) >>= fun r_1 => (ix (ls n.Kids) 0 >>= fun v_3 => (ih (.e26 r_1.2 v_3) >>= fun r_5 => (HF27 fu r_5 ({ Kind := 5, Set := (Arr.rep 4 (0 : Int)), To := 0, Group := n.Group, Last := 0, Slot := 0 } : T52) >>= fun r_7 => (some r_7.2))))) | .e53 c n => (scut n.Kids 0 (IntKind.wrap .i64 (((ls n.Kids).length : Int) - 1)) >>= fun w_1 => (ih (.p53_1 n (IntKind.wrap .i64 (((ls n.Kids).length : Int) - 1)) w_1 ((ls w_1).length : Int) 0 c none))) | .p53_1 n last t18_ t19_ t20_ c out => (if (decide (t20_ < t19_)) = true then (ix (ls t18_) t20_ >>= fun v_5 => (HF27 fu c ({ Kind := 2, Set := (Arr.rep 4 (0 : Int)), To := 0, Group := 0, Last := 0, Slot := 0 } : T52) >>= fun r_8 => (ih (.e26 r_8.2 v_5) >>= fun r_10 => (HF27 fu r_10 ({ Kind := 3, Set := (Arr.rep 4 (0 : Int)), To := 0, Group := 0, Last := 0, Slot := 0 } : T52) >>= fun r_12 => (if ((ls out).length + (ls (some ([r_12.1] : List Int))).length) * 8 ≤ 140737488355328 then (ix (ls r_12.2.code) r_8.1 >>= fun v_18 => (ih (.p53_1 n last t18_ t19_ (IntKind.wrap .i64 (t20_ + 1)) ({ r_12.2 with code := (vset r_12.2.code r_8.1 ({ v_18 with To := ((ls r_12.2.code).length : Int) } : T52)) } : T65) (sapp out (ls (some ([r_12.1] : List Int))))))) else none))))) else (ix (ls n.Kids) last >>= fun v_20 => (ih (.e26 c v_20) >>= fun r_22 => (ih (.p53_2 out ((ls out).length : Int) 0 r_22))))) | .p53_2 t56_ t57_ t58_ c => (if (decide (t58_ < t57_)) = true then (ix (ls t56_) t58_ >>= fun v_25 => (ix (ls c.code) v_25 >>= fun v_28 => (ih (.p53_2 t56_ t57_ (IntKind.wrap .i64 (t58_ + 1)) ({ c with code := (vset c.code v_25 ({ v_28 with To := ((ls c.code).length : Int) } : T52)) } : T65))))) else (some c)) | .e54 c n => (ih (.p54_1 n n.Min 0 c)) | .p54_1 n t10_ t11_ c => (if (decide (t11_ < t10_)) = true then (ix (ls n.Kids) 0 >>= fun v_3 => (ih (.e59 c v_3 false) >>= fun r_5 => (if (((ls r_5.code).length : Int) == ((ls c.code).length : Int)) = true then (ih (.p54_2 n r_5)) else (ih (.p54_1 n t10_ (IntKind.wrap .i64 (t11_ + 1)) r_5))))) else (ih (.p54_2 n c))) | .p54_2 n c => (if (n.Max == (-1)) = true then (HF27 fu c ({ Kind := 2, Set := (Arr.rep 4 (0 : Int)), To := 0, Group := 0, Last := 0, Slot := 0 } : T52) >>= fun r_10 => (ix (ls n.Kids) 0 >>= fun v_12 => (ih (.e59 r_10.2 v_12 true) >>= fun r_14 => (HF27 fu r_14 ({ Kind := 3, Set := (Arr.rep 4 (0 : Int)), To := r_10.1, Group := 0, Last := 0, Slot := 0 } : T52) >>= fun r_16 => (ix (ls r_16.2.code) r_10.1 >>= fun v_19 => (some ({ r_16.2 with code := (vset r_16.2.code r_10.1 ({ v_19 with To := ((ls r_16.2.code).length : Int) } : T52)) } : T65))))))) else (ih (.p54_3 n (IntKind.wrap .i64 (n.Max - n.Min)) 0 c none))) | .p54_3 n t64_ t65_ c out => (if (decide (t65_ < t64_)) = true then (HF27 fu c ({ Kind := 2, Set := (Arr.rep 4 (0 : Int)), To := 0, Group := 0, Last := 0, Slot := 0 } : T52) >>= fun r_23 => (if ((ls out).length + (ls (some ([r_23.1] : List Int))).length) * 8 ≤ 140737488355328 then (ix (ls n.Kids) 0 >>= fun v_28 => (ih (.e59 r_23.2 v_28 true) >>= fun r_30 => (ih (.p54_3 n t64_ (IntKind.wrap .i64 (t65_ + 1)) r_30 (sapp out (ls (some ([r_23.1] : List Int)))))))) else none)) else (ih (.p54_4 out ((ls out).length : Int) 0 c))) | .p54_4 t80_ t81_ t82_ c => (if (decide (t82_ < t81_)) = true then (ix (ls t80_) t82_ >>= fun v_33 => (ix (ls c.code) v_33 >>= fun v_36 => (ih (.p54_4 t80_ t81_ (IntKind.wrap .i64 (t82_ + 1)) ({ c with code := (vset c.code v_33 ({ v_36 with To := ((ls c.code).length : Int) } : T52)) } : T65))))) else (some c)) | .e59 c n free => (if free = true then (HF27 fu c ({ Kind := 7, Set := (Arr.rep 4 (0 : Int)), To := 0, Group := 0, Last := 0, Slot := c.free } : T52) >>= fun r_3 => (ih (.p59_1 free n c.free ({ r_3.2 with free := IntKind.wrap .i64 (r_3.2.free + 1), slots := (if (IntKind.wrap .i64 (r_3.2.free + 1)) > r_3.2.slots then (IntKind.wrap .i64 (r_3.2.free + 1)) else r_3.2.slots) } : T65)))) else (ih (.p59_1 free n c.free c))) | .p59_1 free n slot c => (HF38 fu n >>= fun r_6 => (if (decide (r_6.1 > 0)) = true then (HF27 fu c ({ Kind := 6, Set := (Arr.rep 4 (0 : Int)), To := 0, Group := r_6.1, Last := r_6.2, Slot := 0 } : T52) >>= fun r_9 => (ih (.p59_2 free n slot r_9.2))) else (ih (.p59_2 free n slot c)))) | .p59_2 free n slot c => (ih (.e26 c n) >>= fun r_11 => (if free = true then (HF27 fu ({ r_11 with free := IntKind.wrap .i64 (r_11.free - 1) } : T65) ({ Kind := 8, Set := (Arr.rep 4 (0 : Int)), To := 0, Group := 0, Last := 0, Slot := slot } : T52) >>= fun r_15 => (some r_15.2)) else (some r_11)))
noncomputable def HG26r (fu : Nat)  : St26r → Option T65 := Nat.rec (motive := fun _ => St26r → Option T65) (fun _ => none) (fun fu ih => SG26r fu ih) fu
theorem HG26r_s (fu : Nat)  (st : St26r) : HG26r (fu + 1) st = SG26r fu (HG26r fu) st := rfl
theorem leG26r (fu : Nat) (st : St26r) : Le (HG26r fu st) (G26r st) := by
  induction fu generalizing st with
  | zero => exact le_none _
  | succ fu ih => cases st <;> (rw [HG26r_s]; (first | rw [G26r.eq_1] | rw [G26r.eq_2] | rw [G26r.eq_3] | rw [G26r.eq_4] | rw [G26r.eq_5] | rw [G26r.eq_6] | rw [G26r.eq_7] | rw [G26r.eq_8] | rw [G26r.eq_9] | rw [G26r.eq_10] | rw [G26r.eq_11] | rw [G26r.eq_12] | rw [G26r.eq_13] | rw [G26r.eq_14] | rw [G26r.eq_15]); unfold SG26r; dsimp only; generalize HG26r fu = hh at ih ⊢; repeat' (with_reducible first | exact ih _ | exact leF39 fu | exact leF46 fu _ _ | exact leF47 fu _ _ | exact leF50 fu _ _ | exact leF48 fu _ _ | exact leF49 fu _ _ | exact leF27 fu _ _ | exact leF38 fu _ | exact le_refl _ | apply le_ite | refine le_bind ?_ (fun _ => ?_)))
noncomputable def HF26 (fu : Nat) (c : T65) (n : T27) : Option T65 := HG26r fu (.e26 c n)
theorem leF26 (fu : Nat) (c : T65) (n : T27) : Le (HF26 fu c n) (F26 c n) := by
  unfold HF26 F26
  repeat' (with_reducible first | exact leG26r fu _ | exact le_refl _ | apply le_ite | refine le_bind ?_ (fun _ => ?_))
noncomputable def HF10 (fu : Nat) (n : T27) : Option (T34 × Int) := (HF9 fu n >>= fun r_2 => (if (r_2.2 != 0) = true then (some (({ Groups := 0, Slots := 0, Code := none } : T34), r_2.2)) else (HF26 fu ({ code := (none : Sl T52), slots := 0, free := 0 } : T65) n >>= fun r_7 => (HF27 fu r_7 ({ Kind := 12, Set := (Arr.rep 4 (0 : Int)), To := 0, Group := 0, Last := 0, Slot := 0 } : T52) >>= fun r_9 => (HF28 fu n >>= fun r_12 => (some (({ Groups := r_12, Slots := r_9.2.slots, Code := r_9.2.code } : T34), 0)))))))
theorem leF10 (fu : Nat) (n : T27) : Le (HF10 fu n) (F10 n) := by
  unfold HF10 F10
  repeat' (with_reducible first | exact leF9 fu _ | exact leF26 fu _ _ | exact leF27 fu _ _ | exact leF28 fu _ | exact le_refl _ | apply le_ite | refine le_bind ?_ (fun _ => ?_))
noncomputable def HF44 (fu : Nat) (s : Arr 4 Int) (c : Int) : Option Bool := (if (0 : Int) ≤ (IntKind.wrap .u8 (Int.tdiv c 64)) ∧ (IntKind.wrap .u8 (Int.tdiv c 64)) < (4 : Int) then (ix s.l (IntKind.wrap .u8 (Int.tdiv c 64)) >>= fun v_2 => (if 0 ≤ (Int.tmod c 64) then (some ((andI .u64 (shrI .u64 v_2 (Int.tmod c 64)) 1) == 1)) else none)) else none)
theorem leF44 (fu : Nat) (s : Arr 4 Int) (c : Int) : Le (HF44 fu s c) (F44 s c) := by
  unfold HF44 F44
  repeat' (with_reducible first | exact le_refl _ | apply le_ite | refine le_bind ?_ (fun _ => ?_))
noncomputable def HF43 (fu : Nat) (p : T34) (text : Str) (place : Int) (from_ : Sl Int) : Option (T34 × Sl Int × Int × Str) := (some (p, from_, place, text))
theorem leF43 (fu : Nat) (p : T34) (text : Str) (place : Int) (from_ : Sl Int) : Le (HF43 fu p text place from_) (F43 p text place from_) := by
  unfold HF43 F43
  repeat' (with_reducible first | exact le_refl _ | apply le_ite | refine le_bind ?_ (fun _ => ?_))
noncomputable def SG57 (fu : Nat) {σ : Type} (Y : Int → σ → Option (Bool × σ)) (ih : St57 σ → Option σ) : St57 σ → Option σ := fun st => match st with | .p1 t1_ t3_ t4_ t18_ t19_ t20_ s_ s => (if (decide (t20_ < t19_)) = true then (ix (ls t18_) t20_ >>= fun v_6 => (HF58 fu s v_6 >>= fun r_8 => (ih (.p1 t1_ t3_ t4_ t18_ t19_ (IntKind.wrap .i64 (t20_ + 1)) s_ r_8.2)))) else (ih (.p2 t1_ t3_ t4_ 0 s_ s))) | .p2 t1_ t3_ t4_ k s_ s => (if (decide (k < ((ls s.list).length : Int))) = true then (ix (ls s.list) k >>= fun v_13 => (Y v_13 s_ >>= fun r_15 => (if (!r_15.1) = true then (some r_15.2) else (ix (ls t1_.Code) v_13 >>= fun v_18 => (if (v_18.Kind == 1) = true then (ih (.p2 t1_ t3_ t4_ (IntKind.wrap .i64 (k + 1)) r_15.2 s)) else (if (v_18.Kind == 12) = true then (ih (.p2 t1_ t3_ t4_ (IntKind.wrap .i64 (k + 1)) r_15.2 s)) else (if (v_18.Kind == 2) = true then (HF58 fu s (IntKind.wrap .i64 (v_13 + 1)) >>= fun r_24 => (HF58 fu r_24.2 v_18.To >>= fun r_26 => (ih (.p2 t1_ t3_ t4_ (IntKind.wrap .i64 (k + 1)) r_15.2 r_26.2)))) else (if (v_18.Kind == 3) = true then (HF58 fu s v_18.To >>= fun r_29 => (ih (.p2 t1_ t3_ t4_ (IntKind.wrap .i64 (k + 1)) r_15.2 r_29.2))) else (if (v_18.Kind == 10) = true then (if (t3_ == 0) = true then (HF58 fu s (IntKind.wrap .i64 (v_13 + 1)) >>= fun r_33 => (ih (.p2 t1_ t3_ t4_ (IntKind.wrap .i64 (k + 1)) r_15.2 r_33.2))) else (ih (.p2 t1_ t3_ t4_ (IntKind.wrap .i64 (k + 1)) r_15.2 s))) else (if (v_18.Kind == 11) = true then (if (t3_ == ((t4_).length : Int)) = true then (HF58 fu s (IntKind.wrap .i64 (v_13 + 1)) >>= fun r_37 => (ih (.p2 t1_ t3_ t4_ (IntKind.wrap .i64 (k + 1)) r_15.2 r_37.2))) else (ih (.p2 t1_ t3_ t4_ (IntKind.wrap .i64 (k + 1)) r_15.2 s))) else (HF58 fu s (IntKind.wrap .i64 (v_13 + 1)) >>= fun r_39 => (ih (.p2 t1_ t3_ t4_ (IntKind.wrap .i64 (k + 1)) r_15.2 r_39.2))))))))))))) else (some s_))
noncomputable def HG57 (fu : Nat) {σ : Type} (Y : Int → σ → Option (Bool × σ)) : St57 σ → Option σ := Nat.rec (motive := fun _ => St57 σ → Option σ) (fun _ => none) (fun fu ih => SG57 fu Y ih) fu
theorem HG57_s (fu : Nat) {σ : Type} (Y : Int → σ → Option (Bool × σ)) (st : St57 σ) : HG57 (fu + 1) Y st = SG57 fu Y (HG57 fu Y) st := rfl
theorem leG57 (fu : Nat) {σ : Type} (Y Y2 : Int → σ → Option (Bool × σ)) (hY : ∀ a b, Le (Y a b) (Y2 a b)) (st : St57 σ) : Le (HG57 fu Y st) (G57 Y2 st) := by
  induction fu generalizing st with
  | zero => exact le_none _
  | succ fu ih => cases st <;> (rw [HG57_s]; (first | rw [G57.eq_1] | rw [G57.eq_2]); unfold SG57; dsimp only; generalize HG57 fu Y = hh at ih ⊢; repeat' (with_reducible first | exact ih _ | exact hY _ _ | exact leF58 fu _ _ | exact le_refl _ | apply le_ite | refine le_bind ?_ (fun _ => ?_)))
noncomputable def HF57 (fu : Nat) {σ : Type} (Y : Int → σ → Option (Bool × σ)) (d0_ : T34) (d1_ : Sl Int) (d2_ : Int) (d3_ : Str) (s_ : σ) : Option σ := (if 0 ≤ ((ls d0_.Code).length : Int) ∧ ((ls d0_.Code).length : Int) = ((ls d0_.Code).length : Int) ∧ (1 : Int) * ((ls d0_.Code).length : Int) ≤ 281474976710656 then (HG57 fu Y (.p1 d0_ d2_ d3_ d1_ ((ls d1_).length : Int) 0 s_ ({ in_ := (some (List.replicate (Int.toNat ((ls d0_.Code).length : Int)) (false : Bool))), list := (none : Sl Int) } : T92))) else none)
theorem leF57 (fu : Nat) {σ : Type} (Y Y2 : Int → σ → Option (Bool × σ)) (d0_ : T34) (d1_ : Sl Int) (d2_ : Int) (d3_ : Str) (s_ : σ) (hY : ∀ a b, Le (Y a b) (Y2 a b)) : Le (HF57 fu Y d0_ d1_ d2_ d3_ s_) (F57 Y2 d0_ d1_ d2_ d3_ s_) := by
  unfold HF57 F57
  repeat' (with_reducible first | exact hY _ _ | exact leG57 fu _ _ (fun _ _ => by first | exact hY _ _ ) _ | exact le_refl _ | apply le_ite | refine le_bind ?_ (fun _ => ?_))
noncomputable def HB33_1 (fu : Nat) (p : T34) (s : Str) (t6_ : Sl Int) (now : Sl Int) (t24_ : T34) (t24_2 : Sl Int) (t24_3 : Int) (t24_4 : Str) (x : Int) (zz : (Sl Int) × Int × (Sl Int) × Nat) : Option (Bool × ((Sl Int) × Int × (Sl Int) × Nat)) := if zz.2.2.2 = 0 then (ix (ls p.Code) x >>= fun v_1 => (if (v_1.Kind == 12) = true then (if ((ls zz.1).length + (ls (some ([zz.2.1] : List Int))).length) * 8 ≤ 140737488355328 then (some (true, (sapp zz.1 (ls (some ([zz.2.1] : List Int))), zz.2.1, zz.2.2.1, 0))) else none) else (if (v_1.Kind == 1) = true then (if (decide (zz.2.1 < ((s).length : Int))) = true then (ix s zz.2.1 >>= fun b_11 => (HF44 fu v_1.Set (b_11.toNat : Int) >>= fun r_13 => (if r_13 = true then (if ((ls zz.2.2.1).length + (ls (some ([IntKind.wrap .i64 (x + 1)] : List Int))).length) * 8 ≤ 140737488355328 then (some (true, (zz.1, zz.2.1, sapp zz.2.2.1 (ls (some ([IntKind.wrap .i64 (x + 1)] : List Int))), 0))) else none) else (some (true, (zz.1, zz.2.1, zz.2.2.1, 0)))))) else (some (true, (zz.1, zz.2.1, zz.2.2.1, 0)))) else (some (true, (zz.1, zz.2.1, zz.2.2.1, 0))))))
else none
theorem leB33_1 (fu : Nat) (p : T34) (s : Str) (t6_ : Sl Int) (now : Sl Int) (t24_ : T34) (t24_2 : Sl Int) (t24_3 : Int) (t24_4 : Str) (x : Int) (zz : (Sl Int) × Int × (Sl Int) × Nat) : Le (HB33_1 fu p s t6_ now t24_ t24_2 t24_3 t24_4 x zz) (B33_1 p s t6_ now t24_ t24_2 t24_3 t24_4 x zz) := by
  unfold HB33_1 B33_1
  repeat' (with_reducible first | exact leF44 fu _ _ | exact le_refl _ | apply le_ite | refine le_bind ?_ (fun _ => ?_))
noncomputable def SG33 (fu : Nat)  (ih : St33 → Option (Sl Int)) : St33 → Option (Sl Int) := fun st => match st with | .p1 p s t6_ now out place => (if (decide (((ls now).length : Int) > 0)) = true then (HF43 fu p s place now >>= fun r_8 => (ih (.p2 p s t6_ now r_8.1 r_8.2.1 r_8.2.2.1 r_8.2.2.2 out place (none : Sl Int)))) else (some out)) | .p2 p s t6_ now t24_ t24_2 t24_3 t24_4 out place next => (HF57 fu (HB33_1 fu p s t6_ now t24_ t24_2 t24_3 t24_4) t24_ t24_2 t24_3 t24_4 (out, place, next, 0) >>= fun r_11 => (if r_11.2.2.2 = 0 then (ih (.p1 p s t6_ r_11.2.2.1 r_11.1 (IntKind.wrap .i64 (r_11.2.1 + 1)))) else none))
noncomputable def HG33 (fu : Nat)  : St33 → Option (Sl Int) := Nat.rec (motive := fun _ => St33 → Option (Sl Int)) (fun _ => none) (fun fu ih => SG33 fu ih) fu
theorem HG33_s (fu : Nat)  (st : St33) : HG33 (fu + 1) st = SG33 fu (HG33 fu) st := rfl
theorem leG33 (fu : Nat) (st : St33) : Le (HG33 fu st) (G33 st) := by
  induction fu generalizing st with
  | zero => exact le_none _
  | succ fu ih => cases st <;> (rw [HG33_s]; (first | rw [G33.eq_1] | rw [G33.eq_2]); unfold SG33; dsimp only; generalize HG33 fu = hh at ih ⊢; repeat' (with_reducible first | exact ih _ | exact leF43 fu _ _ _ _ | exact leF57 fu _ _ _ _ _ _ _ (fun _ _ => by first | exact leB33_1 fu _ _ _ _ _ _ _ _ _ _) | exact leB33_1 fu _ _ _ _ _ _ _ _ _ _ | exact le_refl _ | apply le_ite | refine le_bind ?_ (fun _ => ?_)))
noncomputable def HF33 (fu : Nat) (p : T34) (s : Str) (from_ : Int) : Option (Sl Int) := (HG33 fu (.p1 p s none (some ([0] : List Int)) (none : Sl Int) from_))
theorem leF33 (fu : Nat) (p : T34) (s : Str) (from_ : Int) : Le (HF33 fu p s from_) (F33 p s from_) := by
  unfold HF33 F33
  repeat' (with_reducible first | exact leG33 fu _ | exact le_refl _ | apply le_ite | refine le_bind ?_ (fun _ => ?_))
noncomputable def HF56 (fu : Nat) (x_ : T52) : Option Bool := (some (x_.Kind == 9))
theorem leF56 (fu : Nat) (x_ : T52) : Le (HF56 fu x_) (F56 x_) := by
  unfold HF56 F56
  repeat' (with_reducible first | exact le_refl _ | apply le_ite | refine le_bind ?_ (fun _ => ?_))
noncomputable def SG60 (fu : Nat)  (ih : St60 → Option Int) : St60 → Option Int := fun st => match st with | .p1 s t7_ t8_ => (if (decide (t8_ < t7_)) = true then (ix (ls s) t8_ >>= fun v_2 => (HF56 fu v_2 >>= fun r_4 => (if r_4 = true then (some t8_) else (ih (.p1 s t7_ (IntKind.wrap .i64 (t8_ + 1))))))) else (some (-1)))
noncomputable def HG60 (fu : Nat)  : St60 → Option Int := Nat.rec (motive := fun _ => St60 → Option Int) (fun _ => none) (fun fu ih => SG60 fu ih) fu
theorem HG60_s (fu : Nat)  (st : St60) : HG60 (fu + 1) st = SG60 fu (HG60 fu) st := rfl
theorem leG60 (fu : Nat) (st : St60) : Le (HG60 fu st) (G60 st) := by
  induction fu generalizing st with
  | zero => exact le_none _
  | succ fu ih => cases st <;> (rw [HG60_s]; (first | rw [G60.eq_1]); unfold SG60; dsimp only; generalize HG60 fu = hh at ih ⊢; repeat' (with_reducible first | exact ih _ | exact leF56 fu _ | exact le_refl _ | apply le_ite | refine le_bind ?_ (fun _ => ?_)))
noncomputable def HF60 (fu : Nat) (s : Sl T52) : Option Int := (HG60 fu (.p1 s ((ls s).length : Int) 0))
theorem leF60 (fu : Nat) (s : Sl T52) : Le (HF60 fu s) (F60 s) := by
  unfold HF60 F60
  repeat' (with_reducible first | exact leG60 fu _ | exact le_refl _ | apply le_ite | refine le_bind ?_ (fun _ => ?_))
noncomputable def HF55 (fu : Nat) (s : Sl T52) : Option Bool := (HF60 fu s >>= fun r_1 => (some (decide (r_1 ≥ 0))))
theorem leF55 (fu : Nat) (s : Sl T52) : Le (HF55 fu s) (F55 s) := by
  unfold HF55 F55
  repeat' (with_reducible first | exact leF60 fu _ | exact le_refl _ | apply le_ite | refine le_bind ?_ (fun _ => ?_))
noncomputable def HF42 (fu : Nat) (p : T34) : Option Bool := (HF55 fu p.Code >>= fun r_1 => (some r_1))
theorem leF42 (fu : Nat) (p : T34) : Le (HF42 fu p) (F42 p) := by
  unfold HF42 F42
  repeat' (with_reducible first | exact leF55 fu _ | exact le_refl _ | apply le_ite | refine le_bind ?_ (fun _ => ?_))
noncomputable def SG11 (fu : Nat)  (ih : St11 → Option Bool) : St11 → Option Bool := fun st => match st with | .p1 p n t38_ t39_ t40_ => (if (decide (t40_ < t39_)) = true then (ix (ls t38_) t40_ >>= fun v_8 => (if (v_8.Kind == 1) = true then (ih (.p2 p n t40_ true t38_ t39_ t40_ v_8 ({ Kind := v_8.Kind, Set := v_8.Set, To := 0, Group := 0, Last := 0, Slot := 0 } : T52))) else (if (v_8.Kind == 2) = true then (ih (.p3 p n t40_ t38_ t39_ t40_ v_8 ({ Kind := v_8.Kind, Set := (Arr.rep 4 (0 : Int)), To := 0, Group := 0, Last := 0, Slot := 0 } : T52))) else (if (v_8.Kind == 3) = true then (ih (.p3 p n t40_ t38_ t39_ t40_ v_8 ({ Kind := v_8.Kind, Set := (Arr.rep 4 (0 : Int)), To := 0, Group := 0, Last := 0, Slot := 0 } : T52))) else (if (v_8.Kind == 4) = true then (ih (.p4 p n t40_ t38_ t39_ t40_ v_8 ({ Kind := v_8.Kind, Set := (Arr.rep 4 (0 : Int)), To := 0, Group := 0, Last := 0, Slot := 0 } : T52))) else (if (v_8.Kind == 5) = true then (ih (.p4 p n t40_ t38_ t39_ t40_ v_8 ({ Kind := v_8.Kind, Set := (Arr.rep 4 (0 : Int)), To := 0, Group := 0, Last := 0, Slot := 0 } : T52))) else (if (v_8.Kind == 9) = true then (ih (.p4 p n t40_ t38_ t39_ t40_ v_8 ({ Kind := v_8.Kind, Set := (Arr.rep 4 (0 : Int)), To := 0, Group := 0, Last := 0, Slot := 0 } : T52))) else (if (v_8.Kind == 6) = true then (if (decide (v_8.Group ≥ 1)) = true then (if (decide (v_8.Group ≤ p.Groups)) = true then (if (decide (v_8.Last ≥ v_8.Group)) = true then (ih (.p2 p n t40_ (decide (v_8.Last ≤ p.Groups)) t38_ t39_ t40_ v_8 ({ Kind := v_8.Kind, Set := (Arr.rep 4 (0 : Int)), To := 0, Group := v_8.Group, Last := v_8.Last, Slot := 0 } : T52))) else (ih (.p2 p n t40_ false t38_ t39_ t40_ v_8 ({ Kind := v_8.Kind, Set := (Arr.rep 4 (0 : Int)), To := 0, Group := v_8.Group, Last := v_8.Last, Slot := 0 } : T52)))) else (ih (.p2 p n t40_ false t38_ t39_ t40_ v_8 ({ Kind := v_8.Kind, Set := (Arr.rep 4 (0 : Int)), To := 0, Group := v_8.Group, Last := v_8.Last, Slot := 0 } : T52)))) else (ih (.p2 p n t40_ false t38_ t39_ t40_ v_8 ({ Kind := v_8.Kind, Set := (Arr.rep 4 (0 : Int)), To := 0, Group := v_8.Group, Last := v_8.Last, Slot := 0 } : T52)))) else (if (v_8.Kind == 7) = true then (ih (.p5 p n t40_ t38_ t39_ t40_ v_8 ({ Kind := v_8.Kind, Set := (Arr.rep 4 (0 : Int)), To := 0, Group := 0, Last := 0, Slot := 0 } : T52))) else (if (v_8.Kind == 8) = true then (ih (.p5 p n t40_ t38_ t39_ t40_ v_8 ({ Kind := v_8.Kind, Set := (Arr.rep 4 (0 : Int)), To := 0, Group := 0, Last := 0, Slot := 0 } : T52))) else (if (v_8.Kind == 10) = true then (ih (.p2 p n t40_ true t38_ t39_ t40_ v_8 ({ Kind := v_8.Kind, Set := (Arr.rep 4 (0 : Int)), To := 0, Group := 0, Last := 0, Slot := 0 } : T52))) else (if (v_8.Kind == 11) = true then (ih (.p2 p n t40_ true t38_ t39_ t40_ v_8 ({ Kind := v_8.Kind, Set := (Arr.rep 4 (0 : Int)), To := 0, Group := 0, Last := 0, Slot := 0 } : T52))) else (if (v_8.Kind == 12) = true then (ih (.p2 p n t40_ true t38_ t39_ t40_ v_8 ({ Kind := v_8.Kind, Set := (Arr.rep 4 (0 : Int)), To := 0, Group := 0, Last := 0, Slot := 0 } : T52))) else (some false)))))))))))))) else (some true)) | .p2 p n i ok t38_ t39_ t40_ x_ plain => (if (!ok) = true then (some false) else (if (!decide (plain = x_)) = true then (some false) else (if (!((x_.Kind == 12) == (i == (IntKind.wrap .i64 (n - 1))))) = true then (some false) else (ih (.p1 p n t38_ t39_ (IntKind.wrap .i64 (t40_ + 1))))))) | .p3 p n i t38_ t39_ t40_ x_ plain => (if (decide (x_.To ≥ 0)) = true then (ih (.p2 p n i (decide (x_.To < n)) t38_ t39_ t40_ x_ ({ plain with To := x_.To } : T52))) else (ih (.p2 p n i false t38_ t39_ t40_ x_ ({ plain with To := x_.To } : T52)))) | .p4 p n i t38_ t39_ t40_ x_ plain => (if (decide (x_.Group ≥ 1)) = true then (ih (.p2 p n i (decide (x_.Group ≤ p.Groups)) t38_ t39_ t40_ x_ ({ plain with Group := x_.Group } : T52))) else (ih (.p2 p n i false t38_ t39_ t40_ x_ ({ plain with Group := x_.Group } : T52)))) | .p5 p n i t38_ t39_ t40_ x_ plain => (if (decide (x_.Slot ≥ 0)) = true then (ih (.p2 p n i (decide (x_.Slot < p.Slots)) t38_ t39_ t40_ x_ ({ plain with Slot := x_.Slot } : T52))) else (ih (.p2 p n i false t38_ t39_ t40_ x_ ({ plain with Slot := x_.Slot } : T52))))
noncomputable def HG11 (fu : Nat)  : St11 → Option Bool := Nat.rec (motive := fun _ => St11 → Option Bool) (fun _ => none) (fun fu ih => SG11 fu ih) fu
theorem HG11_s (fu : Nat)  (st : St11) : HG11 (fu + 1) st = SG11 fu (HG11 fu) st := rfl
theorem leG11 (fu : Nat) (st : St11) : Le (HG11 fu st) (G11 st) := by
  induction fu generalizing st with
  | zero => exact le_none _
  | succ fu ih => cases st <;> (rw [HG11_s]; (first | rw [G11.eq_1] | rw [G11.eq_2] | rw [G11.eq_3] | rw [G11.eq_4] | rw [G11.eq_5]); unfold SG11; dsimp only; generalize HG11 fu = hh at ih ⊢; repeat' (with_reducible first | exact ih _ | exact le_refl _ | apply le_ite | refine le_bind ?_ (fun _ => ?_)))
noncomputable def HF11 (fu : Nat) (p : T34) : Option Bool := (if (decide (p.Groups < 0)) = true then (some false) else (if (decide (p.Groups > 99)) = true then (some false) else (if (decide (p.Slots < 0)) = true then (some false) else (if (decide (p.Slots > 16384)) = true then (some false) else (if (decide (((ls p.Code).length : Int) < 1)) = true then (some false) else (if (decide (((ls p.Code).length : Int) > 16384)) = true then (some false) else (HG11 fu (.p1 p ((ls p.Code).length : Int) p.Code ((ls p.Code).length : Int) 0))))))))
theorem leF11 (fu : Nat) (p : T34) : Le (HF11 fu p) (F11 p) := by
  unfold HF11 F11
  repeat' (with_reducible first | exact leG11 fu _ | exact le_refl _ | apply le_ite | refine le_bind ?_ (fun _ => ?_))
noncomputable def HF32 (fu : Nat) (p : T34) : Option Int := (HF11 fu p >>= fun r_1 => (if (!r_1) = true then (some 100) else (HF42 fu p >>= fun r_4 => (if r_4 = true then (some 101) else (some 0)))))
theorem leF32 (fu : Nat) (p : T34) : Le (HF32 fu p) (F32 p) := by
  unfold HF32 F32
  repeat' (with_reducible first | exact leF11 fu _ | exact leF42 fu _ | exact le_refl _ | apply le_ite | refine le_bind ?_ (fun _ => ?_))
noncomputable def SG23 (fu : Nat)  (ih : St23 → Option (T56 × Bool × Int)) : St23 → Option (T56 × Bool × Int) := fun st => match st with | .p1 t6_ => (some (({ From := 0, To := 0 } : T56), false, 2)) | .p2 s p i t6_ => (if (decide (i ≤ ((s).length : Int))) = true then (HF33 fu p s i >>= fun r_8 => (if (decide (((ls r_8).length : Int) > 0)) = true then (ix (ls r_8) (IntKind.wrap .i64 (((ls r_8).length : Int) - 1)) >>= fun v_11 => (some (({ From := i, To := v_11 } : T56), true, 0))) else (ih (.p2 s p (IntKind.wrap .i64 (i + 1)) t6_)))) else (some (({ From := 0, To := 0 } : T56), false, 0)))
noncomputable def HG23 (fu : Nat)  : St23 → Option (T56 × Bool × Int) := Nat.rec (motive := fun _ => St23 → Option (T56 × Bool × Int)) (fun _ => none) (fun fu ih => SG23 fu ih) fu
theorem HG23_s (fu : Nat)  (st : St23) : HG23 (fu + 1) st = SG23 fu (HG23 fu) st := rfl
theorem leG23 (fu : Nat) (st : St23) : Le (HG23 fu st) (G23 st) := by
  induction fu generalizing st with
  | zero => exact le_none _
  | succ fu ih => cases st <;> (rw [HG23_s]; (first | rw [G23.eq_1] | rw [G23.eq_2]); unfold SG23; dsimp only; generalize HG23 fu = hh at ih ⊢; repeat' (with_reducible first | exact ih _ | exact leF33 fu _ _ _ | exact le_refl _ | apply le_ite | refine le_bind ?_ (fun _ => ?_)))
noncomputable def HF23 (fu : Nat) (p : T34) (s : Str) (from_ : Int) : Option (T56 × Bool × Int) := (HF32 fu p >>= fun r_2 => (if (r_2 != 0) = true then (some (({ From := 0, To := 0 } : T56), false, r_2)) else (if (decide (from_ < 0)) = true then (HG23 fu (.p1 ({ From := 0, To := 0 } : T56))) else (if (decide (from_ > ((s).length : Int))) = true then (HG23 fu (.p1 ({ From := 0, To := 0 } : T56))) else (HG23 fu (.p2 s p from_ ({ From := 0, To := 0 } : T56)))))))
theorem leF23 (fu : Nat) (p : T34) (s : Str) (from_ : Int) : Le (HF23 fu p s from_) (F23 p s from_) := by
  unfold HF23 F23
  repeat' (with_reducible first | exact leF32 fu _ | exact leG23 fu _ | exact le_refl _ | apply le_ite | refine le_bind ?_ (fun _ => ?_))
noncomputable def HF8 (fu : Nat)  : Option Bool := (HF10 fu ({ Kind := 5, Set := (Arr.rep 4 (0 : Int)), Min := 1, Max := (-1), Group := 0, Kids := (some ([({ Kind := 2, Set := (aset (aset (Arr.rep 4 (0 : Int)) 0 0) 1 8589934592), Min := 0, Max := 0, Group := 0, Kids := none } : T27)] : List T27)) } : T27) >>= fun r_3 => (HF9 fu ({ Kind := 5, Set := (Arr.rep 4 (0 : Int)), Min := 1, Max := (-1), Group := 0, Kids := (some ([({ Kind := 2, Set := (aset (aset (Arr.rep 4 (0 : Int)) 0 0) 1 8589934592), Min := 0, Max := 0, Group := 0, Kids := none } : T27)] : List T27)) } : T27) >>= fun r_6 => (HF23 fu r_3.1 ([98, 97, 97] : Str) 0 >>= fun r_8 => (if (r_3.2 == 0) = true then (if (r_6.2 == 0) = true then (if (r_6.1 == 7) = true then (if (((ls r_3.1.Code).length : Int) == 7) = true then (if (r_8.2.2 == 0) = true then (if r_8.2.1 = true then (some (decide (r_8.1 = ({ From := 1, To := 3 } : T56)))) else (some false)) else (some false)) else (some false)) else (some false)) else (some false)) else (some false)))))
theorem leF8 (fu : Nat)  : Le (HF8 fu ) (F8 ) := by
  unfold HF8 F8
  repeat' (with_reducible first | exact leF10 fu _ | exact leF9 fu _ | exact leF23 fu _ _ _ | exact le_refl _ | apply le_ite | refine le_bind ?_ (fun _ => ?_))
end Go.Proofs.Ytjbafmnocopofaa
end
section
namespace Go.Proofs.Ytjbafmnocopofaa
open Go AW
theorem f8 : F8 = some true := leF8 60 true (by kernel_rfl)
end Go.Proofs.Ytjbafmnocopofaa
end
section
namespace Go.Proofs.Ytjbafmnocopofaa
open Go AW
set_option maxHeartbeats 4000000
theorem g16 (p t : T34) (hl : (ls p.Code).length ≤ 100000) : ∀ (m i : Nat), m + i = (ls p.Code).length → G16 (.p1 p (i : Int) t { Groups := p.Groups, Slots := p.Slots, Code := so ((ls p.Code).take i) }) = some { Groups := p.Groups, Slots := p.Slots, Code := so (ls p.Code) }
  | 0, i, h => by
    rw [G16.eq_1, dfi (by omega), List.take_of_length_le (by omega)]
  | m + 1, i, h => by
    obtain ⟨x, hx⟩ := get_ex (ls p.Code) (i := i) (by omega)
    have e : (ls (so ((ls p.Code).take i))).length = i := by rw [ls_so]; simp; omega
    rw [G16.eq_1, dti (by omega), ixs hx, sm]
    simp only [e]
    rw [if_pos (by simp [ls]; omega), wn1 i (by omega), sapp_so]
    have h2 := g16 p t hl m (i + 1) (by omega)
    rw [take_snoc hx] at h2
    exact h2
theorem f16 (p : T34) (hl : (ls p.Code).length ≤ 100000) : F16 p = some { Groups := p.Groups, Slots := p.Slots, Code := so (ls p.Code) } := by
  unfold F16
  have h := g16 p { Groups := 0, Slots := 0, Code := none } hl (ls p.Code).length 0 (by omega)
  rw [List.take_zero] at h
  exact h
theorem g18o (a b : T34) (hl : (ls a.Code).length ≤ 100000) (hb : ls b.Code = ls a.Code) : ∀ (m i : Nat), m + i = (ls a.Code).length → G18 (.p1 a b (i : Int)) = some true
  | 0, i, h => by rw [G18.eq_1, dfi (by omega)]
  | m + 1, i, h => by
    obtain ⟨x, hx⟩ := get_ex (ls a.Code) (i := i) (by omega)
    rw [G18.eq_1, dti (by omega), ixs hx, sm, hb, ixs hx, sm, if_neg (by simp), wn1 i (by omega)]
    exact g18o a b hl hb m (i + 1) (by omega)
theorem f18o (a b : T34) (hl : (ls a.Code).length ≤ 100000) (h1 : b.Groups = a.Groups) (h2 : b.Slots = a.Slots) (hb : ls b.Code = ls a.Code) : F18 a b = some true := by
  unfold F18
  rw [h1, h2, hb, nfi rfl, nfi rfl, nfi rfl]
  exact g18o a b hl hb (ls a.Code).length 0 (by omega)
theorem g15o (a b : Sl Int) (hl : (ls a).length ≤ 1000000000) (hb : ls b = ls a) : ∀ (m i : Nat), m + i = (ls a).length → G15 (.p1 a b (i : Int)) = some true
  | 0, i, h => by rw [G15.eq_1, dfi (by omega)]
  | m + 1, i, h => by
    obtain ⟨x, hx⟩ := get_ex (ls a) (i := i) (by omega)
    rw [G15.eq_1, dti (by omega), ixs hx, sm, hb, ixs hx, sm, nfi rfl, wn1 i (by omega)]
    exact g15o a b hl hb m (i + 1) (by omega)
theorem f15o (a b : Sl Int) (hl : (ls a).length ≤ 1000000000) (hb : ls b = ls a) : F15 a b = some true := by
  unfold F15
  rw [hb, nfi rfl]
  exact g15o a b hl hb (ls a).length 0 (by omega)
theorem vset_len {α : Type} (o : Sl α) (i : Int) (x : α) : (ls (vset o i x)).length = (ls o).length := by
  cases o <;> simp [vset, ls]
section
variable (m : Sl Int) (q was : T34) (hm : (ls m).length ≤ 200000000) (hq : (ls q.Code).length ≤ 100000) (h1 : was.Groups = q.Groups) (h2 : was.Slots = q.Slots) (hw : ls was.Code = ls q.Code)
include hm hq h1 h2 hw
theorem g5_3 (p : T34) (hp : (ls p.Code).length ≤ 100000) (kept : Sl Int) (hk : ls kept = ls m) : ∀ (n i : Nat) (l : Sl Int), n + i = (ls l).length → (ls l).length ≤ 200000000 → G5 (.p3 m (i : Int) p q was l kept) = some true
  | 0, i, l, h, hl => by
    have e : ls (sapp l (ls (some ([(-2), (-2)] : List Int)))) = ls l ++ [-2, -2] := by rw [ls_sapp]; rfl
    have e2 : ∀ (w : Sl Int), ls w = ls l ++ [-2, -2] → ix (ls w) (IntKind.wrap .i64 (((ls w).length : Int) - 1)) = some (-2) := fun w hw' => by
      rw [hw', wm1 _ (by simp) (by simp; omega)]
      exact ixs (by simp)
    rw [G5.eq_3, dfi (by omega), if_pos (by simp [ls] at hp ⊢; omega), if_pos (by simp [ls] at hl ⊢; omega), f18o q was hq h1 h2 hw, sm, if_pos rfl, f15o m kept (by omega) hk, sm, if_pos rfl, e2 _ e, sm]
    rfl
  | n + 1, i, l, h, hl => by
    obtain ⟨x, hx⟩ := get_ex (ls l) (i := i) (by omega)
    rw [G5.eq_3, dti (by omega), ixs hx, sm, wn1 i (by omega)]
    exact g5_3 p hp kept hk n (i + 1) (vset l i (-1)) (by rw [vset_len]; omega) (by rw [vset_len]; exact hl)
theorem g5_2 (l : Sl Int) (hl : (ls l).length ≤ 200000000) (kept : Sl Int) (hk : ls kept = ls m) : ∀ (n i : Nat) (p : T34), n + i = (ls p.Code).length → (ls p.Code).length ≤ 100000 → G5 (.p2 m (i : Int) p q was l kept) = some true
  | 0, i, p, h, hp => by
    rw [G5.eq_2, dfi (by omega)]
    exact g5_3 m q was hm hq h1 h2 hw p hp kept hk (ls l).length 0 l (by omega) hl
  | n + 1, i, p, h, hp => by
    obtain ⟨x, hx⟩ := get_ex (ls p.Code) (i := i) (by omega)
    rw [G5.eq_2, dti (by omega), ixs hx, sm, wn1 i (by omega)]
    exact g5_2 l hl kept hk n (i + 1) _ (by simp only []; rw [vset_len]; omega) (by simp only []; rw [vset_len]; exact hp)
theorem g5_1 (p : T34) (hp : (ls p.Code).length ≤ 100000) (l : Sl Int) (hl : (ls l).length ≤ 200000000) : ∀ (n i : Nat) (kept : Sl Int), n + i = (ls m).length → ls kept = (ls m).take i → G5 (.p1 m (i : Int) p q was l kept) = some true
  | 0, i, kept, h, hk => by
    rw [G5.eq_1, dfi (by omega)]
    rw [List.take_of_length_le (by omega)] at hk
    exact g5_2 m q was hm hq h1 h2 hw l hl kept hk (ls p.Code).length 0 p (by omega) hp
  | n + 1, i, kept, h, hk => by
    obtain ⟨x, hx⟩ := get_ex (ls m) (i := i) (by omega)
    have hkl : (ls kept).length = i := by rw [hk]; simp; omega
    rw [G5.eq_1, dti (by omega), ixs hx, sm, if_pos (by simp [ls] at hkl ⊢; omega), wn1 i (by omega)]
    exact g5_1 p hp l hl n (i + 1) _ (by omega) (by rw [ls_sapp, hk, take_snoc hx]; rfl)
end
theorem f17len (p : T34) {s : Str} (hs : s.length ≤ 100000000) : ∃ l w, F17 p s 0 = some (l, w) ∧ (ls l).length ≤ 200000000 := by
  rw [f17 p hs 0]
  split
  · exact ⟨_, _, rfl, by simp [ls]⟩
  split
  · exact ⟨_, _, rfl, by simp [ls]⟩
  refine ⟨_, _, rfl, ?_⟩
  rw [ls_so]
  have := en_len p s (0 : Int).toNat
  simp only [ints, List.length_map]
  omega
theorem pureUNfaOwn (a0 : T27) (a1 : Str) (w0 : okr27 a0) (hb : bkr27 a0 + bkS a1 ≤ 1048576) : F5 a0 a1 = some true := by
  have hs : a1.length ≤ 100000000 := by have : bkS a1 = a1.length + 1 := rfl; omega
  obtain ⟨r, hr, w, hw, h1, h2, h3⟩ := f10 a0
  have hrt : F10t a0 = some r := hr
  have hlen : (ls r.1.Code).length ≤ 100000 := by
    by_cases h0 : w.2 = 0
    · obtain ⟨hg, hc, hsz, hw1, hp⟩ := h3 h0
      rw [hp]
      have := rp_len (rp_prg hg hc hsz)
      omega
    rw [h2 h0]; simp [ls]
  obtain ⟨l, y, hl, hll⟩ := f17len r.1 hs
  have hlt : F17t r.1 a1 0 = some (l, y) := hl
  unfold F5
  rw [f8, sm, if_neg (by simp), hrt, sm, hr, sm, nfi rfl, f16 r.1 hlen, sm, hlt, sm, hl, sm]
  simp only []
  rw [nfi rfl]
  exact g5_1 l r.1 { Groups := r.1.Groups, Slots := r.1.Slots, Code := so (ls r.1.Code) } hll hlen rfl rfl (ls_so _) r.1 hlen l hll (ls l).length 0 none (by omega) (by simp [ls])
end Go.Proofs.Ytjbafmnocopofaa
end
