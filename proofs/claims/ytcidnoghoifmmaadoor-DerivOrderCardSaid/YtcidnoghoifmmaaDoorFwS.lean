/-
  The abstract walk: statements that draw the order of their operations. (First part: operations that look alone.)
-/
import Derived.Test.YtcidnoghoifmmaaDoorFwQ
namespace Go.Proofs.YtcidnoghoifmmaaDoor.AW
open Go

def AI.xs : AI → List AX
  | .mv x => [x]
  | .pick c a b => [c, a, b]
  | .alloc _ => []
  | .box _ x => [x]
  | .boxD _ x => [x]
  | .slR _ x lo hi => x :: (lo.toList ++ hi.toList)
  | .bslD _ _ _ _ ps => ps.map fun p => p.2.2
  | .build _ ps => ps.map fun p => p.2.2
  | .bslice _ _ _ _ ps _ => ps.map fun p => p.2.2
  | .load1 x => [x]
  | .loadN _ x => [x]
  | .store _ a x => [a, x]
  | .nilck x => [x]
  | .binI _ x y => [x, y]
  | .binS _ x y => [x, y]
  | .eqB _ x y => [x, y]
  | .eqA _ _ x y => [x, y]
  | .un _ x => [x]
  | .cvI _ x => [x]
  | .cvS x => [x]
  | .s2b _ x => [x]
  | .b2s x => [x]
  | .slS x lo hi => x :: (lo.toList ++ hi.toList)
  | .slL _ x lo hi => x :: (lo.toList ++ hi.toList)
  | .faddr _ x => [x]
  | .field1 _ x => [x]
  | .fieldN _ _ x => [x]
  | .iaddrA _ _ x i => [x, i]
  | .iaddrL _ x i => [x, i]
  | .ixA1 _ _ x i => [x, i]
  | .ixAN _ _ x i => [x, i]
  | .ixS x i => [x, i]
  | .extract x _ => [x]
  | .lenS x => [x]
  | .len x => [x]
  | .lenA _ => []
  | .app _ _ x y => [x, y]
  | .appT _ _ _ x y => [x, y]
  | .appR _ _ x y => [x, y]
  | .max xs => xs
  | .min xs => xs
  | .mkfn _ xs => xs
  | .mkslice _ _ _ l c _ => [l, c]
  | .cvB x => [x]
  | .mkmap _ => []
  | .mapset _ m k x => [m, k, x]
  | .lookup _ _ _ m k => [m, k]
  | .lenM x => [x]
  | .allocB _ _ _ => []
  | .ixB x c => [x, c]

theorem partsOk_congr {tm tm' : Fr} {total : Nat} : ∀ {ps : List (Nat × Nat × AX)}, (∀ x ∈ ps.map (fun p => p.2.2), tm.x x = tm'.x x) → partsOk total ps tm = partsOk total ps tm'
  | [], _ => rfl
  | (o, s, x) :: ps, h => by
    have h1 := h x (by simp)
    have h2 := partsOk_congr (total := total) (ps := ps) fun y hy => h y (by simp at hy ⊢; exact .inr hy)
    simp only [partsOk, h1, h2]

theorem eval_congr {E : Glob} {tm tm' : Fr} {st : Store} {i : AI} (h : ∀ x ∈ i.xs, tm.x x = tm'.x x) : evalAI E tm st i = evalAI E tm' st i := by
  have ob : ∀ {o : Option AX} {d : Nat}, (∀ x ∈ o.toList, tm.x x = tm'.x x) → bound (o.map tm.x) d = bound (o.map tm'.x) d := by
    intro o d ho
    cases o with
    | none => rfl
    | some x => simp only [Option.map_some]; rw [ho x (by simp)]
  cases i <;> simp only [AI.xs, List.mem_cons, List.not_mem_nil, or_false, forall_eq_or_imp, forall_eq, List.mem_append] at h
  case build z ps => simp only [evalAI]; rw [partsOk_congr h]
  case bslice es len ag z ps mu => simp only [evalAI]; rw [partsOk_congr h]
  case bslD es len ag z ps => simp only [evalAI]; rw [partsOk_congr h]
  case slS x lo hi =>
    simp only [evalAI]
    rw [h.1, ob fun y hy => h.2 y (.inl hy)]
    cases tm'.x x <;> simp only []
    rw [ob fun y hy => h.2 y (.inr hy)]
  case slR es x lo hi =>
    have hb : ∀ d, bound (hi.map tm.x) d = bound (hi.map tm'.x) d := fun d => ob fun y hy => h.2 y (.inr hy)
    simp only [evalAI, h.1, hb]
  case slL es x lo hi =>
    simp only [evalAI]
    rw [h.1, ob fun y hy => h.2 y (.inl hy)]
    cases tm'.x x <;> simp only []
    all_goals rw [ob fun y hy => h.2 y (.inr hy)]
  case max xs => simp only [evalAI]; rw [List.map_congr_left h]
  case min xs => simp only [evalAI]; rw [List.map_congr_left h]
  case mkfn f xs => simp only [evalAI]; rw [List.map_congr_left h]
  all_goals simp only [evalAI, h]

def AI.still : AI → Bool
  | .allocB _ _ _ => false
  | .alloc _ => false
  | .box _ _ => false
  | .bslice _ _ _ _ _ _ => false
  | .store _ _ _ => false
  | .s2b _ _ => false
  | .app _ _ _ _ => false
  | .appT _ _ _ _ _ => false
  | .appR _ _ _ _ => false
  | .mkslice _ _ _ _ _ _ => false
  | .mkmap _ => false
  | .mapset _ _ _ _ => false
  | .cvB _ => false
  | .slR _ _ _ _ => false
  | _ => true

def AObj.live : AObj → Bool
  | .dead => false
  | .hid => false
  | .unborn => false
  | _ => true

structure Agree (st st2 : Store) : Prop where
  l : ∀ (i : Nat) (o : AObj), st[i]? = some o → o.live = true → st2[i]? = some o
  hid : ∀ i : Nat, st[i]? = some .hid → ∃ cs, st2[i]? = some (.cells cs)

theorem alive_append {st st2 : Store} {id : Nat} (hA : Agree st st2) (h : alive st id = true) : alive st2 id = true := by
  unfold alive at h ⊢
  split at h
  · rename_i cs hc; rw [hA.l _ _ hc rfl]
  · rename_i hc; obtain ⟨cs, h'⟩ := hA.hid _ hc; rw [h']
  · cases h

theorem cellsAt_append {E : Glob} {st : Store} {n : Nat} {v : AV} {cs : List AV} {st2 : Store} (hA : Agree st st2) (h : cellsAt E st n v = some cs) : cellsAt E st2 n v = some cs := by
  unfold cellsAt at h ⊢
  split at h
  · split at h
    · rename_i hc
      simp only [hA.l _ _ hc rfl]
      exact h
    · cases h
  · exact h
  · exact h
  · cases h

theorem elemsOf_append {st : Store} {v : AV} {xs : List AV} {st2 : Store} (hA : Agree st st2) (h : elemsOf st v = some xs) : elemsOf st2 v = some xs := by
  unfold elemsOf at h ⊢
  split at h
  · exact h
  · exact h
  · split at h
    · rename_i hc
      simp only [hA.l _ _ hc rfl]
      exact h
    · cases h
  · cases h

theorem eval_more {E : Glob} {tm : Fr} {st : Store} {i : AI} {v : AV} {st' : Store} {st2 : Store} (hA : Agree st st2) (hs : i.still = true) (h : evalAI E tm st i = some (v, st')) : st' = st ∧ evalAI E tm st2 i = some (v, st2) := by
  cases i <;> simp only [AI.still, Bool.false_eq_true] at hs
  case mv x => simp only [evalAI] at h ⊢; cases h; exact ⟨rfl, rfl⟩
  case ixB x c =>
    simp only [evalAI] at h ⊢
    split at h
    · cases h; exact ⟨rfl, rfl⟩
    · cases h
  case pick c a b =>
    simp only [evalAI] at h ⊢
    split at h
    · cases h; exact ⟨rfl, rfl⟩
    · cases h
  case bslD es len ag z ps =>
    simp only [evalAI] at h ⊢
    split at h
    · split at h
      · rename_i hc; cases h; exact ⟨rfl, if_pos hc⟩
      · cases h
    · cases h
  case boxD n x =>
    simp only [evalAI] at h ⊢
    split at h
    · rename_i hc; cases h; exact ⟨rfl, if_pos hc⟩
    · cases h
  case build z ps =>
    simp only [evalAI] at h ⊢
    split at h
    · cases h; exact ⟨rfl, rfl⟩
    · cases h
  case load1 x =>
    simp only [evalAI] at h ⊢
    split at h
    · rename_i cs hc
      cases h
      rw [cellsAt_append hA hc]
      exact ⟨rfl, rfl⟩
    · cases h
  case loadN n x =>
    simp only [evalAI] at h ⊢
    split at h
    · rename_i cs hc
      cases h
      rw [cellsAt_append hA hc]
      exact ⟨rfl, rfl⟩
    · cases h
  case nilck x =>
    simp only [evalAI] at h ⊢
    split at h <;> first | (cases h; done) | skip
    · split at h
      · rename_i hal; cases h; rw [alive_append hA hal]; exact ⟨rfl, rfl⟩
      · cases h
    all_goals (cases h; exact ⟨rfl, rfl⟩)
  case binI op x y =>
    simp only [evalAI] at h ⊢
    split at h
    · simp only [Option.map_eq_some_iff] at h ⊢
      obtain ⟨r, hr, he⟩ := h
      cases he
      exact ⟨rfl, _, hr, rfl⟩
    · cases h
  case binS op x y =>
    simp only [evalAI] at h ⊢
    split at h
    · simp only [Option.map_eq_some_iff] at h ⊢
      obtain ⟨r, hr, he⟩ := h
      cases he
      exact ⟨rfl, _, hr, rfl⟩
    · cases h
  case eqB n x y =>
    simp only [evalAI] at h ⊢
    split at h
    · cases h; exact ⟨rfl, rfl⟩
    · cases h
  case eqA n ks x y =>
    simp only [evalAI] at h ⊢
    split at h
    · split at h
      · cases h; exact ⟨rfl, rfl⟩
      · cases h
    · cases h
  case un op x =>
    simp only [evalAI] at h ⊢
    split at h <;> first | (cases h; done) | skip
    all_goals (cases h; exact ⟨rfl, rfl⟩)
  case cvI k x =>
    simp only [evalAI] at h ⊢
    split at h
    · cases h; exact ⟨rfl, rfl⟩
    · cases h
  case cvS x =>
    simp only [evalAI] at h ⊢
    split at h
    · cases h; exact ⟨rfl, rfl⟩
    · cases h
  case b2s x =>
    simp only [evalAI] at h ⊢
    split at h
    · rename_i xs hx
      rw [elemsOf_append hA hx]
      simp only
      split at h
      · cases h; exact ⟨rfl, rfl⟩
      · cases h
    · cases h
  case slS x lo hi =>
    simp only [evalAI] at h ⊢
    split at h
    · split at h
      · split at h
        · rename_i hc; cases h; rw [if_pos hc]; exact ⟨rfl, rfl⟩
        · cases h
      · cases h
    · cases h
  case slL es x lo hi =>
    simp only [evalAI] at h ⊢
    split at h <;> first | (cases h; done) | skip
    · split at h
      · split at h
        · rename_i hc; cases h; rw [if_pos hc]; exact ⟨rfl, rfl⟩
        · cases h
      · cases h
    · split at h
      · cases h; exact ⟨rfl, rfl⟩
      · cases h
    · split at h
      · split at h
        · rename_i hc; cases h; rw [if_pos ⟨alive_append hA hc.1, hc.2⟩]; exact ⟨rfl, rfl⟩
        · cases h
      · cases h
  case faddr off x =>
    simp only [evalAI] at h ⊢
    split at h <;> first | (cases h; done) | skip
    · split at h
      · rename_i hal; cases h; rw [alive_append hA hal]; exact ⟨rfl, rfl⟩
      · cases h
    all_goals (cases h; exact ⟨rfl, rfl⟩)
  case field1 off x =>
    simp only [evalAI] at h ⊢
    split at h
    · split at h
      · cases h; exact ⟨rfl, rfl⟩
      · cases h
    · cases h
  case fieldN off n x =>
    simp only [evalAI] at h ⊢
    split at h
    · split at h
      · rename_i hc; cases h; rw [if_pos hc]; exact ⟨rfl, rfl⟩
      · cases h
    · cases h
  case iaddrA len es x j =>
    simp only [evalAI] at h ⊢
    split at h
    · split at h
      · rename_i hc
        rw [if_pos hc]
        split at h <;> first | (cases h; done) | skip
        · split at h
          · rename_i hal; cases h; rw [alive_append hA hal]; exact ⟨rfl, rfl⟩
          · cases h
        all_goals (cases h; exact ⟨rfl, rfl⟩)
      · cases h
    · cases h
  case iaddrL es x j =>
    simp only [evalAI] at h ⊢
    split at h
    · split at h <;> first | (cases h; done) | skip
      · split at h
        · rename_i hc
          rw [if_pos hc]
          split at h
          · cases h; exact ⟨rfl, rfl⟩
          · cases h
        · cases h
      · split at h
        · rename_i hc; cases h; rw [if_pos ⟨alive_append hA hc.1, hc.2⟩]; exact ⟨rfl, rfl⟩
        · cases h
    · cases h
  case ixA1 len es x j =>
    simp only [evalAI] at h ⊢
    split at h
    · split at h
      · rename_i hc
        rw [if_pos hc]
        split at h
        · cases h; exact ⟨rfl, rfl⟩
        · cases h
      · cases h
    · cases h
  case ixAN len es x j =>
    simp only [evalAI] at h ⊢
    split at h
    · split at h
      · rename_i hc; cases h; rw [if_pos hc]; exact ⟨rfl, rfl⟩
      · cases h
    · cases h
  case ixS x j =>
    simp only [evalAI] at h ⊢
    split at h
    · split at h
      · rename_i hc
        rw [if_pos hc]
        split at h
        · cases h; exact ⟨rfl, rfl⟩
        · cases h
      · cases h
    · cases h
  case extract x j =>
    simp only [evalAI] at h ⊢
    split at h
    · split at h
      · cases h; exact ⟨rfl, rfl⟩
      · cases h
    · cases h
  case lenS x =>
    simp only [evalAI] at h ⊢
    split at h
    · cases h; exact ⟨rfl, rfl⟩
    · cases h
  case len x =>
    simp only [evalAI] at h ⊢
    split at h <;> first | (cases h; done) | skip
    · cases h; exact ⟨rfl, rfl⟩
    · cases h; exact ⟨rfl, rfl⟩
    · split at h
      · rename_i hal; cases h; rw [alive_append hA hal]; exact ⟨rfl, rfl⟩
      · cases h
  case lenA n => simp only [evalAI] at h ⊢; cases h; exact ⟨rfl, rfl⟩
  case max xs =>
    simp only [evalAI, Option.map_eq_some_iff] at h ⊢
    obtain ⟨r, hr, he⟩ := h
    cases he
    exact ⟨rfl, _, hr, rfl⟩
  case min xs =>
    simp only [evalAI, Option.map_eq_some_iff] at h ⊢
    obtain ⟨r, hr, he⟩ := h
    cases he
    exact ⟨rfl, _, hr, rfl⟩
  case mkfn f xs => simp only [evalAI] at h ⊢; cases h; exact ⟨rfl, rfl⟩
  case lookup kd z ok m k =>
    simp only [evalAI] at h ⊢
    split at h
    · rename_i f c hm hk
      cases h
      have : mapOf kd st2 (tm.x m) = some f := by
        unfold mapOf at hm ⊢
        split at hm
        · exact hm
        · split at hm
          · rename_i hc
            simp only [hA.l _ _ hc rfl]
            exact hm
          · cases hm
        · cases hm
      simp only [this, hk]
      first | exact ⟨rfl, rfl⟩ | exact ⟨trivial, rfl⟩ | trivial
    · cases h
  case lenM x =>
    simp only [evalAI] at h ⊢
    split at h
    · cases h; exact ⟨rfl, rfl⟩
    · split at h
      · rename_i hc
        cases h
        simp only [hA.l _ _ hc rfl]
        first | exact ⟨rfl, rfl⟩ | exact ⟨trivial, rfl⟩ | trivial
      · cases h
    · cases h
end Go.Proofs.YtcidnoghoifmmaaDoor.AW
