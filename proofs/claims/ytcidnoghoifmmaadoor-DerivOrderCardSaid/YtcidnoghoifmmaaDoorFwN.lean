/-
  The abstract walk: an operation of the program's, run, does what its plain operation says.
-/
import Derived.Test.YtcidnoghoifmmaaDoorFwX
namespace Go.Proofs.YtcidnoghoifmmaaDoor.AW
open Go

section
variable {P : Program} {E : Glob} {G : Gh} {st : Store} {w : World}

theorem RunsOp.value {s : Sem Next} {u : Value} {v : AV} (hs : StoreRel E G st w) (h : s.run P w = .ok (.value u) w) (hr : Rep G v u) : RunsOp P E s w G v st :=
  ⟨u, w, G, .inl h, hr, hs, Ext.refl G w⟩

theorem sound_nilck {v r : AV} {u : Value} (hs : StoreRel E G st w) (hr : Rep G v u)
    (h : (match (generalizing := false) v with
      | .ptr id off => if alive st id then some (AV.ptr id off) else none
      | .dptr cs => some (.dptr cs)
      | .gptr g off => some (.gptr g off)
      | .fn f caps => some (.fn f caps)
      | _ => none) = some r) (ρ : Operand → Value) (x : Operand) (hx : ρ x = u) (o : Oper) (ho : o.op = .nilCheck x) : RunsOp P E (execOp ρ o) w G r st := by
  have hexec : ∀ a, u = .pointer (some a) → (execOp ρ o).run P w = .ok (.value u) w := by
    intro a ha
    simp [execOp, ho, hx, ha]
  cases v <;> simp only [reduceCtorEq] at h
  case ptr id off =>
    split at h
    · rename_i hal
      cases h
      obtain ⟨b, hb⟩ := alive_slot hs hal
      have hr' := hr
      simp only [Rep, hb] at hr'
      exact RunsOp.value hs (hexec _ hr') hr
    · cases h
  case dptr cs =>
    cases h
    have hr' := hr
    simp only [Rep] at hr'
    obtain ⟨b, o, us, _, _, rfl⟩ := hr'
    exact RunsOp.value hs (hexec _ rfl) hr
  case gptr g off =>
    cases h
    have hr' := hr
    simp only [Rep] at hr'
    exact RunsOp.value hs (hexec _ hr') hr
  case fn f caps =>
    cases h
    have hr' := hr
    simp only [Rep] at hr'
    obtain ⟨us, _, rfl⟩ := hr'
    refine RunsOp.value hs (u := .func (.func f) #[] us.toArray) ?_ hr
    simp [execOp, ho, hx]

theorem compBin_sound {op : BinOp} {t : TypeId} {x y : Operand} {ax ay : AX} {ai : AI} {tm : Fr} {a : Act} {v : AV} {st' : Store} (hs : StoreRel E G st w) (hf : FrRel G tm a) (hx : cX x = some ax) (hy : cX y = some ay)
    (hc : compBin P op t ax ay = some ai) (he : evalAI E tm st ai = some (v, st')) :
    Runs P E (do eqGuard op t x y (a.eval x) (a.eval y); binOp op t (a.eval x) (a.eval y)) w G v st' := by
  have rx := rep_cX hf hx
  have ry := rep_cX hf hy
  have agg : ∀ (ks : List LK) (neg : Bool), leafs P 20 t = some ks → P.eqGuardType P.depth t = false → (P.underlying t).isSome = true → op = (if neg then .neq else .eql) → aggOf P t = some true →
      evalAI E tm st (.eqA neg ks ax ay) = some (v, st') → Runs P E (do eqGuard op t x y (a.eval x) (a.eval y); binOp op t (a.eval x) (a.eval y)) w G v st' := by
    intro ks neg hl hg _ hop hag he
    simp only [evalAI] at he
    split at he <;> first | (cases he; done) | skip
    rename_i as bs ha hb
    split at he
    · rename_i r hk
      cases he
      rw [ha] at rx
      rw [hb] at ry
      simp only [Rep] at rx ry
      obtain ⟨us, hu, ex⟩ := rx
      obtain ⟨vs, hv, ey⟩ := ry
      have := equalIn_leaf 20 t ks hl as bs us vs r hu hv hk 10000 (by omega) w
      simp only [asTy, hag, if_true] at this
      rw [ex, ey]
      refine Runs.same hs (u := .bool (r != neg)) ?_ (rep_bool _)
      subst hop
      cases neg
      · simp only [Bool.false_eq_true, if_false, Sem.run_bind, run_eqGuard_agg w .eql t x y us.toArray vs.toArray hg, Result.andThen_ok, run_eql_struct, this]
        cases r <;> rfl
      · simp only [if_true, Sem.run_bind, run_eqGuard_agg w .neq t x y us.toArray vs.toArray hg, Result.andThen_ok, run_neq_struct, this]
        cases r <;> rfl
    · cases he
  unfold compBin at hc
  split at hc
  · cases hc
    simp only [evalAI] at he
    split at he
    · rename_i k a' k' b' ha hb
      simp only [Option.map_eq_some_iff] at he
      obtain ⟨r, hr, he⟩ := he
      cases he
      rw [ha] at rx
      rw [hb] at ry
      simp only [Rep] at rx ry
      rw [rx, ry]
      exact sound_bin_int hs hr
    · cases he
  · cases hc
    simp only [evalAI] at he
    split at he
    · rename_i a' b' ha hb
      simp only [Option.map_eq_some_iff] at he
      obtain ⟨r, hr, he⟩ := he
      cases he
      rw [ha] at rx
      rw [hb] at ry
      simp only [Rep] at rx ry
      obtain ⟨p, rfl, ep⟩ := rx
      obtain ⟨q, rfl, eq⟩ := ry
      rw [ep, eq]
      exact sound_bin_str hs hr
    · cases he
  · rename_i hu
    have eqb : ∀ neg : Bool, op = (if neg then .neq else .eql) → evalAI E tm st (.eqB neg ax ay) = some (v, st') → Runs P E (do eqGuard op t x y (a.eval x) (a.eval y); binOp op t (a.eval x) (a.eval y)) w G v st' := by
      intro neg hop he
      simp only [evalAI] at he
      split at he
      · rename_i a' b' ha hb
        cases he
        rw [ha] at rx
        rw [hb] at ry
        simp only [Rep] at rx ry
        rw [rx, ry, hop]
        exact sound_eqB hs hu
      · cases he
    split at hc
    · cases hc; exact eqb false rfl he
    · cases hc; exact eqb true rfl he
    · cases hc
  · rename_i fs hu
    split at hc
    · cases hc
    · rename_i hg
      have hag : aggOf P t = some true := by unfold aggOf; rw [hu]
      split at hc
      · rename_i ks hl
        split at hc
        · cases hc; exact agg ks false hl (by simpa using hg) (by simp [hu]) rfl hag he
        · cases hc; exact agg ks true hl (by simpa using hg) (by simp [hu]) rfl hag he
        · cases hc
      · cases hc
  · rename_i n e hu
    split at hc
    · cases hc
    · rename_i hg
      have hag : aggOf P t = some true := by unfold aggOf; rw [hu]
      split at hc
      · rename_i ks hl
        split at hc
        · cases hc; exact agg ks false hl (by simpa using hg) (by simp [hu]) rfl hag he
        · cases hc; exact agg ks true hl (by simpa using hg) (by simp [hu]) rfl hag he
        · cases hc
      · cases hc
  · cases hc

theorem compCall_sound {c : Call} {ty : TypeId} {ai : AI} {tm : Fr} {a : Act} {v : AV} {st' : Store} (hs : StoreRel E G st w) (hf : FrRel G tm a)
    {mu : Bool} (hc : compCall P mu c = some ai) (he : evalAI E tm st ai = some (v, st')) (o : Oper) (ho : o.op = .call c) (hty : o.type = ty) :
    RunsOp P E (execOp a.eval o) w G v st' := by
  have exec : ∀ (b : Builtin) (xs : List AX), c.callee = .builtin b → c.args.toList.mapM cX = some xs → ∃ us : List Value, RepL G (xs.map tm.x) us ∧ execOp a.eval o = builtin b c.argTypes ty (c.args.map fun | .const _ => true | _ => false) us.toArray := by
    intro b xs hb hxs
    have := mapM_rep hf hxs
    refine ⟨_, this, ?_⟩
    simp only [execOp, ho, resolve, hb, pure_bind, invoke, hty]
    congr 1
    apply Array.ext'
    simp
  unfold compCall at hc
  split at hc
  · rename_i x hb hx
    obtain ⟨us, hus, hex⟩ := exec _ _ hb hx
    simp only [List.map_cons, List.map_nil, RepL] at hus
    obtain ⟨u, _, rfl, hu, rfl⟩ := hus
    rw [hex]
    split at hc
    · rename_i hu0
      cases hc
      simp only [Option.bind_eq_some_iff] at hu0
      obtain ⟨t, ht0, ht⟩ := hu0
      simp only [evalAI] at he
      split at he
      · rename_i s hsx
        cases he
        rw [hsx] at hu
        exact Runs.op (sound_lenS hs hu ht0 ht)
      · cases he
    · rename_i e hu0
      cases hc
      simp only [Option.bind_eq_some_iff] at hu0
      obtain ⟨t, ht0, ht⟩ := hu0
      simp only [evalAI] at he
      have : ∃ r, (match tm.x x with
        | .nils => some (AV.int .i64 0)
        | .sl _ xs _ => some (.int .i64 xs.length)
        | .row id _ _ n => if alive st id then some (.int .i64 n) else none
        | _ => none) = some r ∧ v = r ∧ st' = st := by
        split at he <;> first | (cases he; done) | skip
        · rename_i h; cases he; exact ⟨_, by rw [h], rfl, rfl⟩
        · rename_i h; cases he; exact ⟨_, by rw [h], rfl, rfl⟩
        · rename_i h
          split at he
          · rename_i hal; cases he; exact ⟨_, by rw [h]; simp [hal], rfl, rfl⟩
          · cases he
      obtain ⟨r, hr, rfl, rfl⟩ := this
      exact Runs.op (sound_len hs hu ht0 ht hr)
    · rename_i n e hu0
      cases hc
      simp only [Option.bind_eq_some_iff] at hu0
      obtain ⟨t, ht0, ht⟩ := hu0
      simp only [evalAI] at he
      cases he
      exact Runs.op (Runs.same hs (u := .int .i64 n) (by simp [Builtin.len_, ht0, run_underlying ht, goInt]) (rep_int _ _))
    · rename_i kt et hu0
      cases hc
      simp only [Option.bind_eq_some_iff] at hu0
      obtain ⟨t, ht0, ht⟩ := hu0
      simp only [evalAI] at he
      have : ∃ r, (match tm.x x with
        | .nilmp => some (AV.int .i64 0)
        | .mp id => (match st[id]? with
          | some (.map _ _ n) => some (.int .i64 n)
          | _ => none)
        | _ => none) = some r ∧ v = r ∧ st' = st := by
        split at he <;> first | (cases he; done) | skip
        · rename_i h; cases he; exact ⟨_, by rw [h], rfl, rfl⟩
        · rename_i h
          split at he
          · rename_i hm; cases he; exact ⟨_, by rw [h]; simp [hm], rfl, rfl⟩
          · cases he
      obtain ⟨r, hr, rfl, rfl⟩ := this
      exact Runs.op (sound_lenM hs hu ht0 ht hr)
    · cases hc
  · rename_i xs hb hx
    cases hc
    obtain ⟨us, hus, hex⟩ := exec _ _ hb hx
    simp only [evalAI, Option.map_eq_some_iff] at he
    obtain ⟨r, hr, he⟩ := he
    cases he
    rw [hex]
    obtain ⟨x, rest, u, rfl, hrun, hu⟩ := maxA_sound (P := P) (w := w) _ _ _ _ rfl hus hr
    exact Runs.op (Runs.same hs (by simp only [Builtin.max_]; exact hrun) hu)
  · rename_i xs hb hx
    cases hc
    obtain ⟨us, hus, hex⟩ := exec _ _ hb hx
    simp only [evalAI, Option.map_eq_some_iff] at he
    obtain ⟨r, hr, he⟩ := he
    cases he
    rw [hex]
    obtain ⟨x, rest, u, rfl, hrun, hu⟩ := minA_sound (P := P) (w := w) _ _ _ _ rfl hus hr
    exact Runs.op (Runs.same hs (by simp only [Builtin.min_]; exact hrun) hu)
  · rename_i x y hb hx
    obtain ⟨us, hus, hex⟩ := exec _ _ hb hx
    simp only [List.map_cons, List.map_nil, RepL] at hus
    obtain ⟨u, _, rfl, hu, y', _, rfl, hy, rfl⟩ := hus
    rw [hex]
    have main : ∀ (e : TypeId) (i : TypeInfo) (t t' : TypeId), c.argTypes[0]? = some t → c.argTypes[1]? = some t' → P.underlying t = some (.slice e) → ((∃ f, P.underlying t' = some (.slice f)) ∨ P.underlying t' = some .string) →
        P.info? e = some i → 0 < i.size → 0 < i.bytes → (zeroOf P e).isSome = true → ∀ b : Bool, evalAI E tm st (if b then .appT e i.size i.bytes x y else .app i.size i.bytes x y) = some (v, st') →
        RunsOp P E (builtin .append c.argTypes ty (c.args.map fun | .const _ => true | _ => false) #[u, y']) w G v st' := by
      intro e i t t' h0 h1 ht ht' hi hsz hby hz b he
      obtain ⟨zs, hz⟩ := Option.isSome_iff_exists.1 hz
      obtain ⟨i', z, hi', z1, z2, _, _⟩ := zeroOf_spec hz
      rw [hi] at hi'; cases hi'
      have hrun2 : ∀ s q, (Builtin.append_ c.argTypes ty #[s, q]).run P w = (Builtin.append_ #[t, t'] ty #[s, q]).run P w := by
        intro s q
        simp only [Builtin.append_, h0, h1]
        rfl
      have T : AppT P #[t, t'] e i z := ⟨⟨t, t', rfl, ht, ht'⟩, hi, z1, z2, hsz, hby⟩
      have lift : ∀ {s q : Value} {r : AV} {st2 : Store}, Runs P E (Builtin.append_ #[t, t'] ty #[s, q]) w G r st2 → Runs P E (Builtin.append_ c.argTypes ty #[s, q]) w G r st2 := by
        rintro s q r st2 ⟨u, w', G', hr, rest⟩
        exact ⟨u, w', G', (hrun2 s q).trans hr, rest⟩
      cases b with
      | false =>
        simp only [Bool.false_eq_true, if_false, evalAI] at he
        split at he
        · rename_i ys hys
          obtain ⟨S⟩ := appSrc hs hy hys
          split at he
          · rename_i hxn
            rw [hxn] at hu
            simp only [Rep] at hu
            subst hu
            split at he
            · cases he
              have hn0 : S.news = [] := List.eq_nil_of_length_eq_zero (by simpa using S.len)
              have hrd := S.read
              rw [hn0] at hrd
              refine Runs.op (lift (Runs.same hs (run_app_none T S.lenOf (by simpa using hrd)) (by simp only [Rep])))
            · split at he
              · rename_i hfit
                cases he
                exact Runs.op (lift (sound_app_nil T hs S (by simp) hfit))
              · cases he
          · rename_i es' xs id hxs
            split at he
            · rename_i n hst
              split at he
              · rename_i hcond
                obtain ⟨rfl, rfl, hfit⟩ := hcond
                cases he
                rw [hxs] at hu
                exact Runs.op (lift (sound_app_sl T hs hu (fun _ h => by cases h) hst S hfit))
              · cases he
            · cases he
          · rename_i id es' off len hxs
            split at he
            · rename_i cs hst
              split at he
              · rename_i hcond
                obtain ⟨rfl, rfl, hlen, hone, hfit⟩ := hcond
                cases he
                rw [hxs] at hu
                obtain ⟨G1, s1, x1, r1⟩ := freeze_row hs hu hst hlen hsz hone
                have hxl : ((chunks i.size len cs).map (ofCells (!(i.size == 1)))).length = len := by simp [chunks_len]
                have hto : (st.set id .dead ++ [AObj.tail len])[st.length]? = some (.tail ((chunks i.size len cs).map (ofCells (!(i.size == 1)))).length) := by
                  rw [hxl, List.getElem?_append_right (by simp)]; simp
                obtain ⟨u2, w2, G2, k1, k2, k3, k4⟩ := sound_app_sl T s1 r1 (fun _ h => by cases h) hto (S.mono x1.g) (by rw [hxl]; exact hfit)
                have est : (st.set id .dead ++ [AObj.tail len]).set st.length (.tail (((chunks i.size len cs).map (ofCells (!(i.size == 1)))).length + ys.length)) = st.set id .dead ++ [.tail (len + ys.length)] := by
                  have h5 := set_snoc (AObj.tail len) (.tail (len + ys.length)) (st.set id .dead)
                  rw [List.length_set] at h5
                  rw [hxl]; exact h5
                rw [est] at k3
                exact Runs.op (lift ⟨u2, w2, G2, k1, k2, k3, x1.trans k4⟩)
              · cases he
            · cases he
          · cases he
        · cases he
      | true =>
        simp only [if_true, evalAI] at he
        split at he
        · rename_i ys hys
          obtain ⟨S⟩ := appSrc hs hy hys
          split at he
          · rename_i hxn
            rw [hxn] at hu
            simp only [Rep] at hu
            subst hu
            split at he
            · cases he
              have hn0 : S.news = [] := List.eq_nil_of_length_eq_zero (by simpa using S.len)
              have hrd := S.read
              rw [hn0] at hrd
              refine Runs.op (lift (Runs.same hs (run_app_none T S.lenOf (by simpa using hrd)) (by simp only [Rep])))
            · split at he
              · rename_i hfit
                cases he
                exact Runs.op (lift (sound_app_nil T hs S (by simp) hfit (some e) (fun _ h => by cases h; rfl)))
              · cases he
          · rename_i es' xs id hxs
            split at he
            · rename_i n T' hst
              split at he
              · rename_i hcond
                obtain ⟨rfl, rfl, rfl, hfit⟩ := hcond
                cases he
                rw [hxs] at hu
                exact Runs.op (lift (sound_app_sl T hs hu (fun _ h => by cases h; rfl) hst S hfit))
              · cases he
            · cases he
          · cases he
        · cases he
    have mainR : ∀ (e : TypeId) (i : TypeInfo) (t t' : TypeId), c.argTypes[0]? = some t → c.argTypes[1]? = some t' → P.underlying t = some (.slice e) → ((∃ f, P.underlying t' = some (.slice f)) ∨ P.underlying t' = some .string) →
        P.info? e = some i → 0 < i.size → 0 < i.bytes → (zeroOf P e).isSome = true → evalAI E tm st (.appR i.size i.bytes x y) = some (v, st') →
        RunsOp P E (builtin .append c.argTypes ty (c.args.map fun | .const _ => true | _ => false) #[u, y']) w G v st' := by
      intro e i t t' h0 h1 ht ht' hi hsz hby hz he
      obtain ⟨zs, hz⟩ := Option.isSome_iff_exists.1 hz
      obtain ⟨i', z, hi', z1, z2, _, _⟩ := zeroOf_spec hz
      rw [hi] at hi'; cases hi'
      have hrun2 : ∀ s q, (Builtin.append_ c.argTypes ty #[s, q]).run P w = (Builtin.append_ #[t, t'] ty #[s, q]).run P w := by
        intro s q
        simp only [Builtin.append_, h0, h1]
        rfl
      have T : AppT P #[t, t'] e i z := ⟨⟨t, t', rfl, ht, ht'⟩, hi, z1, z2, hsz, hby⟩
      have lift : ∀ {s q : Value} {r : AV} {st2 : Store}, Runs P E (Builtin.append_ #[t, t'] ty #[s, q]) w G r st2 → Runs P E (Builtin.append_ c.argTypes ty #[s, q]) w G r st2 := by
        rintro s q r st2 ⟨u, w', G', hr, rest⟩
        exact ⟨u, w', G', (hrun2 s q).trans hr, rest⟩
      simp only [evalAI] at he
      split at he
      · rename_i ys hys
        obtain ⟨S⟩ := appSrc hs hy hys
        split at he
        · rename_i hxn
          rw [hxn] at hu
          simp only [Rep] at hu
          subst hu
          split at he
          · cases he
            have hn0 : S.news = [] := List.eq_nil_of_length_eq_zero (by simpa using S.len)
            have hrd := S.read
            rw [hn0] at hrd
            refine Runs.op (lift (Runs.same hs (run_app_none T S.lenOf (by simpa using hrd)) (by simp only [Rep])))
          · split at he
            · rename_i hfit
              cases he
              exact Runs.op (lift (sound_app_nilR T hs S (by simp) hfit))
            · cases he
        · rename_i id es' off len hxs
          split at he
          · rename_i cs hst
            split at he
            · rename_i hcond
              obtain ⟨rfl, rfl, hlen, hfit⟩ := hcond
              cases he
              rw [hxs] at hu
              exact Runs.op (lift (sound_app_row T hs hu hst hlen S hfit))
            · cases he
          · cases he
        · cases he
      · cases he
    split at hc <;> first | (cases hc; done) | skip
    all_goals
      rename_i hu0 hu1
      simp only [Option.bind_eq_some_iff] at hu0 hu1 hc
      obtain ⟨t, ht0, ht⟩ := hu0
      obtain ⟨t', ht1, ht'⟩ := hu1
      obtain ⟨i, hi, hc⟩ := hc
      split at hc
      · rename_i hcond
        simp only [Bool.and_eq_true, decide_eq_true_eq] at hcond
        cases hc
        cases mu with
        | false => exact main _ i t t' ht0 ht1 ht (by first | exact .inl ⟨_, ht'⟩ | exact .inr ht') hi hcond.1.1 hcond.1.2 hcond.2 false he
        | true =>
          simp only [if_true] at he
          split at he
          · exact main _ i t t' ht0 ht1 ht (by first | exact .inl ⟨_, ht'⟩ | exact .inr ht') hi hcond.1.1 hcond.1.2 hcond.2 true he
          · exact mainR _ i t t' ht0 ht1 ht (by first | exact .inl ⟨_, ht'⟩ | exact .inr ht') hi hcond.1.1 hcond.1.2 hcond.2 he
      · cases hc
  · cases hc
end
end Go.Proofs.YtcidnoghoifmmaaDoor.AW
