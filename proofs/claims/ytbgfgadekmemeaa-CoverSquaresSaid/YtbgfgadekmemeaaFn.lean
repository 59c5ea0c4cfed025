/- The evaluator is sound, the single operation: what sem says is what the machine does, whichever operation it is. Conditions: a table of types that is so, contracts that are met. -/
import Derived.Test.YtbgfgadekmemeaaFm
namespace Go.Proofs.Ytbgfgadekmemeaa.Ev
open Go.RowKit
set_option linter.unusedVariables false
set_option linter.unusedSimpArgs false
set_option linter.unusedSectionVars false

section
variable {P : Program} {S : Nat → Prop} {w0 w w' : World} {c0 : C0} {X : List Nat} {G G' : Gh} {st : St} {a : Act} {E : Nat × Nat → Prop}
variable {c : Ctx} {g : Nat → AV}

theorem Done.value {o : Oper} {After : Act → World → Prop} {v : Value} {w' : World} {s : Sem Value} (he : execOp a.eval o = (do pure (Next.value (← s)))) (hr : s.run P w = .ok v w') (h : After (a.put o.dst v) w') : Done P o a w After :=
  .inl ⟨v, w', by rw [he]; simp only [Sem.run_bind, hr, Result.andThen_ok, Sem.run_pure], h⟩

theorem Done.val {o : Oper} {After : Act → World → Prop} {v : Value} (he : (execOp a.eval o).run P w = .ok (.value v) w) (h : After (a.put o.dst v) w) : Done P o a w After :=
  .inl ⟨v, w, he, h⟩

theorem noRefs (x : AV) (h : (∃ r, x = .rv r) ∨ ∃ l, x = .tup l) : ∀ s, x.on = some s → s ∈ X ∧ (x.pinned = true → s ∈ c0.fx) := by
  intro s e
  rcases h with ⟨r, rfl⟩ | ⟨l, rfl⟩ <;> cases e

theorem mapM_toV : ∀ {rs : List RV} {vs : List Value} {xs : List Operand}, rs.mapM toV = some vs → rs.length = xs.length → (∀ (i : Nat) (x : Operand), xs[i]? = some x → ∃ r, rs[i]? = some r ∧ r.ro = r ∧ ∀ t, RelRV P G w t r (a.eval x)) → xs.map a.eval = vs
  | [], vs, xs, e, hl, _ => by
    simp at e; subst e
    have : xs = [] := List.eq_nil_of_length_eq_zero (by simpa using hl.symm)
    subst this; rfl
  | r :: rs, vs, xs, e, hl, hr => by
    cases xs with
    | nil => simp at hl
    | cons x xs =>
      rw [List.mapM_cons] at e
      cases hv : toV r with
      | none => rw [hv] at e; cases e
      | some v =>
        rw [hv] at e
        cases hvs : rs.mapM toV with
        | none => rw [hvs] at e; cases e
        | some us =>
          rw [hvs] at e
          cases e
          obtain ⟨r0, h0, _, h1⟩ := hr 0 x rfl
          simp only [List.getElem?_cons_zero, Option.some.injEq] at h0
          subst h0
          rw [List.map_cons, toV_rel hv (h1 0), mapM_toV hvs (by simpa using hl) (fun i y hi => by simpa using hr (i + 1) y (by simpa using hi))]

set_option maxHeartbeats 4000000 in
theorem sem_sound (hfx : c0.fx = c.fx) (hT : ∀ t, TyOk P t (c.T t)) (hσ : ∀ f, Meets P f (c.sp f)) (hg : Sees st g) (h : Rel P S w0 c0 c.X G st a w) {o : Oper} {ws : List (Nat × AV)}
    (hd : ∀ d, o.dst = some d → d ∉ c.X) (e : sem c g o some = some ws) : Done P o a w fun a' w' => ∃ G', Rel P S w0 c0 c.X G' (puts st ws) a' w' := by
  unfold sem at e
  split at e
  -- move
  · rename_i x d ho hdst
    refine Done.val (v := a.eval x) (by simp [execOp, ho]) ?_
    rw [hdst]
    exact copy_sound hg h e (hd d hdst)
  -- assign
  · rename_i x d ho hdst
    refine Done.val (v := a.eval x) (by simp [execOp, ho]) ?_
    rw [hdst]
    exact copy_sound hg h e (hd d hdst)
  -- pick
  · rename_i b x y d ho hdst
    split at e
    · rename_i t hb
      have hbv := opBool_sound hg h hb
      cases t with
      | true =>
        simp only [cond_true] at e
        refine Done.val (v := a.eval x) (by simp [execOp, ho, hbv, asBool]) ?_
        rw [hdst]
        exact copy_sound hg h e (hd d hdst)
      | false =>
        simp only [cond_false] at e
        refine Done.val (v := a.eval y) (by simp [execOp, ho, hbv, asBool]) ?_
        rw [hdst]
        exact copy_sound hg h e (hd d hdst)
    · cases e
  -- alloc
  · rename_i t d ho hdst
    obtain ⟨v, w', G', hr, hrel⟩ := alloc_sound (ws := ws) h hT (hd d hdst) (by first | exact e | (split at e <;> first | (cases e; rfl) | cases e))
    exact Done.value (by simp [execOp, ho]) hr (by rw [hdst]; exact ⟨G', hrel⟩)
  -- box
  · rename_i t x d ho hdst
    obtain ⟨v, w', G', hr, hrel⟩ := box_sound (ws := ws) hfx hg h (hd d hdst) e
    exact Done.value (by simp [execOp, ho]) hr (by rw [hdst]; exact ⟨G', hrel⟩)
  -- build
  · rename_i t ps d ho hdst
    split at e
    · rename_i zs hts
      split at e
      · rename_i l hl
        cases e
        obtain ⟨v, hr, hrel⟩ := build_sound hg h hT hts hl
        refine Done.value (s := Instr.build t (ps.map fun (i, x) => (i, a.eval x))) (by simp [execOp, ho]) hr ?_
        rw [hdst]
        exact ⟨G, h.pure (hd d hdst) (noRefs _ (.inl ⟨_, rfl⟩)) (hrel d)⟩
      · cases e
    · cases e
  -- buildSlice
  · rename_i t len ps d ho hdst
    split at e
    · rename_i e' ek hts
      split at e
      · rename_i x hx
        split at e
        · rename_i hl
          split at e
          · rename_i h4
            cases e
            obtain ⟨v, w', G', hr, hrel⟩ := buildSlice_sound hg h hT (hd d hdst) hts hx hl h4
            refine Done.value (s := Instr.buildSlice t len (ps.map fun (i, x) => (i, a.eval x))) (by simp [execOp, ho]) hr ?_
            rw [hdst]
            exact ⟨G', hrel⟩
          · cases e
        · cases e
      · cases e
    · cases e
  -- load
  · rename_i t x d ho hdst
    obtain ⟨v, G', hr, hrel⟩ := load_sound (ws := ws) hg h hT (hd d hdst) e
    exact Done.value (by simp [execOp, ho]) hr (by rw [hdst]; exact ⟨G', hrel⟩)
  -- store
  · rename_i t x y ho hdst
    obtain ⟨w', G', hr, hrel⟩ := store_sound (ws := ws) hg h hT e
    refine .inr (.inl ⟨w', ?_, ?_⟩)
    · simp only [execOp, ho, Sem.run_bind, hr, Result.andThen_ok, Sem.run_pure]
    · rw [hdst]; exact ⟨G', hrel⟩
  -- binOp
  · rename_i op t x y yt d ho hdst
    split at e
    · rename_i k p k' q hx hy
      obtain ⟨_, hxr⟩ := opr_sound hg h hx
      obtain ⟨_, hyr⟩ := opr_sound hg h hy
      have hxv : a.eval x = .int k p := hxr 0
      have hyv : a.eval y = .int k' q := hyr 0
      have fin : ∀ (K : Sc → Option (List (Nat × AV))), K = (fun s => some [(d, AV.rv (.sc s))]) → (∃ s v, K s = some ws ∧ (∀ G w loc, RelSc P G w loc s v) ∧ ((do eqGuard op t x y (.int k p) (.int k' q); binOp op t (.int k p) (.int k' q)) : Sem Value).run P w = .ok v w) →
          Done P o a w fun a' w' => ∃ G', Rel P S w0 c0 c.X G' (puts st ws) a' w' := by
        rintro K rfl ⟨s, v, hs, hrel, hr⟩
        cases hs
        refine Done.value (s := do eqGuard op t x y (.int k p) (.int k' q); binOp op t (.int k p) (.int k' q)) (by simp only [execOp, ho, hxv, hyv]) hr ?_
        rw [hdst]
        exact ⟨G, h.pure (hd d hdst) (noRefs _ (.inl ⟨_, rfl⟩)) (hrel G w (d, 0))⟩
      split at e
      · exact fin _ rfl (shOp_run e t x y w)
      · exact fin _ rfl (shOp_run e t x y w)
      · split at e
        · rename_i hk
          subst hk
          exact fin _ rfl (intOp_run e t x y w)
        · cases e
    · rename_i p q hx hy
      obtain ⟨_, hxr⟩ := opr_sound hg h hx
      obtain ⟨_, hyr⟩ := opr_sound hg h hy
      have hxv : a.eval x = .bool p := hxr 0
      have hyv : a.eval y = .bool q := hyr 0
      split at e
      · rename_i hts
        cases e
        have ht := hT t
        rw [hts] at ht
        have := (eq_bool t ht.1 p q x y w).1
        refine Done.value (s := do eqGuard .eql t x y (.bool p) (.bool q); binOp .eql t (.bool p) (.bool q)) (by simp only [execOp, ho, hxv, hyv]) this ?_
        rw [hdst]
        exact ⟨G, h.pure (hd d hdst) (noRefs _ (.inl ⟨_, rfl⟩)) rfl⟩
      · rename_i hts
        cases e
        have ht := hT t
        rw [hts] at ht
        have := (eq_bool t ht.1 p q x y w).2
        refine Done.value (s := do eqGuard .neq t x y (.bool p) (.bool q); binOp .neq t (.bool p) (.bool q)) (by simp only [execOp, ho, hxv, hyv]) this ?_
        rw [hdst]
        exact ⟨G, h.pure (hd d hdst) (noRefs _ (.inl ⟨_, rfl⟩)) rfl⟩
      · cases e
    · rename_i l m hx hy
      obtain ⟨_, hxr⟩ := opr_sound hg h hx
      obtain ⟨_, hyr⟩ := opr_sound hg h hy
      split at e
      · rename_i zs hts
        split at e
        · rename_i hl
          split at e
          · rename_i b hb
            cases e
            have ht := hT t
            rw [hts] at ht
            have := (eq_struct ht hb hl (hxr 0) (hyr 0) x y w).1
            refine Done.value (s := do eqGuard .eql t x y (a.eval x) (a.eval y); binOp .eql t (a.eval x) (a.eval y)) (by simp only [execOp, ho]) this ?_
            rw [hdst]
            exact ⟨G, h.pure (hd d hdst) (noRefs _ (.inl ⟨_, rfl⟩)) rfl⟩
          · cases e
        · cases e
      · rename_i zs hts
        split at e
        · rename_i hl
          split at e
          · rename_i b hb
            cases e
            have ht := hT t
            rw [hts] at ht
            have := (eq_struct ht hb hl (hxr 0) (hyr 0) x y w).2
            refine Done.value (s := do eqGuard .neq t x y (a.eval x) (a.eval y); binOp .neq t (a.eval x) (a.eval y)) (by simp only [execOp, ho]) this ?_
            rw [hdst]
            exact ⟨G, h.pure (hd d hdst) (noRefs _ (.inl ⟨_, rfl⟩)) rfl⟩
          · cases e
        · cases e
      · cases e
    · cases e
  -- unOp
  · rename_i op t x d ho hdst
    split at e
    · rename_i k n hx
      obtain ⟨_, hxr⟩ := opr_sound hg h hx
      have hxv : a.eval x = .int k n := hxr 0
      cases e
      refine Done.value (w' := w) (s := Op.unary .neg (.int k n)) (v := .int k (k.wrap (0 - n))) (by simp only [execOp, ho, hxv]) (by simp [Op.unary, Op.intArith]) ?_
      rw [hdst]
      exact ⟨G, h.pure (hd d hdst) (noRefs _ (.inl ⟨_, rfl⟩)) rfl⟩
    · rename_i b hx
      obtain ⟨_, hxr⟩ := opr_sound hg h hx
      have hxv : a.eval x = .bool b := hxr 0
      cases e
      refine Done.value (w' := w) (s := Op.unary .not (.bool b)) (v := .bool (!b)) (by simp only [execOp, ho, hxv]) (by simp [Op.unary]) ?_
      rw [hdst]
      exact ⟨G, h.pure (hd d hdst) (noRefs _ (.inl ⟨_, rfl⟩)) rfl⟩
    · cases e
  -- convert
  · rename_i s t x d ho hdst
    split at e
    · rename_i k0 k k1 n hs ht0 hx
      have hxv := opInt_sound hg h hx
      have h1 := hT s
      have h2 := hT t
      rw [hs] at h1
      rw [ht0] at h2
      cases e
      refine Done.value (w' := w) (s := convert s t (.int k1 n)) (v := .int k (k.wrap n)) (by simp only [execOp, ho, hxv]) (by simp [convert, run_underlying h1.1, run_underlying h2.1, Conv.intToInt]) ?_
      rw [hdst]
      exact ⟨G, h.pure (hd d hdst) (noRefs _ (.inl ⟨_, rfl⟩)) rfl⟩
    · cases e
  -- makeFunc
  · rename_i f first captured d ho hdst
    split at e
    · rename_i h0
      have hf : first = #[] := Array.eq_empty_of_size_eq_zero h0
      cases hm : captured.toList.any (inMade c.made) with
      | true =>
        rw [hm, cond_true] at e
        have hrel := makeFuncT_sound (f := f) hg h hσ (hd d hdst) e
        refine Done.value (w' := w) (s := Instr.makeFunc (.func f) (first.map a.eval) (captured.map a.eval)) (v := .func (.func f) #[] (captured.map a.eval)) (by simp only [execOp, ho]) (by simp [Instr.makeFunc, hf]) ?_
        rw [hdst]
        exact ⟨G, hrel⟩
      | false =>
        rw [hm, cond_false] at e
        split at e
        · rename_i ws' hw
          split at e
          · rename_i hne
            cases e
            obtain ⟨G', hrel⟩ := makeFunc_sound (f := f) hg h hσ (hd d hdst) hw hne
            refine Done.value (w' := w) (s := Instr.makeFunc (.func f) (first.map a.eval) (captured.map a.eval)) (v := .func (.func f) #[] (captured.map a.eval)) (by simp only [execOp, ho]) (by simp [Instr.makeFunc, hf]) ?_
            rw [hdst]
            exact ⟨G', hrel⟩
          · cases e
        · cases e
    · cases e
  -- makeSlice
  · rename_i t x y d ho hdst
    split at e
    · rename_i e' n m hts hx hy
      cases hb : decide (n = m) && (decide (0 ≤ n) && decide (n ≤ 1048576)) with
      | false => rw [hb] at e; cases e
      | true =>
        rw [hb] at e
        cases e
        simp only [Bool.and_eq_true, decide_eq_true_eq] at hb
        obtain ⟨hnm, hb⟩ := hb
        subst hnm
        obtain ⟨v, w', G', hr, hrel⟩ := makeSlice_sound hg h hT (hd d hdst) hts hx hy hb.1 hb.2
        refine Done.value (s := Instr.makeSlice t (a.eval x) (a.eval y)) (by simp only [execOp, ho]) hr ?_
        rw [hdst]
        exact ⟨G', hrel⟩
    · cases e
  -- slice
  · rename_i t x lo hi d ho hdst
    split at e
    · rename_i e' ek oo b hts hx
      split at e
      · rename_i hk
        split at e
        · rename_i l m hlo hhi
          cases hb : decide (0 ≤ l) && decide (l ≤ m) && decide (m ≤ b.len) with
          | false => rw [hb] at e; cases e
          | true =>
            rw [hb] at e
            cases e
            simp only [Bool.and_eq_true, decide_eq_true_eq] at hb
            obtain ⟨v, hr, hrel⟩ := slice_sound hg h hT (hd d hdst) hts hx hk hlo hhi hb.1.1 hb.1.2 hb.2
            refine Done.value (s := Instr.sliceAt t (a.eval x) (lo.map a.eval) (hi.map a.eval) none) (by simp only [execOp, ho, Option.map_none]) hr ?_
            rw [hdst]
            exact ⟨G, hrel⟩
        · cases e
      · cases e
    · cases e
  -- fieldAddr
  · rename_i t x f d ho hdst
    obtain ⟨v, hr, hrel⟩ := fieldAddr_sound (ws := ws) hg h hT (hd d hdst) e
    exact Done.value (by simp only [execOp, ho]) hr (by rw [hdst]; exact ⟨G, hrel⟩)
  -- indexAddr
  · rename_i t x y d ho hdst
    split at e
    · rename_i e' ek oo b k i hts hx hy
      split at e
      · rename_i hk
        cases hb : decide (0 ≤ i) && decide (i < b.len) with
        | false => rw [hb] at e; cases e
        | true =>
          rw [hb] at e
          cases e
          simp only [Bool.and_eq_true, decide_eq_true_eq] at hb
          obtain ⟨v, hr, hrel⟩ := indexAddr_sound hg h hT (hd d hdst) hts hx hy hk hb.1 hb.2
          exact Done.value (by simp only [execOp, ho]) hr (by rw [hdst]; exact ⟨G, hrel⟩)
      · cases e
    · rename_i e' k i hts hx hy
      obtain ⟨v, hr, hrel⟩ := indexT_sound hg h hT (hd d hdst) hts hy e
      exact Done.value (by simp only [execOp, ho]) hr (by rw [hdst]; exact ⟨G, hrel⟩)
    · cases e
  -- extract
  · rename_i x i d ho hdst
    split at e
    · rename_i s
      split at e
      · rename_i l hgs
        split at e
        · rename_i r hr
          cases e
          have hs := hg.rel h s
          rw [hgs] at hs
          obtain ⟨vs, hv, hsz, hl⟩ := hs
          obtain ⟨hro, u, hu, hrel⟩ := hl i r hr
          have hev : a.eval (.tmp s) = .tuple vs := hv
          refine Done.value (w' := w) (s := Instr.extract (a.eval (.tmp s)) i) (v := u) (by simp only [execOp, ho]) (by rw [hev]; simp [Instr.extract, hu]) ?_
          rw [hdst]
          exact ⟨G, h.pure (hd d hdst) (noRefs _ (.inl ⟨_, rfl⟩)) (RelRV.roAdv hrel hro (Adv.refl G w))⟩
        · cases e
      · cases e
    · cases e
  -- call
  · rename_i cl d ho hdst
    obtain ⟨callee, xs, ts⟩ := cl
    simp only at e
    split at e
    -- len
    · split at e
      · rename_i t ty hxs hts
        have hxs' : xs = #[.tmp t] := by apply Array.ext'; exact hxs
        have hts' : ts = #[ty] := by apply Array.ext'; exact hts
        subst hxs' hts'
        have fin : ∀ (A : Option Addr) (n cap : Nat) (e' : TypeId), P.underlying ty = some (.slice e') → a.eval (.tmp t) = .slice A n cap → ws = [(d, iw .i64 n)] → Done P o a w fun a' w' => ∃ G', Rel P S w0 c0 c.X G' (puts st ws) a' w' := by
          intro A n cap e' hu hv hws
          have hel : P.elem ty = e' := by simp [Program.elem, hu]
          refine Done.val (v := .int .i64 n) ?_ ?_
          · simp only [execOp, ho, resolve, Sem.run_bind, Sem.run_pure, Result.andThen_ok, invoke, builtin, List.map_toArray, List.map_cons, List.map_nil, hv, run_len_slice w ty o.type A n cap (by rw [hel]; exact hu)]
            rfl
          · rw [hdst, hws]
            exact ⟨G, h.pure (hd d hdst) (noRefs _ (.inl ⟨_, rfl⟩)) rfl⟩
        have ht := hT ty
        have hs := hg.rel h t
        split at e
        · rename_i e' ek oo b hts hgt
          rw [hts] at ht
          rw [hgt] at hs
          obtain ⟨A, cap, hv, _⟩ := hs
          exact fin A _ cap _ ht.1 hv (by cases e; rfl)
        · rename_i e' ek hts hgt
          rw [hts] at ht
          rw [hgt] at hs
          exact fin none 0 0 _ ht.1 hs (by cases e; rfl)
        · rename_i e' ek n hts hgt
          rw [hts] at ht
          rw [hgt] at hs
          obtain ⟨A, cap, hv⟩ := hs
          exact fin A n cap _ ht.1 hv (by cases e; rfl)
        · rename_i e' ek s k hts hgt
          rw [hts] at ht
          rw [hgt] at hs
          have h2 := hg.rel h s
          split at e
          · rename_i ms hgs
            rw [hgs] at h2
            obtain ⟨b, ty', hv, _⟩ := h2
            exact fin (some ⟨b, 0, none⟩) ms.length ms.length _ ht.1 (Eq.trans hs hv) (by cases e; rfl)
          · rename_i ms hgs
            rw [hgs] at h2
            obtain ⟨b, ⟨b0, hv, hc⟩, _⟩ := h2
            obtain ⟨b1, hv1, hc1⟩ := hs
            cases hv.symm.trans hv1
            have hev : a.tmps.getD t undef = .slice (some ⟨b, 0, none⟩) ms.length ms.length := (Option.some.inj (hc.1.symm.trans hc1.1)).symm
            exact fin (some ⟨b, 0, none⟩) ms.length ms.length _ ht.1 hev (by cases e; rfl)
          · cases e
        · cases e
      · cases e
    -- min
    · split at e
      · rename_i p l hl
        split at e
        · rename_i n hn
          cases e
          obtain ⟨h1, h2⟩ := oprs_sound hg h hl
          cases hxl : xs.toList with
          | nil => rw [hxl] at h1; simp at h1
          | cons x ys =>
            rw [hxl] at h1 h2
            obtain ⟨r, hr, _, hrel⟩ := h2 0 x rfl
            simp only [List.getElem?_cons_zero, Option.some.injEq] at hr
            subst hr
            have hxv : a.eval x = .int .i64 p := hrel 0
            have hrun := minInts_run (P := P) (a := a) (w' := w) (G := G) (ys := ys) hn (fun i y hi => by
              obtain ⟨r, hr, _, hh⟩ := h2 (i + 1) y (by simpa using hi)
              exact ⟨r, by simpa using hr, hh⟩) (by simpa using h1) w
            have hxs' : xs = (x :: ys).toArray := by apply Array.ext'; simpa using hxl
            refine Done.val (v := .int .i64 n) ?_ ?_
            · simp only [execOp, ho, resolve, Sem.run_bind, Sem.run_pure, Result.andThen_ok, invoke, builtin, hxs', List.map_toArray, List.map_cons, Builtin.min_, hxv, hrun]
            · rw [hdst]
              exact ⟨G, h.pure (hd d hdst) (noRefs _ (.inl ⟨_, rfl⟩)) rfl⟩
        · cases e
      · cases e
    -- max
    · split at e
      · rename_i p l hl
        split at e
        · rename_i n hn
          cases e
          obtain ⟨h1, h2⟩ := oprs_sound hg h hl
          cases hxl : xs.toList with
          | nil => rw [hxl] at h1; simp at h1
          | cons x ys =>
            rw [hxl] at h1 h2
            obtain ⟨r, hr, _, hrel⟩ := h2 0 x rfl
            simp only [List.getElem?_cons_zero, Option.some.injEq] at hr
            subst hr
            have hxv : a.eval x = .int .i64 p := hrel 0
            have hrun := maxInts_run (P := P) (a := a) (w' := w) (G := G) (ys := ys) hn (fun i y hi => by
              obtain ⟨r, hr, _, hh⟩ := h2 (i + 1) y (by simpa using hi)
              exact ⟨r, by simpa using hr, hh⟩) (by simpa using h1) w
            have hxs' : xs = (x :: ys).toArray := by apply Array.ext'; simpa using hxl
            refine Done.val (v := .int .i64 n) ?_ ?_
            · simp only [execOp, ho, resolve, Sem.run_bind, Sem.run_pure, Result.andThen_ok, invoke, builtin, hxs', List.map_toArray, List.map_cons, Builtin.max_, hxv, hrun]
            · rw [hdst]
              exact ⟨G, h.pure (hd d hdst) (noRefs _ (.inl ⟨_, rfl⟩)) rfl⟩
        · cases e
      · cases e
    -- append
    · split at e
      · rename_i x y t t' hxs hts
        split at e
        · rename_i htt
          subst htt
          have hxs' : xs = #[x, y] := by apply Array.ext'; exact hxs
          have hts' : ts = #[t', t'] := by apply Array.ext'; exact hts
          subst hxs' hts'
          unfold appendSem at e
          split at e
          · rename_i e' ek hte
            have ht := hT t'
            rw [hte] at ht
            split at e
            · rename_i u src oo b hto hy
              split at e
              · rename_i r happ
                split at e
                · rename_i hk
                  cases hb : decide (0 < b.len) && decide (r.len * ek.bytes ≤ 140737488355328) with
                  | false => rw [hb] at e; cases e
                  | true =>
                    rw [hb] at e
                    cases e
                    simp only [Bool.and_eq_true, decide_eq_true_eq] at hb
                    obtain ⟨v, w', G', hr, hrel⟩ := append_sound (ty := o.type) hg h (hd d hdst) ht hto hy happ hk hb.1 hb.2
                    refine .inl ⟨v, w', ?_, ?_⟩
                    · simp only [execOp, ho, resolve, Sem.run_bind, Sem.run_pure, Result.andThen_ok, invoke, builtin, List.map_toArray, List.map_cons, List.map_nil, hr]
                    · rw [hdst]; exact ⟨G', hrel⟩
                · cases e
              · cases e
            · cases e
          · cases e
        · cases e
      · cases e
    -- a function
    · rename_i f
      obtain ⟨hok, hc⟩ := callF_sound hg h hσ (hd d hdst) e
      refine .inr (.inr ⟨f, xs.map a.eval, ?_, ?_⟩)
      · have := enter_run hok (xs.map a.eval) #[] w
        rw [Array.append_empty] at this
        simp only [execOp, ho, resolve, Act.eval, Deferred.ofValue, Sem.run_bind, Sem.run_pure, Result.andThen_ok, Array.empty_append]
        exact this
      · rw [hdst]; exact hc
    -- a function value
    · rename_i t
      split at e
      · rename_i f hgt
        have hs := hg.rel h t
        rw [hgt] at hs
        have hev : a.eval (.tmp t) = .func (.func f) #[] #[] := hs
        obtain ⟨hok, hc⟩ := callF_sound hg h hσ (hd d hdst) e
        refine .inr (.inr ⟨f, xs.map a.eval, ?_, ?_⟩)
        · have := enter_run hok (xs.map a.eval) #[] w
          rw [Array.append_empty] at this
          simp only [execOp, ho, resolve, hev, Deferred.ofValue, Sem.run_bind, Sem.run_pure, Result.andThen_ok, Array.empty_append]
          exact this
        · rw [hdst]; exact hc
      · rename_i s hgt
        split at e
        · rename_i m p F tb hgs
          obtain ⟨f, cs, hev, hok, hcall⟩ := callT_sound hg h (hd d hdst) hgt hgs (fun hrs => oprs_sound hg h hrs) e
          refine .inr (.inr ⟨f, xs.map a.eval ++ cs, ?_, ?_⟩)
          · have := enter_run hok (xs.map a.eval) cs w
            simp only [execOp, ho, resolve, hev, Deferred.ofValue, Sem.run_bind, Sem.run_pure, Result.andThen_ok, Array.empty_append]
            exact this
          · rw [hdst]; exact hcall
        · cases e
      · rename_i F hgt
        split at e
        · rename_i rs hrs
          split at e
          · rename_i vs hvs
            have fin : ∀ v r, F vs = some v → ofV v = some r → ws = [(d, .rv r)] → Done P o a w fun a' w' => ∃ G', Rel P S w0 c0 c.X G' (puts st ws) a' w' := by
              intro v r hv hr hws
              subst hws
              have hs := hg.rel h t
              rw [hgt] at hs
              obtain ⟨f, cs, hfv, hF⟩ := hs
              obtain ⟨hok, hcall⟩ := hF vs v hv
              obtain ⟨h1, h2⟩ := oprs_sound hg h hrs
              have hmap : xs.map a.eval = vs.toArray := by
                apply Array.ext'
                rw [Array.toList_map]
                exact mapM_toV (P := P) (G := G) (w := w) hvs h1 h2
              have hev : a.eval (.tmp t) = .func (.func f) #[] cs := hfv
              have hlater : Later G w w := ⟨Nat.le_refl _, fun _ _ _ _ => rfl⟩
              refine .inr (.inr ⟨f, vs.toArray ++ cs, ?_, (hcall w hlater).mono ?_⟩)
              · have := enter_run hok vs.toArray cs w
                simp only [execOp, ho, resolve, hev, Deferred.ofValue, Sem.run_bind, Sem.run_pure, Result.andThen_ok, Array.empty_append, hmap]
                exact this
              · rintro e' w' ⟨rfl, hb⟩
                refine ⟨v, rfl, G, ?_⟩
                rw [hdst]
                have hadv : Adv G w G w' (fun _ => False) := ⟨hb.size, fun b o hbb ho => ⟨hb.cell (p := ⟨b, o, none⟩) hbb, ho⟩, fun b loc hbb ho _ => ⟨ho, rfl, hb.block b hbb⟩⟩
                refine h.upd hadv (S' := fun _ => False) ⟨hb.os, hb.tape, hb.output, hb.size, fun k hk _ => hb.block k hk⟩ (fun _ _ e => e.elim) (fun _ _ _ => ⟨rfl, rfl⟩)
                  (fun d' e => by cases e; exact ⟨hd d hdst, by simp⟩) (fun _ _ e => e.elim) (fun p hp hlt => ?_) (fun p hp q hq => ?_)
                · simp only [List.mem_singleton] at hp
                  subst hp
                  rw [put_getD, if_pos ⟨rfl, hlt⟩]
                  exact (ofV_rel hr).2 _ _ _
                · simp only [List.mem_singleton] at hp; subst hp; exact noRefs _ (.inl ⟨_, rfl⟩) q hq
            split at e
            · rename_i k hty
              cases hF : F vs with
              | none => rw [hF] at e; cases e
              | some v =>
                rw [hF] at e
                cases v with
                | int k' n =>
                  simp only [okInt, valInt] at e
                  by_cases hk : k' = k
                  · rw [decide_eq_true hk] at e
                    subst hk
                    exact fin _ _ hF rfl (by cases e; rfl)
                  · rw [decide_eq_false hk] at e; cases e
                | _ => cases e
            · rename_i hty
              cases hF : F vs with
              | none => rw [hF] at e; cases e
              | some v =>
                rw [hF] at e
                cases v with
                | bool b => exact fin _ _ hF rfl (by cases e; rfl)
                | _ => cases e
            · cases e
          · cases e
        · cases e
      · cases e
    · cases e
  · cases e
end
end Go.Proofs.Ytbgfgadekmemeaa.Ev
