/- The evaluator is sound, the single operation, eleventh part: closures and calls. Conditions: a table of types that is so, contracts that are met. -/
import Derived.Test.YtkeildnpemiacaaFl
namespace Go.Proofs.Ytkeildnpemiacaa.Ev
open Go.RowKit
set_option linter.unusedVariables false
set_option linter.unusedSimpArgs false
set_option linter.unusedSectionVars false

section
variable {P : Program} {S : Nat → Prop} {w0 w w' : World} {c0 : Nat → Nat} {X : List Nat} {G G' : Gh} {st : St} {a : Act} {E : Nat × Nat → Prop}
variable {c : Ctx} {g : Nat → AV}

theorem ofV_rel {v : Value} {r : RV} (e : ofV v = some r) : r.ro = r ∧ ∀ (G : Gh) (w : World) (t : Nat), RelRV P G w t r v := by
  unfold ofV at e
  split at e <;> cases e <;> exact ⟨rfl, fun _ _ _ => rfl⟩

theorem toV_rel {r : RV} {v u : Value} (e : toV r = some v) {t : Nat} (h : RelRV P G w t r u) : u = v := by
  unfold toV at e
  split at e <;> cases e <;> exact h

theorem ofVs_rel : ∀ {vs : List Value} {as : List AV}, ofVs vs = some as → as.length = vs.length ∧ ∀ (i : Nat) (x : AV), as[i]? = some x → ∃ v, vs[i]? = some v ∧ ∃ r, x = .rv r ∧ r.ro = r ∧ ∀ (G : Gh) (w : World) (t : Nat), RelRV P G w t r v
  | [], as, e => by simp [ofVs] at e; subst e; exact ⟨rfl, fun i x hi => by simp at hi⟩
  | v :: vs, as, e => by
    simp only [ofVs] at e
    split at e
    · rename_i r l hr hl
      cases e
      obtain ⟨h1, h2⟩ := ofVs_rel hl
      refine ⟨by simp [h1], fun i x hi => ?_⟩
      cases i with
      | zero => simp at hi; subst hi; exact ⟨v, rfl, r, rfl, (ofV_rel (P := P) hr).1, (ofV_rel hr).2⟩
      | succ i => simpa using h2 i x (by simpa using hi)
    · cases e

theorem caps_spec : ∀ {xs : List Operand} {ws : List (Nat × AV)}, caps g xs = some ws → ws.length = xs.length ∧ ∀ (i : Nat) (p : Nat × AV), ws[i]? = some p →
    xs[i]? = some (.tmp p.1) ∧ ((∃ ty l, g p.1 = .box ty l ∧ p.2 = .cbox ty (l.map Sc.ro)) ∨ ∃ ty l, g p.1 = .cbox ty l ∧ p.2 = .cbox ty l)
  | [], ws, e => by simp [caps] at e; subst e; exact ⟨rfl, fun i p hi => by simp at hi⟩
  | x :: xs, ws, e => by
    cases x with
    | tmp t =>
      simp only [caps] at e
      split at e
      · rename_i ty l r hgt hr
        cases e
        obtain ⟨h1, h2⟩ := caps_spec hr
        refine ⟨by simp [h1], fun i p hi => ?_⟩
        cases i with
        | zero => simp at hi; subst hi; exact ⟨rfl, .inl ⟨ty, l, hgt, rfl⟩⟩
        | succ i => simpa using h2 i p (by simpa using hi)
      · rename_i ty l r hgt hr
        cases e
        obtain ⟨h1, h2⟩ := caps_spec hr
        refine ⟨by simp [h1], fun i p hi => ?_⟩
        cases i with
        | zero => simp at hi; subst hi; exact ⟨rfl, .inr ⟨ty, l, hgt, rfl⟩⟩
        | succ i => simpa using h2 i p (by simpa using hi)
      · cases e
    | _ => simp [caps] at e

theorem closure_sound (hσ : ∀ f, Meets P f (c.sp f)) {f : FuncId} {cs : List AV} {us : Array Value} (hl : us.size = cs.length)
    (hc : ∀ (i : Nat) (x : AV), cs[i]? = some x → ∃ ty l v b, x = .cbox ty l ∧ us[i]? = some v ∧ v = .pointer (some ⟨b, 0, none⟩) ∧ ∀ (j : Nat) (s : Sc), l[j]? = some s → s.ro = s ∧ ∃ u, Cm G w ⟨b, j, none⟩ u ∧ ∀ loc, RelSc P G w loc s u)
    {vs : List Value} {r : Value} (e : closure c f cs vs = some r) : FnOk P f ∧ ∀ w', Later G w w' → Calls P f (vs.toArray ++ us) w' fun e w'' => e = .returned r ∧ Below w'.heap.size w' w'' := by
  unfold closure at e
  split at e
  · rename_i as has
    split at e
    · rename_i r' fin hs
      obtain ⟨hok, hcall⟩ := hσ f _ _ _ hs
      obtain ⟨h1, h2⟩ := ofVs_rel (P := P) has
      refine ⟨hok, fun w' hlater => ?_⟩
      let G2 : Gh := ⟨fun _ => none, fun b => if b < w.heap.size then G.com b else 0⟩
      have hadv : Adv G w G2 w' (fun _ => True) := ⟨hlater.1, fun b o hb ho => ⟨hlater.2 b o hb ho, by simp only [G2, if_pos hb]; exact ho⟩, fun _ _ _ _ hn => absurd trivial hn⟩
      refine (hcall (vs.toArray ++ us) G2 w' ⟨#[], []⟩ (by simp [h1, hl]) (fun i x hi => ?_) (fun b _ hb => absurd rfl hb)).mono ?_
      · by_cases hlt : i < as.length
        · rw [List.getElem?_append_left hlt] at hi
          obtain ⟨v, hv, rr, rfl, hro, hrel⟩ := h2 i x hi
          refine ⟨v, ?_, hrel _ _ _, .inl ⟨rr, rfl, hro⟩⟩
          rw [Array.getElem?_append_left (by simp; omega)]
          simpa using hv
        · rw [List.getElem?_append_right (by omega)] at hi
          obtain ⟨ty, l, v, b, rfl, hv, hvb, hj⟩ := hc _ x hi
          refine ⟨v, ?_, ⟨b, hvb, fun j s hjs => ?_⟩, .inr (.inl ⟨ty, l, rfl⟩)⟩
          · rw [Array.getElem?_append_right (by simp; omega)]
            simpa [h1] using hv
          · obtain ⟨hro, u, hu, hrel⟩ := hj j s hjs
            exact ⟨hro, u, hu.adv hadv, (hrel _).adv hadv (.inl hro)⟩
      · rintro e' w'' ⟨v, c', rfl, hfr, _, _, hr, _⟩
        refine ⟨?_, ?_⟩
        · rw [toV_rel e hr]
        · exact ⟨hfr.os, hfr.tape, hfr.output, hfr.size, fun k hk => hfr.block k hk (fun hn => hn rfl)⟩
    · cases e
  · cases e

theorem makeFunc_sound (hg : Sees st g) (h : Rel P S w0 c0 X G st a w) (hσ : ∀ f, Meets P f (c.sp f)) {f : FuncId} {cap : Array Operand} {d : Nat} {ws : List (Nat × AV)} (hd : d ∉ X) (e : caps g cap.toList = some ws) (hne : ws.all (fun p => p.1 != d) = true) :
    ∃ G', Rel P S w0 c0 X G' (puts st (ws ++ [(d, .rv (.sc (.fn (closure c f (ws.map (·.2))))))])) (a.put (some d) (.func (.func f) #[] (cap.map a.eval))) w := by
  obtain ⟨h1, h2⟩ := caps_spec e
  let F : Nat × Nat → Bool := fun l => (ws.map (·.1)).contains l.1 && l.2 == 0
  have hF : ∀ l, F l = true → l.1 ∈ ws.map (·.1) := fun l hl => by simp only [F, Bool.and_eq_true] at hl; simpa using hl.1
  have hadv := Adv.freeze G w F
  -- what the boxes hold now
  have hbox : ∀ (i : Nat) (p : Nat × AV), ws[i]? = some p → ∃ ty l b, p.2 = .cbox ty l ∧ a.tmps.getD p.1 undef = .pointer (some ⟨b, 0, none⟩) ∧
      ∀ (j : Nat) (s : Sc), l[j]? = some s → s.ro = s ∧ ∃ u, Cm (G.freeze w F) w ⟨b, j, none⟩ u ∧ ∀ loc, RelSc P (G.freeze w F) w loc s u := by
    intro i p hi
    obtain ⟨_, hh⟩ := h2 i p hi
    have hs := hg.rel h p.1
    have hmem : p.1 ∈ ws.map (·.1) := List.mem_map.2 ⟨p, List.mem_of_getElem? hi, rfl⟩
    rcases hh with ⟨ty, l, hgp, hp⟩ | ⟨ty, l, hgp, hp⟩
    · rw [hgp] at hs
      obtain ⟨b, cs, hv, ho, hc, hb, hr⟩ := hs
      refine ⟨ty, _, b, hp, hv, fun j s hj => ?_⟩
      rw [List.getElem?_map] at hj
      cases hlj : l[j]? with
      | none => rw [hlj] at hj; cases hj
      | some s0 =>
        rw [hlj] at hj
        simp only [Option.map_some, Option.some.injEq] at hj
        subst hj
        obtain ⟨u, hu, hrel⟩ := hr.2 j s0 hlj
        refine ⟨Sc.ro_ro s0, u, ⟨by rw [cell_row hb]; exact hu, ?_⟩, fun loc => (RelSc.ro (loc' := loc) hrel).adv hadv (.inl (Sc.ro_ro s0))⟩
        have hFb : F (p.1, 0) = true := by simp only [F, Bool.and_eq_true, beq_self_eq_true, and_true]; simpa using hmem
        have hjlt : j < cs.size := (Array.getElem?_eq_some_iff.1 hu).1
        simp only [Gh.freeze, ho, hFb, if_true, cellsIn', hb]
        omega
    · rw [hgp] at hs
      obtain ⟨b, hv, hl⟩ := hs
      refine ⟨ty, l, b, hp, hv, fun j s hj => ?_⟩
      obtain ⟨hro, u, hu, hrel⟩ := hl j s hj
      refine ⟨hro, u, hu.adv hadv, fun loc => ?_⟩
      have := RelSc.ro (loc' := loc) hrel
      rw [hro] at this
      exact this.adv hadv (.inl hro)
  refine ⟨G.freeze w F, h.upd hadv (Fr.refl (fun _ => False) w) (fun _ _ e => e.elim) (old_freeze h F) (fun d' e => by cases e; exact ⟨hd, by simp⟩)
    (fun t i e => by rw [List.map_append, List.mem_append]; exact .inl (hF (t, i) e)) (fun p hp hlt => ?_) (fun p hp q hq => ?_)⟩
  · rw [List.mem_append] at hp
    rcases hp with hp | hp
    · obtain ⟨i, hi⟩ := List.getElem?_of_mem hp
      obtain ⟨ty, l, b, hp2, hv, hl⟩ := hbox i p hi
      have hpd : p.1 ≠ d := by simpa using List.all_eq_true.1 hne p hp
      rw [put_getD, if_neg (fun e => hpd e.1), hp2, hv]
      exact ⟨b, rfl, fun j s hj => let ⟨hro, u, hu, hr⟩ := hl j s hj; ⟨hro, u, hu, hr _⟩⟩
    · simp only [List.mem_singleton] at hp
      subst hp
      rw [put_getD, if_pos ⟨rfl, hlt⟩]
      refine ⟨f, cap.map a.eval, rfl, fun vs r hr => ?_⟩
      refine closure_sound hσ (cs := ws.map (·.2)) (by simp [h1]) (fun i x hi => ?_) hr
      rw [List.getElem?_map] at hi
      cases hwi : ws[i]? with
      | none => rw [hwi] at hi; cases hi
      | some p =>
        rw [hwi] at hi
        simp only [Option.map_some, Option.some.injEq] at hi
        subst hi
        obtain ⟨ty, l, b, hp2, hv, hl⟩ := hbox i p hwi
        have hop := (h2 i p hwi).1
        refine ⟨ty, l, _, b, hp2, ?_, rfl, hl⟩
        have : cap[i]? = some (.tmp p.1) := by simpa using hop
        simp [this, Act.eval]
        simpa using hv
  · rw [List.mem_append] at hp
    rcases hp with hp | hp
    · obtain ⟨i, hi⟩ := List.getElem?_of_mem hp
      obtain ⟨ty, l, b, hp2, _⟩ := hbox i p hi
      rw [hp2] at hq
      rcases hq with ⟨o, e⟩ | e <;> cases e
    · simp only [List.mem_singleton] at hp; subst hp; rcases hq with ⟨o, e⟩ | e <;> cases e

/-! ### Calls -/
theorem enter_run {f : FuncId} (hf : FnOk P f) (args cs : Array Value) (w : World) : (invoke (.fn (.func f) cs) args).run P w = .ok (.enter f (args ++ cs)) w := by
  obtain ⟨fn, h1, h2, h3⟩ := hf
  have h3' : fn.body.isNone = false := by cases hb : fn.body <;> simp_all
  simp only [invoke, callFunc, Sem.run_bind, run_program, Result.andThen_ok, h1, h2, Bool.false_eq_true, if_false, h3', Sem.run_pure]

theorem args_spec (T : TypeId → TK) : ∀ {xs : List Operand} {ts : List TypeId} {as : List AV}, args g T xs ts = some as → as.length = xs.length ∧ ∀ (i : Nat) (x : AV), as[i]? = some x →
    ∃ y ty, xs[i]? = some y ∧ ((∃ r, opr g ty y = some r ∧ x = .rv r) ∨ ∃ t s ms, y = .tmp t ∧ g t = .al s ∧ g s = .ms ms ∧ x = .ms ms)
  | [], ts, as, e => by simp [args] at e; subst e; exact ⟨rfl, fun i x hi => by simp at hi⟩
  | x :: xs, [], as, e => by simp [args] at e
  | x :: xs, t :: ts, as, e => by
    simp only [args] at e
    split at e
    · rename_i y l hy hl
      cases e
      obtain ⟨h1, h2⟩ := args_spec T hl
      refine ⟨by simp [h1], fun i z hi => ?_⟩
      cases i with
      | zero =>
        simp only [List.getElem?_cons_zero, Option.some.injEq] at hi
        subst hi
        unfold arg at hy
        split at hy
        · rename_i t'
          split at hy
          · rename_i r hgt
            cases hy
            exact ⟨_, .other, rfl, .inl ⟨r.ro, by simp [opr, hgt], rfl⟩⟩
          · rename_i s hgt
            split at hy
            · rename_i ms hgs
              cases hy
              exact ⟨_, .other, rfl, .inr ⟨t', s, ms, rfl, hgt, hgs, rfl⟩⟩
            · cases hy
          · cases hy
        · split at hy
          · rename_i r hr
            cases hy
            exact ⟨_, _, rfl, .inl ⟨r, hr, rfl⟩⟩
          · cases hy
      | succ i => simpa using h2 i z (by simpa using hi)
    · cases e

theorem backs_spec : ∀ {xs : List Operand} {fin : List AV} (i : Nat) (t s : Nat), xs[i]? = some (.tmp t) → g t = .al s → (s, (fin[i]?).getD .unk) ∈ backs g xs fin
  | [], fin, i, t, s, h, _ => by simp at h
  | x :: xs, fin, 0, t, s, h, hg => by
    simp at h; subst h
    simp only [backs, hg]
    have : fin.headD .unk = (fin[0]?).getD .unk := by cases fin <;> rfl
    rw [← this]
    exact List.mem_cons_self ..
  | x :: xs, fin, i + 1, t, s, h, hg => by
    have := backs_spec (xs := xs) (fin := fin.tail) i t s (by simpa using h) hg
    have hf : fin.tail[i]? = fin[i + 1]? := by cases fin <;> simp
    rw [hf] at this
    cases x with
    | tmp u =>
      simp only [backs]
      split
      · exact List.mem_cons_of_mem _ this
      · exact this
    | _ => simpa only [backs] using this

theorem backs_inv : ∀ {xs : List Operand} {fin : List AV} {p : Nat × AV}, p ∈ backs g xs fin → ∃ (i : Nat) (t : Nat), xs[i]? = some (.tmp t) ∧ g t = .al p.1 ∧ p.2 = (fin[i]?).getD .unk
  | [], fin, p, h => by simp [backs] at h
  | x :: xs, fin, p, h => by
    have hf : ∀ i, fin.tail[i]? = fin[i + 1]? := fun i => by cases fin <;> simp
    cases x with
    | tmp u =>
      simp only [backs] at h
      split at h
      · rename_i s hs
        rcases List.mem_cons.1 h with rfl | h
        · refine ⟨0, u, rfl, hs, by cases fin <;> rfl⟩
        · obtain ⟨i, t, h1, h2, h3⟩ := backs_inv h
          exact ⟨i + 1, t, by simpa using h1, h2, by rw [h3, hf]⟩
      · obtain ⟨i, t, h1, h2, h3⟩ := backs_inv h
        exact ⟨i + 1, t, by simpa using h1, h2, by rw [h3, hf]⟩
    | _ =>
      simp only [backs] at h
      obtain ⟨i, t, h1, h2, h3⟩ := backs_inv h
      exact ⟨i + 1, t, by simpa using h1, h2, by rw [h3, hf]⟩

theorem call_sound (hg : Sees st g) (h : Rel P S w0 c0 X G st a w) (hσ : ∀ f, Meets P f (c.sp f)) {f : FuncId} {xs : Array Operand} {ts : Array TypeId} {d : Nat} {as fin : List AV} {r : AV} (hd : d ∉ X)
    (ha : args g c.T xs.toList ts.toList = some as) (hs : c.σ f as = some (r, fin)) (hψ : c.ψ f as = true) (hb : ((backs g xs.toList fin).all (fun p => p.1 != d) && decide ((backs g xs.toList fin).length ≤ 1)) = true) :
    FnOk P f ∧ Calls P f (xs.map a.eval) w fun e w' => ∃ v, e = .returned v ∧ ∃ G', Rel P S w0 c0 X G' (puts st (backs g xs.toList fin ++ [(d, r)])) (a.put (some d) v) w' := by
  obtain ⟨hok, hcall⟩ := hσ f _ _ _ (show c.sp f as = some (r, fin) by unfold Ctx.sp; rw [hψ]; exact hs)
  obtain ⟨h1, h2⟩ := args_spec c.T ha
  simp only [Bool.and_eq_true, decide_eq_true_eq] at hb
  obtain ⟨hbd, hb1⟩ := hb
  have hxs : ∀ i : Nat, xs.toList[i]? = xs[i]? := fun i => by simp
  refine ⟨hok, ?_⟩
  -- the slot of the made slice that is handed over, if there is one
  have hone : (backs g xs.toList fin = []) ∨ ∃ (s b i t : Nat) (ms : List Int) (ty : TypeId), backs g xs.toList fin = [(s, (fin[i]?).getD .unk)] ∧ xs[i]? = some (Operand.tmp t) ∧ g t = .al s ∧ g s = .ms ms ∧
      a.tmps.getD s undef = .slice (some ⟨b, 0, none⟩) ms.length ms.length ∧ a.eval (.tmp t) = .slice (some ⟨b, 0, none⟩) ms.length ms.length ∧ G.own b = some (s, 0) ∧ G.com b = 0 ∧ w.heap[b]? = some (.cells (ms.map (Value.int .i64)).toArray ty (0, 0)) ∧ as[i]? = some (AV.ms ms) := by
    cases hbl : backs g xs.toList fin with
    | nil => exact .inl rfl
    | cons p ps =>
      rw [hbl] at hb1
      have hps : ps = [] := by simpa using hb1
      subst hps
      obtain ⟨i, t, hi, hgt, hp2⟩ := backs_inv (g := g) (xs := xs.toList) (fin := fin) (p := p) (by rw [hbl]; simp)
      have hilt : i < as.length := by rw [h1]; exact (List.getElem?_eq_some_iff.1 hi).1
      obtain ⟨y, ty0, hy, hcase⟩ := h2 i as[i] (List.getElem?_eq_getElem hilt)
      rw [hi] at hy
      cases hy
      rcases hcase with ⟨r0, hr0, _⟩ | ⟨t', s', ms, hyt, hgt', hgs, hx⟩
      · simp [opr, hgt] at hr0
      · cases hyt
        rw [hgt] at hgt'
        cases hgt'
        have hrs := hg.rel h p.1
        rw [hgs] at hrs
        obtain ⟨b, ty, hv, ho, hc, hbb⟩ := hrs
        have hrt := hg.rel h t
        rw [hgt] at hrt
        have hev : a.eval (.tmp t) = .slice (some ⟨b, 0, none⟩) ms.length ms.length := by
          have : a.tmps.getD t undef = a.tmps.getD p.1 undef := hrt
          show a.tmps.getD t undef = _
          rw [this, hv]
        refine .inr ⟨p.1, b, i, t, ms, ty, ?_, by rw [← hxs]; exact hi, hgt, hgs, hv, hev, ho, hc, hbb, ?_⟩
        · obtain ⟨p1, p2⟩ := p
          simp only at hp2
          rw [hp2]
        · rw [List.getElem?_eq_getElem hilt, hx]
  -- a made slice among the arguments is that one
  have halias : ∀ (i : Nat) (ms : List Int), as[i]? = some (AV.ms ms) → ∃ (t s : Nat), xs[i]? = some (Operand.tmp t) ∧ g t = .al s ∧ g s = .ms ms ∧ (s, (fin[i]?).getD .unk) ∈ backs g xs.toList fin := by
    intro i ms hi
    obtain ⟨y, ty0, hy, hcase⟩ := h2 i _ hi
    rcases hcase with ⟨r0, _, hx⟩ | ⟨t, s, ms', hyt, hgt, hgs, hx⟩
    · cases hx
    · cases hx; subst hyt
      exact ⟨t, s, by rw [← hxs]; exact hy, hgt, hgs, backs_spec i t s hy hgt⟩
  rcases hone with hnil | ⟨s, b, i0, t, ms, ty, hbl, hx0, hgt, hgs, hvs, hvt, ho, hc, hbb, has0⟩
  · -- no such slice
    have hno : ∀ (i : Nat) (ms : List Int), as[i]? ≠ some (AV.ms ms) := fun i ms hi => by
      obtain ⟨_, _, _, _, _, hm⟩ := halias i ms hi
      rw [hnil] at hm; cases hm
    let G2 : Gh := ⟨fun _ => none, G.com⟩
    have hadv0 : Adv G w G2 w (fun _ => True) := ⟨Nat.le_refl _, fun b o _ ho => ⟨rfl, ho⟩, fun _ _ _ _ hn => absurd trivial hn⟩
    refine (hcall (xs.map a.eval) G2 w a (by simpa using h1.symm) (fun i x hi => ?_) (fun b _ hb => absurd rfl hb)).mono ?_
    · obtain ⟨y, ty0, hy, hcase⟩ := h2 i x hi
      rcases hcase with ⟨r0, hr0, rfl⟩ | ⟨t, s, ms, _, _, _, rfl⟩
      · obtain ⟨hro, hr⟩ := opr_sound hg h hr0
        exact ⟨a.eval y, by rw [Array.getElem?_map, ← hxs, hy]; rfl, RelRV.roAdv (hr i) hro hadv0, .inl ⟨r0, rfl, hro⟩⟩
      · exact absurd hi (hno i ms)
    · rintro e w' ⟨v, c', rfl, hfr, hc', hrk, hr, _⟩
      refine ⟨v, rfl, ⟨fun b => if b < w.heap.size then G.own b else none, c'⟩, ?_⟩
      have hblk : ∀ b, b < w.heap.size → w'.heap[b]? = w.heap[b]? := fun b hb => hfr.block b hb (fun hn => hn rfl)
      have hadv : Adv G w ⟨fun b => if b < w.heap.size then G.own b else none, c'⟩ w' (fun _ => False) :=
        ⟨hfr.size, fun b o hb ho => ⟨World.cell?_of_block (w := w) (a := ⟨b, o, none⟩) (hblk b hb), by show o < c' b; rw [hc' b hb]; exact ho⟩,
          fun b loc hb ho _ => ⟨by simp only [if_pos hb]; exact ho, hc' b hb, hblk b hb⟩⟩
      rw [hnil, List.nil_append]
      refine h.upd hadv ⟨hfr.os, hfr.tape, hfr.output, hfr.size, fun k hk _ => hblk k hk⟩ (S' := fun _ => False) (fun _ _ e => e.elim) (fun k hk _ => ⟨hc' k (Nat.lt_of_lt_of_le hk h.fr.size), by simp only [if_pos (Nat.lt_of_lt_of_le hk h.fr.size)]⟩)
        (fun d' e => by cases e; exact ⟨hd, by simp⟩) (fun _ _ e => e.elim) (fun p hp hlt => ?_) (fun p hp q hq => ?_)
      · simp only [List.mem_singleton] at hp
        subst hp
        rw [put_getD, if_pos ⟨rfl, hlt⟩]
        have hadv2 : Adv ⟨fun _ => none, c'⟩ w' ⟨fun b => if b < w.heap.size then G.own b else none, c'⟩ w' (fun _ => True) := ⟨Nat.le_refl _, fun b o _ ho => ⟨rfl, ho⟩, fun _ _ _ _ hn => absurd trivial hn⟩
        rcases hrk with ⟨r', rfl, hro⟩ | ⟨l, rfl⟩
        · exact RelRV.roAdv hr hro hadv2
        · obtain ⟨vs, e, hsz, hl⟩ := hr
          exact ⟨vs, e, hsz, fun i r hi => let ⟨hro, u, hu, hh⟩ := hl i r hi; ⟨hro, u, hu, hh.roAdv hro hadv2⟩⟩
      · simp only [List.mem_singleton] at hp
        subst hp
        rcases hrk with ⟨r', rfl, hro⟩ | ⟨l, rfl⟩ <;> (rcases hq with ⟨o, e⟩ | e <;> cases e)
  · have hbsz : b < w.heap.size := (Array.getElem?_eq_some_iff.1 hbb).1
    have hi0 : (xs.map a.eval)[i0]? = some (.slice (some ⟨b, 0, none⟩) ms.length ms.length) := by rw [Array.getElem?_map, hx0, ← hvt]; rfl
    let G2 : Gh := ⟨fun k => if k = b then some (i0, 0) else none, G.com⟩
    have hadv0 : Adv G w G2 w (fun _ => True) := ⟨Nat.le_refl _, fun b o _ ho => ⟨rfl, ho⟩, fun _ _ _ _ hn => absurd trivial hn⟩
    have hown2 : ∀ k, G2.own k ≠ none → k = b := fun k hk => by
      apply Classical.byContradiction
      intro hn
      exact hk (by simp only [G2, if_neg hn])
    have hsame : ∀ (i : Nat) (m' : List Int), as[i]? = some (AV.ms m') → m' = ms ∧ ∃ (t' : Nat), xs[i]? = some (Operand.tmp t') ∧ g t' = .al s := by
      intro i m' hi
      obtain ⟨t', s', hx', hgt', hgs', hm⟩ := halias i m' hi
      rw [hbl] at hm
      simp only [List.mem_singleton, Prod.mk.injEq] at hm
      rw [hm.1, hgs] at hgs'
      cases hgs'
      exact ⟨rfl, t', hx', by rw [hgt', hm.1]⟩
    refine (hcall (xs.map a.eval) G2 w a (by simpa using h1.symm) (fun i x hi => ?_) (fun k _ hk => ?_)).mono ?_
    · obtain ⟨y, ty0, hy, hcase⟩ := h2 i x hi
      rcases hcase with ⟨r0, hr0, rfl⟩ | ⟨t', s', m', rfl, hgt', hgs', rfl⟩
      · obtain ⟨hro, hr⟩ := opr_sound hg h hr0
        exact ⟨a.eval y, by rw [Array.getElem?_map, ← hxs, hy]; rfl, RelRV.roAdv (hr i) hro hadv0, .inl ⟨r0, rfl, hro⟩⟩
      · obtain ⟨rfl, t2, hx2, hgt2⟩ := hsame i m' hi
        -- it is the only one: the same place
        have hii : i = i0 := by
          apply Classical.byContradiction
          intro hne
          have hlen : 2 ≤ (backs g xs.toList fin).length := by
            have key : ∀ (xs : List Operand) (fin : List AV) (i j : Nat) (t u v z : Nat), i < j → xs[i]? = some (.tmp t) → g t = .al u → xs[j]? = some (.tmp v) → g v = .al z → 2 ≤ (backs g xs fin).length := by
              intro xs
              induction xs with
              | nil => intro fin i j t u v z _ hi; simp at hi
              | cons x xs ih =>
                intro fin i j t u v z hij hi hgi hj hgj
                cases j with
                | zero => omega
                | succ j =>
                  have hj' : xs[j]? = some (.tmp v) := by simpa using hj
                  cases i with
                  | zero =>
                    simp at hi; subst hi
                    simp only [backs, hgi, List.length_cons]
                    have := List.length_pos_of_mem (backs_spec (g := g) (fin := fin.tail) j v z hj' hgj)
                    omega
                  | succ i =>
                    have hi' : xs[i]? = some (.tmp t) := by simpa using hi
                    have := ih fin.tail i j t u v z (by omega) hi' hgi hj' hgj
                    cases x with
                    | tmp q =>
                      simp only [backs]
                      split
                      · simp only [List.length_cons]; omega
                      · exact this
                    | _ => simpa only [backs] using this
            have e1 : xs.toList[i]? = some (.tmp t2) := by rw [hxs]; exact hx2
            have e2 : xs.toList[i0]? = some (.tmp t) := by rw [hxs]; exact hx0
            rcases Nat.lt_or_gt_of_ne hne with hlt | hlt
            · exact key _ fin i i0 t2 s t s hlt e1 hgt2 e2 hgt
            · exact key _ fin i0 i t s t2 s hlt e2 hgt e1 hgt2
          omega
        subst hii
        exact ⟨_, hi0, ⟨b, ty, rfl, by simp [G2], hc, hbb⟩, .inr (.inr ⟨m', rfl⟩)⟩
    · have := hown2 k hk
      subst this
      exact ⟨i0, ms, _, _, has0, hi0⟩
    · rintro e w' ⟨v, c', rfl, hfr, hc', hrk, hr, hfin⟩
      obtain ⟨xs', ty', hf1, hf2, hf3⟩ := hfin i0 ms b _ _ has0 hi0
      refine ⟨v, rfl, ⟨fun b => if b < w.heap.size then G.own b else none, c'⟩, ?_⟩
      have hblk : ∀ k, k < w.heap.size → k ≠ b → w'.heap[k]? = w.heap[k]? := fun k hk hkb => hfr.block k hk (fun hn => hkb (hown2 k hn))
      have hadv : Adv G w ⟨fun b => if b < w.heap.size then G.own b else none, c'⟩ w' (fun l => l = (s, 0)) := by
        refine ⟨hfr.size, fun k o hk ho' => ?_, fun k loc hk ho' hE => ?_⟩
        · have hkb : k ≠ b := fun e => by subst e; rw [hc] at ho'; omega
          exact ⟨World.cell?_of_block (w := w) (a := ⟨k, o, none⟩) (hblk k hk hkb), by show o < c' k; rw [hc' k hk]; exact ho'⟩
        · have hkb : k ≠ b := fun e => by subst e; rw [ho] at ho'; cases ho'; exact hE rfl
          exact ⟨by simp only [if_pos hk]; exact ho', hc' k hk, hblk k hk hkb⟩
      rw [hbl, hf1]
      have hsd : s ≠ d := by
        have := List.all_eq_true.1 hbd (s, (fin[i0]?).getD .unk) (by rw [hbl]; simp)
        simpa using this
      refine h.upd hadv (S' := fun k => k = b) ⟨hfr.os, hfr.tape, hfr.output, hfr.size, fun k hk hkb => hblk k hk hkb⟩ (fun k hk e => ?_) (fun k hk _ => ⟨hc' k (Nat.lt_of_lt_of_le hk h.fr.size), by simp only [if_pos (Nat.lt_of_lt_of_le hk h.fr.size)]⟩)
        (fun d' e => by cases e; exact ⟨hd, by simp⟩) (fun t i e => by cases e; simp) (fun p hp hlt => ?_) (fun p hp q hq => ?_)
      · subst e
        apply Classical.byContradiction
        intro hS
        have := (h.old k hk hS).2
        rw [ho] at this; cases this
      · simp only [List.cons_append, List.nil_append, List.mem_cons, List.not_mem_nil, or_false] at hp
        rcases hp with rfl | rfl
        · rw [put_getD, if_neg (fun e => hsd e.1)]
          show RelA P _ w' _ s (.ms xs') (a.tmps.getD s undef)
          rw [hvs]
          exact ⟨b, ty', by rw [hf2], by simp only [if_pos hbsz]; exact ho, (hc' b hbsz).trans hc, hf3⟩
        · rw [put_getD, if_pos ⟨rfl, hlt⟩]
          have hadv2 : Adv ⟨fun _ => none, c'⟩ w' ⟨fun b => if b < w.heap.size then G.own b else none, c'⟩ w' (fun _ => True) := ⟨Nat.le_refl _, fun b o _ ho => ⟨rfl, ho⟩, fun _ _ _ _ hn => absurd trivial hn⟩
          rcases hrk with ⟨r', rfl, hro⟩ | ⟨l, rfl⟩
          · exact RelRV.roAdv hr hro hadv2
          · obtain ⟨vs, e, hsz, hl⟩ := hr
            exact ⟨vs, e, hsz, fun i r hi => let ⟨hro, u, hu, hh⟩ := hl i r hi; ⟨hro, u, hu, hh.roAdv hro hadv2⟩⟩
      · simp only [List.cons_append, List.nil_append, List.mem_cons, List.not_mem_nil, or_false] at hp
        rcases hp with rfl | rfl
        · rcases hq with ⟨o, e⟩ | e <;> cases e
        · rcases hrk with ⟨r', rfl, hro⟩ | ⟨l, rfl⟩ <;> (rcases hq with ⟨o, e⟩ | e <;> cases e)
theorem callF_sound (hg : Sees st g) (h : Rel P S w0 c0 X G st a w) (hσ : ∀ f, Meets P f (c.sp f)) {f : FuncId} {xs : Array Operand} {ts : Array TypeId} {d : Nat} {ws : List (Nat × AV)} (hd : d ∉ X) (e : callF c g f xs.toList ts.toList d some = some ws) :
    FnOk P f ∧ Calls P f (xs.map a.eval) w fun e w' => ∃ v, e = .returned v ∧ ∃ G', Rel P S w0 c0 X G' (puts st ws) (a.put (some d) v) w' := by
  unfold callF at e
  split at e
  · rename_i as ha
    split at e
    · rename_i r fin hs
      cases hψ : c.ψ f as
      · rw [hψ] at e; cases e
      rw [hψ, cond_true] at e
      split at e
      · rename_i hb
        cases e
        exact call_sound hg h hσ hd ha hs hψ hb
      · cases e
    · cases e
  · cases e
end
end Go.Proofs.Ytkeildnpemiacaa.Ev
