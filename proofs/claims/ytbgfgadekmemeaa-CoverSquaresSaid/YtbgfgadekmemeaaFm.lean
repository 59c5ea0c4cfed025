/- The evaluator is sound, the single operation, eleventh part: closures and calls. Conditions: a table of types that is so, contracts that are met. -/
import Derived.Test.YtbgfgadekmemeaaFl
namespace Go.Proofs.Ytbgfgadekmemeaa.Ev
open Go.RowKit
set_option linter.unusedVariables false
set_option linter.unusedSimpArgs false
set_option linter.unusedSectionVars false

section
variable {P : Program} {S : Nat → Prop} {w0 w w' : World} {c0 : C0} {X : List Nat} {G G' : Gh} {st : St} {a : Act} {E : Nat × Nat → Prop}
variable {c : Ctx} {g : Nat → AV}

theorem ofV_rel {v : Value} {r : RV} (e : ofV v = some r) : r.ro = r ∧ ∀ (G : Gh) (w : World) (t : Nat), RelRV P G w t r v := by
  unfold ofV at e
  split at e <;> cases e <;> exact ⟨rfl, fun _ _ _ => rfl⟩

theorem toV_rel {r : RV} {v u : Value} (e : toV r = some v) {t : Nat} (h : RelRV P G w t r u) : u = v := by
  unfold toV at e
  split at e <;> cases e <;> exact h

theorem ofVs_rel : ∀ {vs : List Value} {as : List AV}, ofVs vs = some as → as.length = vs.length ∧ ∀ (i : Nat) (x : AV), as[i]? = some x → ∃ v, vs[i]? = some v ∧ ∃ r, x = .rv r ∧ r.ro = r ∧ ∀ (G : Gh) (w : World) (t : Nat), RelRV P G w t r v
  | [], as, e => by simp [ofVs] at e; subst e; exact ⟨rfl, fun i x hi => by simp at hi⟩
  | v :: vs, as, e => by
    simp only [ofVs] at e
    split at e
    · rename_i r l hr hl
      cases e
      obtain ⟨h1, h2⟩ := ofVs_rel hl
      refine ⟨by simp [h1], fun i x hi => ?_⟩
      cases i with
      | zero => simp at hi; subst hi; exact ⟨v, rfl, r, rfl, (ofV_rel (P := P) hr).1, (ofV_rel hr).2⟩
      | succ i => simpa using h2 i x (by simpa using hi)
    · cases e

theorem caps_spec : ∀ {xs : List Operand} {ws : List (Nat × AV)}, caps g xs = some ws → ws.length = xs.length ∧ ∀ (i : Nat) (p : Nat × AV), ws[i]? = some p →
    xs[i]? = some (.tmp p.1) ∧ ((∃ ty l, g p.1 = .box ty l ∧ p.2 = .cbox ty (l.map Sc.ro)) ∨ ∃ ty l, g p.1 = .cbox ty l ∧ p.2 = .cbox ty l)
  | [], ws, e => by simp [caps] at e; subst e; exact ⟨rfl, fun i p hi => by simp at hi⟩
  | x :: xs, ws, e => by
    cases x with
    | tmp t =>
      simp only [caps] at e
      split at e
      · rename_i ty l r hgt hr
        cases e
        obtain ⟨h1, h2⟩ := caps_spec hr
        refine ⟨by simp [h1], fun i p hi => ?_⟩
        cases i with
        | zero => simp at hi; subst hi; exact ⟨rfl, .inl ⟨ty, l, hgt, rfl⟩⟩
        | succ i => simpa using h2 i p (by simpa using hi)
      · rename_i ty l r hgt hr
        cases e
        obtain ⟨h1, h2⟩ := caps_spec hr
        refine ⟨by simp [h1], fun i p hi => ?_⟩
        cases i with
        | zero => simp at hi; subst hi; exact ⟨rfl, .inr ⟨ty, l, hgt, rfl⟩⟩
        | succ i => simpa using h2 i p (by simpa using hi)
      · cases e
    | _ => simp [caps] at e

theorem closure_sound (hσ : ∀ f, Meets P f (c.sp f)) {f : FuncId} {cs : List AV} {us : Array Value} (hl : us.size = cs.length)
    (hc : ∀ (i : Nat) (x : AV), cs[i]? = some x → ∃ ty l v b, x = .cbox ty l ∧ us[i]? = some v ∧ v = .pointer (some ⟨b, 0, none⟩) ∧ ∀ (j : Nat) (s : Sc), l[j]? = some s → s.ro = s ∧ ∃ u, Cm G w ⟨b, j, none⟩ u ∧ ∀ loc, RelSc P G w loc s u)
    {vs : List Value} {r : Value} (e : closure c f cs vs = some r) : FnOk P f ∧ ∀ w', Later G w w' → Calls P f (vs.toArray ++ us) w' fun e w'' => e = .returned r ∧ Below w'.heap.size w' w'' := by
  unfold closure at e
  split at e
  · rename_i as has
    split at e
    · rename_i r' fin hs
      obtain ⟨hok, hcall⟩ := hσ f _ _ _ hs
      obtain ⟨h1, h2⟩ := ofVs_rel (P := P) has
      refine ⟨hok, fun w' hlater => ?_⟩
      let G2 : Gh := ⟨fun _ => none, fun b => if b < w.heap.size then G.com b else 0⟩
      have hadv : Adv G w G2 w' (fun _ => True) := ⟨hlater.1, fun b o hb ho => ⟨hlater.2 b o hb ho, by simp only [G2, if_pos hb]; exact ho⟩, fun _ _ _ _ hn => absurd trivial hn⟩
      refine (hcall (vs.toArray ++ us) G2 w' ⟨#[], []⟩ (by simp [h1, hl]) (fun i x hi => ?_) (fun b _ hb => absurd rfl hb)).mono ?_
      · by_cases hlt : i < as.length
        · rw [List.getElem?_append_left hlt] at hi
          obtain ⟨v, hv, rr, rfl, hro, hrel⟩ := h2 i x hi
          refine ⟨v, ?_, hrel _ _ _, .inl ⟨rr, rfl, hro⟩⟩
          rw [Array.getElem?_append_left (by simp; omega)]
          simpa using hv
        · rw [List.getElem?_append_right (by omega)] at hi
          obtain ⟨ty, l, v, b, rfl, hv, hvb, hj⟩ := hc _ x hi
          refine ⟨v, ?_, ⟨b, hvb, fun j s hjs => ?_⟩, .inr (.inl ⟨ty, l, rfl⟩)⟩
          · rw [Array.getElem?_append_right (by simp; omega)]
            simpa [h1] using hv
          · obtain ⟨hro, u, hu, hrel⟩ := hj j s hjs
            exact ⟨hro, u, hu.adv hadv, (hrel _).adv hadv (.inl hro)⟩
      · rintro e' w'' ⟨v, c', rfl, hfr, _, _, hr, _⟩
        refine ⟨?_, ?_⟩
        · rw [toV_rel e hr]
        · exact ⟨hfr.os, hfr.tape, hfr.output, hfr.size, fun k hk => hfr.block k hk (fun hn => hn rfl)⟩
    · cases e
  · cases e

theorem makeFunc_sound (hg : Sees st g) (h : Rel P S w0 c0 X G st a w) (hσ : ∀ f, Meets P f (c.sp f)) {f : FuncId} {cap : Array Operand} {d : Nat} {ws : List (Nat × AV)} (hd : d ∉ X) (e : caps g cap.toList = some ws) (hne : ws.all (fun p => p.1 != d) = true) :
    ∃ G', Rel P S w0 c0 X G' (puts st (ws ++ [(d, .rv (.sc (.fn (closure c f (ws.map (·.2))))))])) (a.put (some d) (.func (.func f) #[] (cap.map a.eval))) w := by
  obtain ⟨h1, h2⟩ := caps_spec e
  let F : Nat × Nat → Bool := fun l => (ws.map (·.1)).contains l.1 && l.2 == 0
  have hF : ∀ l, F l = true → l.1 ∈ ws.map (·.1) := fun l hl => by simp only [F, Bool.and_eq_true] at hl; simpa using hl.1
  have hadv := Adv.freeze G w F
  -- what the boxes hold now
  have hbox : ∀ (i : Nat) (p : Nat × AV), ws[i]? = some p → ∃ ty l b, p.2 = .cbox ty l ∧ a.tmps.getD p.1 undef = .pointer (some ⟨b, 0, none⟩) ∧
      ∀ (j : Nat) (s : Sc), l[j]? = some s → s.ro = s ∧ ∃ u, Cm (G.freeze w F) w ⟨b, j, none⟩ u ∧ ∀ loc, RelSc P (G.freeze w F) w loc s u := by
    intro i p hi
    obtain ⟨_, hh⟩ := h2 i p hi
    have hs := hg.rel h p.1
    have hmem : p.1 ∈ ws.map (·.1) := List.mem_map.2 ⟨p, List.mem_of_getElem? hi, rfl⟩
    rcases hh with ⟨ty, l, hgp, hp⟩ | ⟨ty, l, hgp, hp⟩
    · rw [hgp] at hs
      obtain ⟨b, cs, hv, ho, hc, hb, hr⟩ := hs
      refine ⟨ty, _, b, hp, hv, fun j s hj => ?_⟩
      rw [List.getElem?_map] at hj
      cases hlj : l[j]? with
      | none => rw [hlj] at hj; cases hj
      | some s0 =>
        rw [hlj] at hj
        simp only [Option.map_some, Option.some.injEq] at hj
        subst hj
        obtain ⟨u, hu, hrel⟩ := hr.2 j s0 hlj
        refine ⟨Sc.ro_ro s0, u, ⟨by rw [cell_row hb]; exact hu, ?_⟩, fun loc => (RelSc.ro (loc' := loc) hrel).adv hadv (.inl (Sc.ro_ro s0))⟩
        have hFb : F (p.1, 0) = true := by simp only [F, Bool.and_eq_true, beq_self_eq_true, and_true]; simpa using hmem
        have hjlt : j < cs.size := (Array.getElem?_eq_some_iff.1 hu).1
        simp only [Gh.freeze, ho, hFb, if_true, cellsIn', hb]
        omega
    · rw [hgp] at hs
      obtain ⟨b, hv, hl⟩ := hs
      refine ⟨ty, l, b, hp, hv, fun j s hj => ?_⟩
      obtain ⟨hro, u, hu, hrel⟩ := hl j s hj
      refine ⟨hro, u, hu.adv hadv, fun loc => ?_⟩
      have := RelSc.ro (loc' := loc) hrel
      rw [hro] at this
      exact this.adv hadv (.inl hro)
  refine ⟨G.freeze w F, h.upd hadv (Fr.refl (fun _ => False) w) (fun _ _ e => e.elim) (old_freeze h F) (fun d' e => by cases e; exact ⟨hd, by simp⟩)
    (fun t i e => by rw [List.map_append, List.mem_append]; exact .inl (hF (t, i) e)) (fun p hp hlt => ?_) (fun p hp q hq => ?_)⟩
  · rw [List.mem_append] at hp
    rcases hp with hp | hp
    · obtain ⟨i, hi⟩ := List.getElem?_of_mem hp
      obtain ⟨ty, l, b, hp2, hv, hl⟩ := hbox i p hi
      have hpd : p.1 ≠ d := by simpa using List.all_eq_true.1 hne p hp
      rw [put_getD, if_neg (fun e => hpd e.1), hp2, hv]
      exact ⟨b, rfl, fun j s hj => let ⟨hro, u, hu, hr⟩ := hl j s hj; ⟨hro, u, hu, hr _⟩⟩
    · simp only [List.mem_singleton] at hp
      subst hp
      rw [put_getD, if_pos ⟨rfl, hlt⟩]
      refine ⟨f, cap.map a.eval, rfl, fun vs r hr => ?_⟩
      refine closure_sound hσ (cs := ws.map (·.2)) (by simp [h1]) (fun i x hi => ?_) hr
      rw [List.getElem?_map] at hi
      cases hwi : ws[i]? with
      | none => rw [hwi] at hi; cases hi
      | some p =>
        rw [hwi] at hi
        simp only [Option.map_some, Option.some.injEq] at hi
        subst hi
        obtain ⟨ty, l, b, hp2, hv, hl⟩ := hbox i p hwi
        have hop := (h2 i p hwi).1
        refine ⟨ty, l, _, b, hp2, ?_, rfl, hl⟩
        have : cap[i]? = some (.tmp p.1) := by simpa using hop
        simp [this, Act.eval]
        simpa using hv
  · rw [List.mem_append] at hp
    rcases hp with hp | hp
    · obtain ⟨i, hi⟩ := List.getElem?_of_mem hp
      obtain ⟨ty, l, b, hp2, _⟩ := hbox i p hi
      rw [hp2] at hq
      cases hq
    · simp only [List.mem_singleton] at hp; subst hp; cases hq

/-! ### Closures that write a table -/
theorem agV_rel : ∀ {l : List Sc} {r : List Value}, agV l = some r → l.length = r.length ∧ l.map Sc.ro = l ∧ ∀ (i : Nat) (s : Sc), l[i]? = some s → ∃ v, r[i]? = some v ∧ ∀ (G : Gh) (w : World) (loc : Nat × Nat) (u : Value), RelSc P G w loc s u ↔ u = v
  | [], r, e => by cases e; exact ⟨rfl, rfl, fun i s hi => by simp at hi⟩
  | s :: l, r, e => by
    cases s <;> simp only [agV] at e <;> first | cases e | skip
    split at e
    · rename_i r' hr
      cases e
      obtain ⟨h1, h2, h3⟩ := agV_rel hr
      refine ⟨by simp [h1], by simp only [List.map_cons, h2, Sc.ro], fun i s hi => ?_⟩
      cases i with
      | zero => simp at hi; subst hi; exact ⟨_, rfl, fun _ _ _ _ => Iff.rfl⟩
      | succ i => simpa using h3 i s (by simpa using hi)
    · cases e
theorem vAg_rel : ∀ {vs : List Value} {l : List Sc}, vAg vs = some l → l.length = vs.length ∧ l.map Sc.ro = l ∧ ∀ (i : Nat) (s : Sc), l[i]? = some s → ∃ v, vs[i]? = some v ∧ ∀ (G : Gh) (w : World) (loc : Nat × Nat), RelSc P G w loc s v
  | [], l, e => by cases e; exact ⟨rfl, rfl, fun i s hi => by simp at hi⟩
  | v :: vs, l, e => by
    cases v <;> simp only [vAg] at e <;> first | cases e | skip
    split at e
    · rename_i r' hr
      cases e
      obtain ⟨h1, h2, h3⟩ := vAg_rel hr
      refine ⟨by simp [h1], by simp only [List.map_cons, h2, Sc.ro], fun i s hi => ?_⟩
      cases i with
      | zero => simp at hi; subst hi; exact ⟨_, rfl, fun _ _ _ => rfl⟩
      | succ i => simpa using h3 i s (by simpa using hi)
    · cases e
theorem toVA_rel {r : RV} {v u : Value} (e : toVA r = some v) {t : Nat} (h : RelRV P G w t r u) : u = v := by
  cases r with
  | sc s => exact toV_rel e h
  | agg l =>
    simp only [toVA] at e
    split at e
    · rename_i r hr
      cases e
      obtain ⟨cs, rfl, hs, hc⟩ := h
      obtain ⟨h1, _, h3⟩ := agV_rel (P := P) hr
      congr 1
      apply Array.ext
      · simp [hs, h1]
      · intro i a1 a2
        have hi : i < l.length := by omega
        obtain ⟨u, hu, hru⟩ := hc i l[i] (by simp [hi])
        obtain ⟨v, hv, hvv⟩ := h3 i l[i] (by simp [hi])
        have := (hvv _ _ _ _).1 hru
        subst this
        have e1 : cs[i] = u := by simpa [Array.getElem?_eq_getElem a1] using hu
        have e2 : r.toArray[i] = u := by
          have a3 : i < r.length := by simpa using a2
          simpa [List.getElem?_eq_getElem a3] using hv
        rw [e1, e2]
    · cases e
theorem ofVA_rel {v : Value} {r : RV} (e : ofVA v = some r) : r.ro = r ∧ ∀ (G : Gh) (w : World) (t : Nat), RelRV P G w t r v := by
  unfold ofVA at e
  split at e
  · rename_i cs
    split at e
    · rename_i l hl
      cases e
      obtain ⟨h1, h2, h3⟩ := vAg_rel (P := P) hl
      refine ⟨by simp only [RV.ro, h2], fun G w t => ⟨cs, rfl, by simpa using h1.symm, fun i s hi => ?_⟩⟩
      obtain ⟨v, hv, hr⟩ := h3 i s hi
      exact ⟨v, by simpa using hv, hr _ _ _⟩
    · cases e
  · exact ofV_rel e
theorem toVsA_rel : ∀ {rs : List RV} {vs : List Value} {xs : List Operand}, toVsA rs = some vs → rs.length = xs.length → (∀ (i : Nat) (x : Operand), xs[i]? = some x → ∃ r, rs[i]? = some r ∧ r.ro = r ∧ ∀ t, RelRV P G w t r (a.eval x)) → xs.map a.eval = vs
  | [], vs, xs, e, hl, _ => by
    cases e
    have : xs = [] := List.eq_nil_of_length_eq_zero (by simpa using hl.symm)
    subst this; rfl
  | r :: rs, vs, xs, e, hl, hr => by
    cases xs with
    | nil => simp at hl
    | cons x xs =>
      simp only [toVsA] at e
      split at e
      · rename_i v us hv hvs
        cases e
        obtain ⟨r0, h0, _, h1⟩ := hr 0 x rfl
        simp only [List.getElem?_cons_zero, Option.some.injEq] at h0
        subst h0
        rw [List.map_cons, toVA_rel hv (h1 0), toVsA_rel hvs (by simpa using hl) (fun i y hi => by simpa using hr (i + 1) y (by simpa using hi))]
      · cases e
theorem ofVsA_rel : ∀ {vs : List Value} {as : List AV}, ofVsA vs = some as → as.length = vs.length ∧ ∀ (i : Nat) (x : AV), as[i]? = some x → ∃ v, vs[i]? = some v ∧ ∃ r, x = .rv r ∧ r.ro = r ∧ ∀ (G : Gh) (w : World) (t : Nat), RelRV P G w t r v
  | [], as, e => by cases e; exact ⟨rfl, fun i x hi => by simp at hi⟩
  | v :: vs, as, e => by
    simp only [ofVsA] at e
    split at e
    · rename_i r l hr hl
      cases e
      obtain ⟨h1, h2⟩ := ofVsA_rel hl
      refine ⟨by simp [h1], fun i x hi => ?_⟩
      cases i with
      | zero => simp at hi; subst hi; exact ⟨v, rfl, r, rfl, (ofVA_rel (P := P) hr).1, (ofVA_rel hr).2⟩
      | succ i => simpa using h2 i x (by simpa using hi)
    · cases e

theorem capsT_spec : ∀ {xs : List Operand} {cs : List AV}, capsT g xs = some cs → cs.length = xs.length ∧ ∀ (i : Nat) (x : AV), cs[i]? = some x →
    ∃ t, xs[i]? = some (.tmp t) ∧ ((isTab x = true ∧ x = g t ∧ tmOf x ≠ none) ∨ (isTab x = false ∧ ((∃ ty l, g t = .cbox ty l ∧ x = .cbox ty l) ∨ ∃ s ys, g t = .al s .cell ∧ g s = .ms ys ∧ x = .cbox 0 [.ln ys.length])))
  | [], cs, e => by cases e; exact ⟨rfl, fun i x hi => by simp at hi⟩
  | x :: xs, cs, e => by
    cases x with
    | tmp t =>
      simp only [capsT] at e
      split at e
      · rename_i r hr
        obtain ⟨h1, h2⟩ := capsT_spec hr
        have cons : ∀ y, cs = y :: r → ((isTab y = true ∧ y = g t ∧ tmOf y ≠ none) ∨ (isTab y = false ∧ ((∃ ty l, g t = .cbox ty l ∧ y = .cbox ty l) ∨ ∃ s ys, g t = .al s .cell ∧ g s = .ms ys ∧ y = .cbox 0 [.ln ys.length]))) → cs.length = (Operand.tmp t :: xs).length ∧ ∀ (i : Nat) (x : AV), cs[i]? = some x →
            ∃ t', (Operand.tmp t :: xs)[i]? = some (.tmp t') ∧ ((isTab x = true ∧ x = g t' ∧ tmOf x ≠ none) ∨ (isTab x = false ∧ ((∃ ty l, g t' = .cbox ty l ∧ x = .cbox ty l) ∨ ∃ s ys, g t' = .al s .cell ∧ g s = .ms ys ∧ x = .cbox 0 [.ln ys.length]))) := by
          rintro y rfl hy
          refine ⟨by simp [h1], fun i x hi => ?_⟩
          cases i with
          | zero => simp at hi; subst hi; exact ⟨t, rfl, hy⟩
          | succ i => simpa using h2 i x (by simpa using hi)
        split at e
        · rename_i ty n hg
          cases e
          exact cons _ rfl (.inl ⟨rfl, hg.symm, by simp [tmOf]⟩)
        · rename_i ty l hg
          cases e
          exact cons _ rfl (.inr ⟨rfl, .inl ⟨ty, l, hg, rfl⟩⟩)
        · rename_i ys hg
          cases e
          exact cons _ rfl (.inl ⟨rfl, hg.symm, by simp [tmOf]⟩)
        · rename_i s hg
          split at e
          · rename_i ys hs
            cases e
            exact cons _ rfl (.inr ⟨rfl, .inr ⟨s, ys, hg, hs, rfl⟩⟩)
          · cases e
        · cases e
      · cases e
    | _ => cases e

theorem filter_one {α : Type} (q : α → Bool) : ∀ (l : List α), (l.filter q).length = 1 → ∀ (i j : Nat) (x y : α), l[i]? = some x → q x = true → l[j]? = some y → q y = true → i = j := by
  intro l
  induction l with
  | nil => intro _ i j x y hi; simp at hi
  | cons z l ih =>
    intro h i j x y hi hx hj hy
    have pos : ∀ (k : Nat) (u : α), l[k]? = some u → q u = true → 0 < (l.filter q).length := fun k u hu hq => List.length_pos_of_mem (List.mem_filter.2 ⟨List.mem_of_getElem? hu, hq⟩)
    cases i with
    | zero =>
      cases j with
      | zero => rfl
      | succ j =>
        simp at hi; subst hi
        rw [List.filter_cons_of_pos hx] at h
        have := pos j y (by simpa using hj) hy
        rw [List.length_cons] at h; omega
    | succ i =>
      cases j with
      | zero =>
        simp at hj; subst hj
        rw [List.filter_cons_of_pos hy] at h
        have := pos i x (by simpa using hi) hx
        rw [List.length_cons] at h; omega
      | succ j =>
        cases hz : q z with
        | true =>
          rw [List.filter_cons_of_pos hz] at h
          have := pos i x (by simpa using hi) hx
          rw [List.length_cons] at h; omega
        | false =>
          rw [List.filter_cons_of_neg (by simp [hz])] at h
          rw [ih h i j x y (by simpa using hi) hx (by simpa using hj) hy]

theorem makeFuncT_sound (hg : Sees st g) (h : Rel P S w0 c0 c.X G st a w) (hσ : ∀ f, Meets P f (c.sp f)) {f : FuncId} {cap : Array Operand} {d : Nat} {ws : List (Nat × AV)} (hd : d ∉ c.X) (e : makeFuncT c g f cap.toList d some = some ws) :
    Rel P S w0 c0 c.X G (puts st ws) (a.put (some d) (.func (.func f) #[] (cap.map a.eval))) w := by
  unfold makeFuncT at e
  split at e
  case h_2 => cases e
  rename_i cs hcs
  cases hb : decide ((cs.filter isTab).length = 1) with
  | false => rw [hb] at e; cases e
  | true =>
    rw [hb, cond_true] at e
    have hone : (cs.filter isTab).length = 1 := by simpa using hb
    split at e
    case h_2 => cases e
    rename_i s tb hop htb
    cases hb2 : c.X.contains s && s != d with
    | false => rw [hb2] at e; cases e
    | true =>
      rw [hb2, cond_true] at e
      simp only [Bool.and_eq_true, bne_iff_ne, ne_eq] at hb2
      split at e
      case h_2 => cases e
      rename_i m xs0 htm
      cases e
      obtain ⟨hlen, hspec⟩ := capsT_spec hcs
      obtain ⟨q1, q2, q3, q4, q5⟩ := tmOf_spec (G := G) (w := w) htm
      -- the slot of the table
      obtain ⟨s', hs', hk⟩ := hspec _ _ htb
      rw [hop] at hs'
      cases hs'
      have htbg : tb = g s := by
        rcases hk with ⟨_, hk, _⟩ | ⟨hk, _⟩
        · exact hk
        · unfold isTab at hk; rw [q1] at hk; cases hk
      obtain ⟨b, hv, ho, hc, hrow, _⟩ := (relA_tab q1).1 (show RelA P G w a s tb (a.tmps.getD s undef) by rw [htbg]; exact hg.rel h s)
      have htab := q3 _ _ hv
      have hcv : (cap.map a.eval)[cs.findIdx isTab]? = some (a.tmps.getD s undef) := by
        have : cap[cs.findIdx isTab]? = some (.tmp s) := by simpa using hop
        simp [this, Act.eval]
      refine h.pure hd (fun q hq => by cases hq; exact ⟨by simpa using hb2.1, fun e => nomatch e⟩) ?_
      show RelAl P G w ((a.put (some d) (Value.func (Fn.func f) #[] (Array.map a.eval cap))).tmps.getD s undef) (AL.clo m (List.findIdx isTab cs) (closureT c f cs (List.findIdx isTab cs) tb)) (Value.func (Fn.func f) #[] (Array.map a.eval cap))
      rw [put_getD, if_neg (fun e => hb2.2 e.1)]
      refine ⟨f, cap.map a.eval, b, xs0.length, rfl, hcv, htab, fun vs xs ys hxl hF => ?_⟩
      unfold closureT at hF
      split at hF
      case h_2 => cases hF
      rename_i as has
      split at hF
      case h_2 => cases hF
      rename_i fin hsp
      split at hF
      case h_2 => cases hF
      rename_i x hx
      obtain ⟨hok, hcall⟩ := hσ f _ _ _ hsp
      obtain ⟨h1, h2⟩ := ofVsA_rel (P := P) has
      refine ⟨hok, fun w' hlater hrow' => ?_⟩
      let G2 : Gh := ⟨fun k => if k = b then some (as.length + cs.findIdx isTab, 0) else none, fun k => if k < w.heap.size then G.com k else 0⟩
      have hadv : Adv G w G2 w' (fun _ => True) := ⟨hlater.1, fun k o hk ho => ⟨hlater.2 k o hk ho, by simp only [G2, if_pos hk]; exact ho⟩, fun _ _ _ _ hn => absurd trivial hn⟩
      have hblt : b < w.heap.size := hrow.lt
      have hv2 : TabV G2 w' (setTab xs tb) (a.tmps.getD s undef) b := (hv.adv hadv).set q1 hxl
      have htabset : tab (setTab xs tb) = some xs := tab_set q1 hxl
      have hplt : cs.findIdx isTab < cs.length := (List.getElem?_eq_some_iff.1 htb).1
      have has1 : (as ++ cs.set (cs.findIdx isTab) (setTab xs tb))[as.length + cs.findIdx isTab]? = some (setTab xs tb) := by
        rw [List.getElem?_append_right (by omega)]
        simp [hplt]
      have hval1 : (vs.toArray ++ cap.map a.eval)[as.length + cs.findIdx isTab]? = some (a.tmps.getD s undef) := by
        rw [Array.getElem?_append_right (by simp [h1])]
        simpa [h1] using hcv
      refine (hcall (vs.toArray ++ cap.map a.eval) G2 w' ⟨#[], []⟩ (by simp [h1, hlen]) (fun i x hi => ?_) (fun k hk hkn => ?_)).mono ?_
      · by_cases hlt : i < as.length
        · rw [List.getElem?_append_left hlt] at hi
          obtain ⟨v, hv, rr, rfl, hro, hrel⟩ := h2 i x hi
          refine ⟨v, ?_, hrel _ _ _, .inl ⟨rr, rfl, hro⟩⟩
          rw [Array.getElem?_append_left (by simp; omega)]
          simpa using hv
        · rw [List.getElem?_append_right (by omega), List.getElem?_set] at hi
          by_cases hip : cs.findIdx isTab = i - as.length
          · rw [if_pos hip, if_pos hplt] at hi
            cases hi
            have hie : i = as.length + cs.findIdx isTab := by omega
            subst hie
            refine ⟨_, hval1, (relA_tab htabset).2 ⟨b, hv2, by simp [G2], by simp only [G2, if_pos hblt]; exact hc, by rw [tmV_set, q2]; exact hrow', ?_⟩, .inr (.inr ⟨xs, htabset⟩)⟩
            exact ((q5 P _ _).adv hadv).set q1 hxl
          · rw [if_neg hip] at hi
            obtain ⟨t, ht, hcase⟩ := hspec _ _ hi
            have hval : (vs.toArray ++ cap.map a.eval)[i]? = some (a.tmps.getD t undef) := by
              have : cap[i - as.length]? = some (.tmp t) := by simpa using ht
              rw [Array.getElem?_append_right (by simp; omega)]
              simp only [List.size_toArray]
              rw [← h1]
              simp [this, Act.eval]
            refine ⟨_, hval, ?_⟩
            rcases hcase with ⟨hxt, _⟩ | ⟨_, hcase⟩
            · exact absurd (filter_one isTab cs hone _ _ _ _ htb (by unfold isTab; rw [q1]; rfl) hi hxt) hip
            · have hr := hg.rel h t
              rcases hcase with ⟨ty, l, hgt, rfl⟩ | ⟨s2, zs, hgt, hgs2, rfl⟩
              · rw [hgt] at hr
                obtain ⟨b2, hb2, hl2⟩ := hr
                refine ⟨⟨b2, hb2, fun j sc hj => ?_⟩, .inr (.inl ⟨_, _, rfl⟩)⟩
                obtain ⟨hro, u, hu, hrel⟩ := hl2 j sc hj
                refine ⟨hro, u, hu.adv hadv, ?_⟩
                have := (RelSc.ro (loc' := (i, j + 1)) hrel).adv hadv (.inl (Sc.ro_ro sc))
                rwa [hro] at this
              · rw [hgt] at hr
                obtain ⟨b2, hb2, hc2⟩ := hr
                have hr2 := hg.rel h s2
                rw [hgs2] at hr2
                obtain ⟨b3, ty3, hv3, _⟩ := hr2
                refine ⟨⟨b2, hb2, fun j sc hj => ?_⟩, .inr (.inl ⟨_, _, rfl⟩)⟩
                cases j with
                | zero => simp at hj; subst hj; exact ⟨rfl, _, hc2.adv hadv, ⟨_, _, hv3⟩⟩
                | succ j => simp at hj
      · have hkb : k = b := by
          apply Classical.byContradiction
          intro hn
          exact hkn (by simp only [G2, if_neg hn])
        subst hkb
        exact ⟨_, _, xs, _, has1, htabset, hval1, hv2⟩
      · rintro e' w'' ⟨v, c', rfl, hfr, hc', _, hr, hfin⟩
        obtain ⟨zs, hz1, hz2, hz3⟩ := hfin _ _ _ _ _ has1 htabset hval1 hv2
        rw [hx] at hz1
        cases hz1
        rw [tab_set htabset (by rw [hz2])] at hF
        cases hF
        obtain ⟨us, hus, hsz, _⟩ := hr
        have : us = #[] := Array.eq_empty_of_size_eq_zero hsz
        subst this
        refine ⟨by rw [hus], ⟨hfr.os, hfr.tape, hfr.output, hfr.size, fun k hk hkb => hfr.block k hk (fun hn => hn (by simp only [G2, if_neg hkb]))⟩, by rw [tmV_set, q2] at hz3; exact hz3, by rw [hz2, hxl]⟩

/-! ### Calls -/
theorem enter_run {f : FuncId} (hf : FnOk P f) (args cs : Array Value) (w : World) : (invoke (.fn (.func f) cs) args).run P w = .ok (.enter f (args ++ cs)) w := by
  obtain ⟨fn, h1, h2, h3⟩ := hf
  have h3' : fn.body.isNone = false := by cases hb : fn.body <;> simp_all
  simp only [invoke, callFunc, Sem.run_bind, run_program, Result.andThen_ok, h1, h2, Bool.false_eq_true, if_false, h3', Sem.run_pure]

theorem argT_spec {k : AL} {z x : AV} (e : argT k z = some x) : ∃ m xs, tmOf z = some (m, xs) ∧ tab x = some xs ∧ tmV x = m ∧ ((k = .same ∧ m = .sl ∧ x = .ms xs) ∨ ∃ p F, k = .clo m p F ∧ x = .cms m p F xs) := by
  unfold argT at e
  split at e
  · rename_i xs htm
    cases e
    exact ⟨_, xs, htm, rfl, rfl, .inl ⟨rfl, rfl, rfl⟩⟩
  · rename_i m p F m' xs htm
    split at e
    · rename_i hm
      cases e
      subst hm
      exact ⟨_, xs, htm, rfl, rfl, .inr ⟨p, F, rfl, rfl⟩⟩
    · cases e
  · cases e
theorem args_spec (T : TypeId → TK) : ∀ {xs : List Operand} {ts : List TypeId} {as : List AV}, args g T xs ts = some as → as.length = xs.length ∧ ∀ (i : Nat) (x : AV), as[i]? = some x →
    ∃ y ty, xs[i]? = some y ∧ ((∃ r, opr g ty y = some r ∧ x = .rv r) ∨ ∃ t s k, y = .tmp t ∧ g t = .al s k ∧ argT k (g s) = some x)
  | [], ts, as, e => by simp [args] at e; subst e; exact ⟨rfl, fun i x hi => by simp at hi⟩
  | x :: xs, [], as, e => by simp [args] at e
  | x :: xs, t :: ts, as, e => by
    simp only [args] at e
    split at e
    · rename_i y l hy hl
      cases e
      obtain ⟨h1, h2⟩ := args_spec T hl
      refine ⟨by simp [h1], fun i z hi => ?_⟩
      cases i with
      | zero =>
        simp only [List.getElem?_cons_zero, Option.some.injEq] at hi
        subst hi
        unfold arg at hy
        split at hy
        · rename_i t'
          split at hy
          · rename_i r hgt
            cases hy
            exact ⟨_, .other, rfl, .inl ⟨r.ro, by simp [opr, hgt], rfl⟩⟩
          · rename_i s k hgt
            exact ⟨_, .other, rfl, .inr ⟨t', s, k, rfl, hgt, hy⟩⟩
          · cases hy
        · split at hy
          · rename_i r hr
            cases hy
            exact ⟨_, _, rfl, .inl ⟨r, hr, rfl⟩⟩
          · cases hy
      | succ i => simpa using h2 i z (by simpa using hi)
    · cases e

def bk (z f : AV) : AV := match tab f with
  | some ys => setTab ys z
  | none => .unk
theorem backs_spec : ∀ {xs : List Operand} {fin : List AV} (i : Nat) (t s : Nat) (k : AL), xs[i]? = some (.tmp t) → g t = .al s k → (s, bk (g s) ((fin[i]?).getD .unk)) ∈ backs g xs fin
  | [], fin, i, t, s, k, h, _ => by simp at h
  | x :: xs, fin, 0, t, s, k, h, hg => by
    simp at h; subst h
    simp only [backs, hg]
    have : fin.headD .unk = (fin[0]?).getD .unk := by cases fin <;> rfl
    rw [← this]
    exact List.mem_cons_self ..
  | x :: xs, fin, i + 1, t, s, k, h, hg => by
    have := backs_spec (xs := xs) (fin := fin.tail) i t s k (by simpa using h) hg
    have hf : fin.tail[i]? = fin[i + 1]? := by cases fin <;> simp
    rw [hf] at this
    cases x with
    | tmp u =>
      simp only [backs]
      split
      · exact List.mem_cons_of_mem _ this
      · exact this
    | _ => simpa only [backs] using this

theorem backs_inv : ∀ {xs : List Operand} {fin : List AV} {p : Nat × AV}, p ∈ backs g xs fin → ∃ (i : Nat) (t : Nat) (k : AL), xs[i]? = some (.tmp t) ∧ g t = .al p.1 k ∧ p.2 = bk (g p.1) ((fin[i]?).getD .unk)
  | [], fin, p, h => by simp [backs] at h
  | x :: xs, fin, p, h => by
    have hf : ∀ i, fin.tail[i]? = fin[i + 1]? := fun i => by cases fin <;> simp
    cases x with
    | tmp u =>
      simp only [backs] at h
      split at h
      · rename_i s k hs
        rcases List.mem_cons.1 h with rfl | h
        · refine ⟨0, u, k, rfl, hs, by cases fin <;> rfl⟩
        · obtain ⟨i, t, k, h1, h2, h3⟩ := backs_inv h
          exact ⟨i + 1, t, k, by simpa using h1, h2, by rw [h3, hf]⟩
      · obtain ⟨i, t, k, h1, h2, h3⟩ := backs_inv h
        exact ⟨i + 1, t, k, by simpa using h1, h2, by rw [h3, hf]⟩
    | _ =>
      simp only [backs] at h
      obtain ⟨i, t, k, h1, h2, h3⟩ := backs_inv h
      exact ⟨i + 1, t, k, by simpa using h1, h2, by rw [h3, hf]⟩

/-- What an argument with a table is. -/
theorem argT_sound (hg : Sees st g) (h : Rel P S w0 c0 X G st a w) {t s : Nat} {k : AL} {x : AV} (hgt : g t = .al s k) (e : argT k (g s) = some x) :
    ∃ m xs b, tmOf (g s) = some (m, xs) ∧ tab x = some xs ∧ tmV x = m ∧ TabV G w (g s) (a.tmps.getD s undef) b ∧ TabV G w x (a.tmps.getD t undef) b ∧ CloV P G w x (a.tmps.getD t undef) b ∧ G.own b = some (s, 0) ∧ G.com b = 0 ∧ Row w m b xs := by
  obtain ⟨m, xs, htm, hx, hxm, hcase⟩ := argT_spec e
  obtain ⟨q1, q2, q3, q4, q5⟩ := tmOf_spec (G := G) (w := w) htm
  obtain ⟨b, hv, ho, hc, hrow, _⟩ := (relA_tab q1).1 (hg.rel h s)
  have htab := q3 _ _ hv
  have ht := hg.rel h t
  rw [hgt] at ht
  rw [q2] at hrow
  refine ⟨m, xs, b, htm, hx, hxm, hv, ?_⟩
  rcases hcase with ⟨rfl, rfl, rfl⟩ | ⟨p, F, rfl, rfl⟩
  · have ht : a.tmps.getD t undef = a.tmps.getD s undef := ht
    rw [ht]
    exact ⟨htab, trivial, ho, hc, hrow⟩
  · obtain ⟨f, cs, b', n, hev, hp, ht', hF⟩ := ht
    obtain ⟨rfl, rfl⟩ := TabOf.det htab ht'
    exact ⟨⟨f, cs, _, hev, hp, htab⟩, fun f' cs' e' => by cases hev.symm.trans e'; exact hF, ho, hc, hrow⟩

theorem call_sound (hg : Sees st g) (h : Rel P S w0 c0 X G st a w) (hσ : ∀ f, Meets P f (c.sp f)) {f : FuncId} {xs : Array Operand} {ts : Array TypeId} {d : Nat} {as fin : List AV} {r : AV} (hd : d ∉ X)
    (ha : args g c.T xs.toList ts.toList = some as) (hs : c.σ f as = some (r, fin)) (hψ : c.ψ f as = true) (hb : ((backs g xs.toList fin).all (fun p => p.1 != d) && decide ((backs g xs.toList fin).length ≤ 1)) = true) :
    FnOk P f ∧ Calls P f (xs.map a.eval) w fun e w' => ∃ v, e = .returned v ∧ ∃ G', Rel P S w0 c0 X G' (puts st (backs g xs.toList fin ++ [(d, r)])) (a.put (some d) v) w' := by
  obtain ⟨hok, hcall⟩ := hσ f _ _ _ (show c.sp f as = some (r, fin) by unfold Ctx.sp; rw [hψ]; exact hs)
  obtain ⟨h1, h2⟩ := args_spec c.T ha
  simp only [Bool.and_eq_true, decide_eq_true_eq] at hb
  obtain ⟨hbd, hb1⟩ := hb
  have hxs : ∀ i : Nat, xs.toList[i]? = xs[i]? := fun i => by simp
  refine ⟨hok, ?_⟩
  -- an argument with a table is written back
  have halias : ∀ (i : Nat) (x : AV) (t s : Nat) (k : AL), as[i]? = some x → xs[i]? = some (.tmp t) → g t = .al s k → (s, bk (g s) ((fin[i]?).getD .unk)) ∈ backs g xs.toList fin :=
    fun i x t s k _ hx hgt => backs_spec i t s k (by rw [hxs]; exact hx) hgt
  by_cases hnil : backs g xs.toList fin = []
  · -- no such slot
    let G2 : Gh := ⟨fun _ => none, G.com⟩
    have hadv0 : Adv G w G2 w (fun _ => True) := ⟨Nat.le_refl _, fun b o _ ho => ⟨rfl, ho⟩, fun _ _ _ _ hn => absurd trivial hn⟩
    refine (hcall (xs.map a.eval) G2 w a (by simpa using h1.symm) (fun i x hi => ?_) (fun b _ hb => absurd rfl hb)).mono ?_
    · obtain ⟨y, ty0, hy, hcase⟩ := h2 i x hi
      rcases hcase with ⟨r0, hr0, rfl⟩ | ⟨t, s, k, rfl, hgt, hx⟩
      · obtain ⟨hro, hr⟩ := opr_sound hg h hr0
        exact ⟨a.eval y, by rw [Array.getElem?_map, ← hxs, hy]; rfl, RelRV.roAdv (hr i) hro hadv0, .inl ⟨r0, rfl, hro⟩⟩
      · have := halias i x t s k hi (by rw [← hxs]; exact hy) hgt
        rw [hnil] at this; cases this
    · rintro e w' ⟨v, c', rfl, hfr, hc', hrk, hr, _⟩
      refine ⟨v, rfl, ⟨fun b => if b < w.heap.size then G.own b else none, c'⟩, ?_⟩
      have hblk : ∀ b, b < w.heap.size → w'.heap[b]? = w.heap[b]? := fun b hb => hfr.block b hb (fun hn => hn rfl)
      have hadv : Adv G w ⟨fun b => if b < w.heap.size then G.own b else none, c'⟩ w' (fun _ => False) :=
        ⟨hfr.size, fun b o hb ho => ⟨World.cell?_of_block (w := w) (a := ⟨b, o, none⟩) (hblk b hb), by show o < c' b; rw [hc' b hb]; exact ho⟩,
          fun b loc hb ho _ => ⟨by simp only [if_pos hb]; exact ho, hc' b hb, hblk b hb⟩⟩
      rw [hnil, List.nil_append]
      refine h.upd hadv ⟨hfr.os, hfr.tape, hfr.output, hfr.size, fun k hk _ => hblk k hk⟩ (S' := fun _ => False) (fun _ _ e => e.elim) (fun k hk _ => ⟨hc' k (Nat.lt_of_lt_of_le hk h.fr.size), by simp only [if_pos (Nat.lt_of_lt_of_le hk h.fr.size)]⟩)
        (fun d' e => by cases e; exact ⟨hd, by simp⟩) (fun _ _ e => e.elim) (fun p hp hlt => ?_) (fun p hp q hq => ?_)
      · simp only [List.mem_singleton] at hp
        subst hp
        rw [put_getD, if_pos ⟨rfl, hlt⟩]
        have hadv2 : Adv ⟨fun _ => none, c'⟩ w' ⟨fun b => if b < w.heap.size then G.own b else none, c'⟩ w' (fun _ => True) := ⟨Nat.le_refl _, fun b o _ ho => ⟨rfl, ho⟩, fun _ _ _ _ hn => absurd trivial hn⟩
        rcases hrk with ⟨r', rfl, hro⟩ | ⟨l, rfl⟩
        · exact RelRV.roAdv hr hro hadv2
        · obtain ⟨vs, e, hsz, hl⟩ := hr
          exact ⟨vs, e, hsz, fun i r hi => let ⟨hro, u, hu, hh⟩ := hl i r hi; ⟨hro, u, hu, hh.roAdv hro hadv2⟩⟩
      · simp only [List.mem_singleton] at hp
        subst hp
        rcases hrk with ⟨r', rfl, hro⟩ | ⟨l, rfl⟩ <;> cases hq
  · -- one slot with a table
    obtain ⟨⟨s, z⟩, hbl⟩ : ∃ p, backs g xs.toList fin = [p] := by
      cases hbs : backs g xs.toList fin with
      | nil => exact absurd hbs hnil
      | cons p ps =>
        rw [hbs] at hb1
        have : ps = [] := by simpa using hb1
        subst this
        exact ⟨p, rfl⟩
    obtain ⟨i0, t, k, hx0, hgt, hz⟩ := backs_inv (g := g) (xs := xs.toList) (fin := fin) (p := (s, z)) (by rw [hbl]; simp)
    have hx0' : xs[i0]? = some (.tmp t) := by rw [← hxs]; exact hx0
    have hilt : i0 < as.length := by rw [h1]; exact (List.getElem?_eq_some_iff.1 hx0).1
    obtain ⟨x0, has0⟩ : ∃ x0, as[i0]? = some x0 := ⟨as[i0], List.getElem?_eq_getElem hilt⟩
    have hx0arg : argT k (g s) = some x0 := by
      obtain ⟨y, ty0, hy, hcase⟩ := h2 i0 _ has0
      rw [hx0] at hy
      cases hy
      rcases hcase with ⟨r0, hr0, _⟩ | ⟨t', s', k', hyt, hgt', hx⟩
      · simp [opr, hgt] at hr0
      · cases hyt
        rw [hgt] at hgt'
        cases hgt'
        exact hx
    obtain ⟨m, ms, b, htm, htx, hxm, hvs, hvt, hclo, ho, hc, hrow⟩ := argT_sound hg h hgt hx0arg
    obtain ⟨q1, q2, q3, q4, q5⟩ := tmOf_spec (G := G) (w := w) htm
    have hbsz : b < w.heap.size := hrow.lt
    have hi0 : (xs.map a.eval)[i0]? = some (a.tmps.getD t undef) := by rw [Array.getElem?_map, hx0']; rfl
    let G2 : Gh := ⟨fun k => if k = b then some (i0, 0) else none, G.com⟩
    have hadv0 : Adv G w G2 w (fun _ => True) := ⟨Nat.le_refl _, fun b o _ ho => ⟨rfl, ho⟩, fun _ _ _ _ hn => absurd trivial hn⟩
    have hown2 : ∀ k, G2.own k ≠ none → k = b := fun k hk => by
      apply Classical.byContradiction
      intro hn
      exact hk (by simp only [G2, if_neg hn])
    have honly : ∀ (i : Nat) (t' s' : Nat) (k' : AL), xs[i]? = some (.tmp t') → g t' = .al s' k' → i = i0 := by
      intro i t' s' k' hx' hgt'
      apply Classical.byContradiction
      intro hne
      have hlen : 2 ≤ (backs g xs.toList fin).length := by
        have key : ∀ (xs : List Operand) (fin : List AV) (i j : Nat) (t u v z : Nat) (k1 k2 : AL), i < j → xs[i]? = some (.tmp t) → g t = .al u k1 → xs[j]? = some (.tmp v) → g v = .al z k2 → 2 ≤ (backs g xs fin).length := by
          intro xs
          induction xs with
          | nil => intro fin i j t u v z _ _ _ hi; simp at hi
          | cons x xs ih =>
            intro fin i j t u v z k1 k2 hij hi hgi hj hgj
            cases j with
            | zero => omega
            | succ j =>
              have hj' : xs[j]? = some (.tmp v) := by simpa using hj
              cases i with
              | zero =>
                simp at hi; subst hi
                simp only [backs, hgi, List.length_cons]
                have := List.length_pos_of_mem (backs_spec (g := g) (fin := fin.tail) j v z k2 hj' hgj)
                omega
              | succ i =>
                have hi' : xs[i]? = some (.tmp t) := by simpa using hi
                have := ih fin.tail i j t u v z k1 k2 (by omega) hi' hgi hj' hgj
                cases x with
                | tmp q =>
                  simp only [backs]
                  split
                  · simp only [List.length_cons]; omega
                  · exact this
                | _ => simpa only [backs] using this
        have e1 : xs.toList[i]? = some (.tmp t') := by rw [hxs]; exact hx'
        rcases Nat.lt_or_gt_of_ne hne with hlt | hlt
        · exact key _ fin i i0 t' s' t s k' k hlt e1 hgt' hx0 hgt
        · exact key _ fin i0 i t s t' s' k k' hlt hx0 hgt e1 hgt'
      rw [hbl] at hlen
      simp at hlen
    refine (hcall (xs.map a.eval) G2 w a (by simpa using h1.symm) (fun i x hi => ?_) (fun k hkl hk => ?_)).mono ?_
    · obtain ⟨y, ty0, hy, hcase⟩ := h2 i x hi
      rcases hcase with ⟨r0, hr0, rfl⟩ | ⟨t', s', k', rfl, hgt', hx'⟩
      · obtain ⟨hro, hr⟩ := opr_sound hg h hr0
        exact ⟨a.eval y, by rw [Array.getElem?_map, ← hxs, hy]; rfl, RelRV.roAdv (hr i) hro hadv0, .inl ⟨r0, rfl, hro⟩⟩
      · have hii := honly i t' s' k' (by rw [← hxs]; exact hy) hgt'
        subst hii
        rw [has0] at hi
        cases hi
        exact ⟨_, hi0, (relA_tab htx).2 ⟨b, hvt.adv hadv0, by simp [G2], hc, by rw [hxm]; exact hrow, hclo.adv hadv0⟩, .inr (.inr ⟨_, htx⟩)⟩
    · have := hown2 k hk
      subst this
      exact ⟨i0, _, _, _, has0, htx, hi0, hvt.adv hadv0⟩
    · rintro e w' ⟨v, c', rfl, hfr, hc', hrk, hr, hfin⟩
      obtain ⟨ys, hf1, hf2, hf3⟩ := hfin i0 _ _ _ b has0 htx hi0 (hvt.adv hadv0)
      refine ⟨v, rfl, ⟨fun b => if b < w.heap.size then G.own b else none, c'⟩, ?_⟩
      have hblk : ∀ k, k < w.heap.size → k ≠ b → w'.heap[k]? = w.heap[k]? := fun k hk hkb => hfr.block k hk (fun hn => hkb (hown2 k hn))
      have hadv : Adv G w ⟨fun b => if b < w.heap.size then G.own b else none, c'⟩ w' (fun l => l = (s, 0)) := by
        refine ⟨hfr.size, fun k o hk ho' => ?_, fun k loc hk ho' hE => ?_⟩
        · have hkb : k ≠ b := fun e => by subst e; rw [hc] at ho'; omega
          exact ⟨World.cell?_of_block (w := w) (a := ⟨k, o, none⟩) (hblk k hk hkb), by show o < c' k; rw [hc' k hk]; exact ho'⟩
        · have hkb : k ≠ b := fun e => by subst e; rw [ho] at ho'; cases ho'; exact hE rfl
          exact ⟨by simp only [if_pos hk]; exact ho', hc' k hk, hblk k hk hkb⟩
      have hbk : z = setTab ys (g s) := by
        rw [show z = _ from hz, hf1]
        simp only [Option.getD_some, bk, tab_set htx hf2]
      rw [hbl, hbk]
      have hsd : s ≠ d := by
        have := List.all_eq_true.1 hbd (s, z) (by rw [hbl]; simp)
        simpa using this
      have hon : (setTab ys (g s)).on = none := by
        revert q4; cases g s <;> intro q4 <;> first | rfl | exact q4
      refine h.upd hadv (S' := fun k => k = b) ⟨hfr.os, hfr.tape, hfr.output, hfr.size, fun k hk hkb => hblk k hk hkb⟩ (fun k hk e => ?_) (fun k hk _ => ⟨hc' k (Nat.lt_of_lt_of_le hk h.fr.size), by simp only [if_pos (Nat.lt_of_lt_of_le hk h.fr.size)]⟩)
        (fun d' e => by cases e; exact ⟨hd, by simp⟩) (fun t i e => by cases e; simp) (fun p hp hlt => ?_) (fun p hp q hq => ?_)
      · subst e
        apply Classical.byContradiction
        intro hS
        have := (h.old k hk hS).2
        rw [ho] at this; cases this
      · simp only [List.cons_append, List.nil_append, List.mem_cons, List.not_mem_nil, or_false] at hp
        rcases hp with rfl | rfl
        · rw [put_getD, if_neg (fun e => hsd e.1)]
          exact relA_wrote q1 hf2 hvs (q5 P _ _) hadv (by simp only [if_pos hbsz]; exact ho) ((hc' b hbsz).trans hc) (by rw [q2, ← hxm]; exact hf3)
        · rw [put_getD, if_pos ⟨rfl, hlt⟩]
          have hadv2 : Adv ⟨fun _ => none, c'⟩ w' ⟨fun b => if b < w.heap.size then G.own b else none, c'⟩ w' (fun _ => True) := ⟨Nat.le_refl _, fun b o _ ho => ⟨rfl, ho⟩, fun _ _ _ _ hn => absurd trivial hn⟩
          rcases hrk with ⟨r', rfl, hro⟩ | ⟨l, rfl⟩
          · exact RelRV.roAdv hr hro hadv2
          · obtain ⟨vs, e, hsz, hl⟩ := hr
            exact ⟨vs, e, hsz, fun i r hi => let ⟨hro, u, hu, hh⟩ := hl i r hi; ⟨hro, u, hu, hh.roAdv hro hadv2⟩⟩
      · simp only [List.cons_append, List.nil_append, List.mem_cons, List.not_mem_nil, or_false] at hp
        rcases hp with rfl | rfl
        · rw [hon] at hq; cases hq
        · rcases hrk with ⟨r', rfl, hro⟩ | ⟨l, rfl⟩ <;> cases hq
theorem callF_sound (hg : Sees st g) (h : Rel P S w0 c0 X G st a w) (hσ : ∀ f, Meets P f (c.sp f)) {f : FuncId} {xs : Array Operand} {ts : Array TypeId} {d : Nat} {ws : List (Nat × AV)} (hd : d ∉ X) (e : callF c g f xs.toList ts.toList d some = some ws) :
    FnOk P f ∧ Calls P f (xs.map a.eval) w fun e w' => ∃ v, e = .returned v ∧ ∃ G', Rel P S w0 c0 X G' (puts st ws) (a.put (some d) v) w' := by
  unfold callF at e
  split at e
  · rename_i as ha
    split at e
    · rename_i r fin hs
      cases hψ : c.ψ f as
      · rw [hψ] at e; cases e
      rw [hψ, cond_true] at e
      split at e
      · rename_i hb
        cases e
        exact call_sound hg h hσ hd ha hs hψ hb
      · cases e
    · cases e
  · cases e
/-- A call of a closure that holds its table. -/
theorem callT_sound (hg : Sees st g) (h : Rel P S w0 c0 X G st a w) {t s : Nat} {m : TM} {p : Nat} {F : List Value → List Int → Option (List Int)} {tb : List Int} {xs : Array Operand} {d : Nat} {ws : List (Nat × AV)} (hd : d ∉ X)
    (hgt : g t = .al s .same) (hgs : g s = .cms m p F tb) (hoprs : ∀ {rs : List RV}, oprs g .other xs.toList = some rs → rs.length = xs.toList.length ∧ ∀ (i : Nat) (x : Operand), xs.toList[i]? = some x → ∃ r, rs[i]? = some r ∧ r.ro = r ∧ ∀ t, RelRV P G w t r (a.eval x))
    (e : callT g s m p F tb xs.toList d some = some ws) :
    ∃ f cs, a.eval (.tmp t) = .func (.func f) #[] cs ∧ FnOk P f ∧ Calls P f (xs.map a.eval ++ cs) w fun e w' => ∃ v, e = .returned v ∧ ∃ G', Rel P S w0 c0 X G' (puts st ws) (a.put (some d) v) w' := by
  unfold callT at e
  split at e
  case h_2 => cases e
  rename_i rs hrs
  split at e
  case h_2 => cases e
  rename_i vs hvs
  cases hb : okT (F vs tb) && s != d with
  | false => rw [hb] at e; cases e
  | true =>
    rw [hb] at e
    cases e
    simp only [Bool.and_eq_true, bne_iff_ne, ne_eq] at hb
    obtain ⟨hF, hsd⟩ := hb
    cases hFv : F vs tb with
    | none => rw [hFv] at hF; cases hF
    | some ys =>
      simp only [valT]
      obtain ⟨h1, h2⟩ := hoprs hrs
      have hmap : xs.map a.eval = vs.toArray := by
        apply Array.ext'
        rw [Array.toList_map]
        exact toVsA_rel (P := P) (G := G) (w := w) hvs h1 h2
      have hs := hg.rel h s
      rw [hgs] at hs
      have ht := hg.rel h t
      rw [hgt] at ht
      obtain ⟨f, cs, u, b, hev, hp, htab, hclo, ho, hc, hrow⟩ := hs
      obtain ⟨hok, hcall⟩ := hclo vs tb ys rfl hFv
      have ht : a.tmps.getD t undef = a.tmps.getD s undef := ht
      refine ⟨f, cs, by show a.tmps.getD t undef = _; rw [ht, hev], hok, ?_⟩
      rw [hmap]
      refine (hcall w ⟨Nat.le_refl _, fun _ _ _ _ => rfl⟩ hrow).mono ?_
      rintro e' w' ⟨rfl, hfr, hrow', hlen⟩
      refine ⟨_, rfl, G, ?_⟩
      have hadv : Adv G w G w' (fun l => l = (s, 0)) := by
        refine ⟨hfr.size, fun k o hk ho' => ?_, fun k loc hk ho' hE => ?_⟩
        · have hkb : k ≠ b := fun e => by subst e; rw [hc] at ho'; omega
          exact ⟨World.cell?_of_block (w := w) (a := ⟨k, o, none⟩) (hfr.block k hk hkb), ho'⟩
        · have hkb : k ≠ b := fun e => by subst e; rw [ho] at ho'; cases ho'; exact hE rfl
          exact ⟨ho', rfl, hfr.block k hk hkb⟩
      refine h.upd hadv (S' := fun k => k = b) hfr (fun k hk e => ?_) (fun _ _ _ => ⟨rfl, rfl⟩) (fun d' e => by cases e; exact ⟨hd, by simp⟩) (fun t i e => by cases e; simp) (fun p hp hlt => ?_) (fun p hp q hq => ?_)
      · subst e
        apply Classical.byContradiction
        intro hS
        have := (h.old k hk hS).2
        rw [ho] at this; cases this
      · simp only [List.mem_cons, List.not_mem_nil, or_false] at hp
        rcases hp with rfl | rfl
        · rw [put_getD, if_neg (fun e => hsd e.1), hev]
          exact ⟨f, cs, u, b, rfl, hp, by rw [hlen]; exact htab.adv hadv, by rw [hlen]; exact Clo.adv hclo hadv, ho, hc, hrow'⟩
        · rw [put_getD, if_pos ⟨rfl, hlt⟩]
          exact ⟨#[], rfl, rfl, fun i r hi => by simp at hi⟩
      · simp only [List.mem_cons, List.not_mem_nil, or_false] at hp
        rcases hp with rfl | rfl <;> cases hq
end
end Go.Proofs.Ytbgfgadekmemeaa.Ev
