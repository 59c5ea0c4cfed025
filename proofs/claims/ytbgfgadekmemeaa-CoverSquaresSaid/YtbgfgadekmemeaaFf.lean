/- The evaluator is sound, the single operation, fourth part: new boxes, structs and slices built, loads and stores. Conditions: a table of types that is so. -/
import Derived.Test.YtbgfgadekmemeaaFe
namespace Go.Proofs.Ytbgfgadekmemeaa.Ev
open Go.RowKit
set_option linter.unusedVariables false
set_option linter.unusedSimpArgs false
set_option linter.unusedSectionVars false

section
variable {P : Program} {S : Nat → Prop} {w0 w w' : World} {c0 : C0} {X : List Nat} {G G' : Gh} {st : St} {a : Act} {E : Nat × Nat → Prop}
variable {c : Ctx} {g : Nat → AV}

theorem RelSc.one {loc : Nat × Nat} {s : Sc} {v : Value} (h : RelSc P G w loc s v) : v.oneCell' = true ∧ v.cells = #[v] := by
  cases s with
  | int k n => cases h; exact ⟨rfl, rfl⟩
  | bool b => cases h; exact ⟨rfl, rfl⟩
  | nil => cases h; exact ⟨rfl, rfl⟩
  | sl o x => obtain ⟨A, cap, rfl, _⟩ := h; exact ⟨rfl, rfl⟩
  | fn F => obtain ⟨f, cs, rfl, _⟩ := h; exact ⟨rfl, rfl⟩
  | fnc f => cases h; exact ⟨rfl, rfl⟩
  | nofn => cases h; exact ⟨rfl, rfl⟩
  | ln n => obtain ⟨A, cap, rfl⟩ := h; exact ⟨rfl, rfl⟩

theorem relEmpty (G : Gh) (w : World) (loc : Nat × Nat) (e : TypeId) (ek : EK) : RelSc P G w loc (.sl (some e) ek.empty) (.slice none 0 0) := by
  have := constSc_sound (P := P) (ty := .sl e ek) (v := .slice none 0 0) (s := .sl (some e) ek.empty) rfl G w loc
  exact this

/-- A new box. -/
theorem Rel.newBox (h : Rel P S w0 c0 X G st a w) {d : Nat} (hd : d ∉ X) {ty : TypeId} {l : List Sc} {cs : Array Value}
    (hr : ∀ i, (Adv G w (G.born w.heap.size (some (d, 0)) 0) (w.alloc (.cells cs ty)) (fun _ => False)) → RelCells P (G.born w.heap.size (some (d, 0)) 0) (w.alloc (.cells cs ty)) i l cs) :
    Rel P S w0 c0 X (G.born w.heap.size (some (d, 0)) 0) (puts st [(d, .box ty l)]) (a.put (some d) (.pointer (some ⟨w.heap.size, 0, none⟩))) (w.alloc (.cells cs ty)) := by
  refine h.upd (Adv.born G w _ _ 0) (Fr.alloc (fun _ => False) w _) (fun _ _ e => e.elim) (old_born h _ _) (fun d' e => by cases e; exact ⟨hd, by simp⟩) (fun _ _ e => e.elim)
    (fun p hp hlt => ?_) (fun p hp q hq => ?_)
  · simp only [List.mem_singleton] at hp
    subst hp
    rw [put_getD, if_pos ⟨rfl, hlt⟩]
    exact ⟨w.heap.size, cs, rfl, by simp [Gh.born], by simp [Gh.born], heap_alloc_at w _, hr d (Adv.born G w _ _ 0)⟩
  · simp only [List.mem_singleton] at hp
    subst hp
    cases hq

theorem alloc_sound (h : Rel P S w0 c0 X G st a w) (hT : ∀ t, TyOk P t (c.T t)) {t : TypeId} {d : Nat} {ws : List (Nat × AV)} (hd : d ∉ X) (e : (match c.T t with
    | .st zs => some [(d, AV.box t zs)]
    | .int k => some [(d, .box t [.int k 0])]
    | .bool => some [(d, .box t [.bool false])]
    | .sl e ek => some [(d, .box t [.sl (some e) ek.empty])]
    | .fn => some [(d, .box t [.nofn])]
    | _ => none) = some ws) :
    ∃ v w' G', (Instr.alloc t true (.tuple #[])).run P w = .ok v w' ∧ Rel P S w0 c0 X G' (puts st ws) (a.put (some d) v) w' := by
  have ht := hT t
  have run1 : ∀ {i : TypeInfo} {z : Value}, P.info? t = some i → i.zero = some z → (Instr.alloc t true (.tuple #[])).run P w = .ok (.pointer (some ⟨w.heap.size, 0, none⟩)) (w.alloc (.cells z.cells t)) := by
    intro i z hi hz
    simp [Instr.alloc, zeroValue, typeInfo, hi, hz, newVar, newRow]
  have one : ∀ {i : TypeInfo} {z : Value} {s : Sc}, P.info? t = some i → i.zero = some z → (∀ G w loc, RelSc P G w loc s z) → ws = [(d, .box t [s])] →
      ∃ v w' G', (Instr.alloc t true (.tuple #[])).run P w = .ok v w' ∧ Rel P S w0 c0 X G' (puts st ws) (a.put (some d) v) w' := by
    intro i z s hi hz hs hw
    have hcz : z.cells = #[z] := (hs G w (0, 0)).one.2
    refine ⟨_, _, G.born w.heap.size (some (d, 0)) 0, run1 hi hz, ?_⟩
    rw [hcz, hw]
    refine h.newBox hd fun n _ => ⟨rfl, fun j s' hj => ?_⟩
    cases j with
    | zero => simp at hj; subst hj; exact ⟨z, rfl, hs _ _ _⟩
    | succ j => simp at hj
  split at e
  · rename_i zs hts
    rw [hts] at ht
    cases e
    obtain ⟨fs, i, zc, hu, hi, hz, hsz, hfs, hst, hg, hzc, hf⟩ := ht
    exact ⟨_, _, _, run1 hi hz, h.newBox hd fun n _ => hzc _ _ _⟩
  · rename_i k hts
    rw [hts] at ht
    obtain ⟨_, i, hi, hz, _⟩ := ht
    exact one (s := .int k 0) hi hz (fun _ _ _ => rfl) (by cases e; rfl)
  · rename_i hts
    rw [hts] at ht
    obtain ⟨_, i, hi, hz, _⟩ := ht
    exact one (s := .bool false) hi hz (fun _ _ _ => rfl) (by cases e; rfl)
  · rename_i e' ek hts
    rw [hts] at ht
    obtain ⟨_, ⟨i, hi, hz, _⟩, _⟩ := ht
    exact one hi hz (fun G w loc => relEmpty G w loc e' ek) (by cases e; rfl)
  · rename_i hts
    rw [hts] at ht
    obtain ⟨_, _, _, _, i, hi, _, hz⟩ := ht
    exact one (s := .nofn) hi hz (fun _ _ _ => rfl) (by cases e; rfl)
  · cases e

theorem box_run (t : TypeId) (v : Value) : (Instr.box t v).run P w = .ok (.pointer (some ⟨w.heap.size, 0, none⟩)) (w.alloc (.cells v.cells t)) := by
  simp [Instr.box, newVar, newRow]

/-- A new cell that nobody writes again. -/
theorem Rel.newFixed (h : Rel P S w0 c0 X G st a w) {d : Nat} (hd : d ∉ X) {ty : TypeId} {v : Value} {x : AV} (hx : ∀ s, x.on = some s → s ∈ X ∧ (x.pinned = true → s ∈ c0.fx))
    (hr : Adv G w (G.born w.heap.size none 1) (w.alloc (.cells #[v] ty)) (fun _ => False) → RelA P (G.born w.heap.size none 1) (w.alloc (.cells #[v] ty)) (a.put (some d) (.pointer (some ⟨w.heap.size, 0, none⟩))) d x (.pointer (some ⟨w.heap.size, 0, none⟩))) :
    Rel P S w0 c0 X (G.born w.heap.size none 1) (puts st [(d, x)]) (a.put (some d) (.pointer (some ⟨w.heap.size, 0, none⟩))) (w.alloc (.cells #[v] ty)) := by
  refine h.upd (Adv.born G w _ _ 1) (Fr.alloc (fun _ => False) w _) (fun _ _ e => e.elim) (old_born h _ _) (fun d' e => by cases e; exact ⟨hd, by simp⟩) (fun _ _ e => e.elim)
    (fun p hp hlt => ?_) (fun p hp q hq => ?_)
  · simp only [List.mem_singleton] at hp
    subst hp
    rw [put_getD, if_pos ⟨rfl, hlt⟩]
    exact hr (Adv.born G w _ _ 1)
  · simp only [List.mem_singleton] at hp
    subst hp
    exact hx q hq
theorem newFixed_cm (G : Gh) (w : World) (v : Value) (ty : TypeId) : Cm (G.born w.heap.size none 1) (w.alloc (.cells #[v] ty)) ⟨w.heap.size, 0, none⟩ v :=
  ⟨by rw [cell_row (heap_alloc_at w _)]; rfl, by simp [Gh.born]⟩

theorem box_sound (hfx : c0.fx = c.fx) (hg : Sees st g) (h : Rel P S w0 c0 X G st a w) {t : TypeId} {d : Nat} {x : Operand} {ws : List (Nat × AV)} (hd : d ∉ X)
    (e : (match opr g (c.T t) x, c.T t with
    | some (.agg l), .st zs => if l.length = zs.length then some [(d, AV.box t l)] else none
    | some (.agg _), _ => none
    | some (.sc s), .st _ => none
    | some (.sc s), _ => bif c.fz.contains d then some [(d, .cbox t [s])] else some [(d, .box t [s])]
    | none, .sl _ .int => boxT c g d x some
    | none, _ => none) = some ws) :
    ∃ v w' G', (Instr.box t (a.eval x)).run P w = .ok v w' ∧ Rel P S w0 c0 X G' (puts st ws) (a.put (some d) v) w' := by
  split at e
  · rename_i l zs ho hts
    split at e
    · cases e
      obtain ⟨hro, hr⟩ := opr_sound hg h ho
      refine ⟨_, _, G.born w.heap.size (some (d, 0)) 0, box_run t _, ?_⟩
      obtain ⟨cs, he, hc⟩ := hr 0
      rw [he]
      refine h.newBox hd fun i k => ?_
      have := RelRV.roAdv (t' := i) (hr 0) hro k
      obtain ⟨cs', he', hc'⟩ := this
      rw [he] at he'
      cases he'
      exact hc'
    · cases e
  · cases e
  · cases e
  · rename_i s ho h5
    obtain ⟨hro, hr⟩ := opr_sound hg h ho
    have hr0 : RelSc P G w (0, 0) s (a.eval x) := hr 0
    have hs : s.ro = s := by simpa [RV.ro] using hro
    have hroc : ∀ {G' : Gh} {w' : World} {E : Nat × Nat → Prop} (i : Nat), Adv G w G' w' E → RelSc P G' w' (i, 0 + 1) s (a.eval x) := fun i k => by
      have h1 := RelSc.ro (loc' := (i, 0 + 1)) hr0
      rw [hs] at h1
      exact h1.adv k (.inl hs)
    cases hz : c.fz.contains d with
    | true =>
      rw [hz] at e
      cases e
      refine ⟨_, _, G.born w.heap.size none 1, box_run t _, ?_⟩
      rw [hr0.one.2]
      refine h.newFixed hd (fun q hq => nomatch hq) fun k => ⟨_, rfl, fun j s' hj => ?_⟩
      cases j with
      | zero =>
        simp at hj; subst hj
        exact ⟨hs, _, newFixed_cm G w _ t, hroc d k⟩
      | succ j => simp at hj
    | false =>
      rw [hz] at e
      cases e
      refine ⟨_, _, G.born w.heap.size (some (d, 0)) 0, box_run t _, ?_⟩
      rw [hr0.one.2]
      refine h.newBox hd fun i k => ⟨rfl, fun j s' hj => ?_⟩
      cases j with
      | zero =>
        simp at hj; subst hj
        exact ⟨_, rfl, hroc i k⟩
      | succ j => simp at hj
  · rename_i e1 ho hts
    clear ho hts
    unfold boxT at e
    split at e
    · rename_i s
      split at e
      · rename_i xs hgs
        cases hb : c.fx.contains s && s != d with
        | false => rw [hb] at e; cases e
        | true =>
          rw [hb] at e
          cases e
          simp only [Bool.and_eq_true, bne_iff_ne, ne_eq] at hb
          have hsf : s ∈ c0.fx := by rw [hfx]; simpa using hb.1
          have hr := hg.rel h s
          rw [hgs] at hr
          obtain ⟨b, ty, hv, _⟩ := hr
          have hev : a.eval (.tmp s) = .slice (some ⟨b, 0, none⟩) xs.length xs.length := hv
          refine ⟨_, _, G.born w.heap.size none 1, box_run t _, ?_⟩
          have hc1 : (a.eval (.tmp s)).cells = #[a.eval (.tmp s)] := by rw [hev]; rfl
          rw [hc1]
          refine h.newFixed hd (fun q hq => by cases hq; exact ⟨h.fixX _ hsf, fun _ => hsf⟩) fun k => ?_
          show RelAl P _ _ ((a.put (some d) _).tmps.getD s undef) .cell _
          rw [put_getD, if_neg (fun e => hb.2 e.1)]
          exact ⟨_, rfl, newFixed_cm G w _ t⟩
      · cases e
    · cases e
  · cases e

/-! ### Structs built -/
theorem places_run {fs : List Field} (hf : ∀ f ∈ fs, ∃ fi, P.info? f.type = some fi ∧ fi.size = 1) (w : World) :
    (fs.mapM (fun f => do pure (f.offset, ← sizeOf f.type) : Field → Sem (Nat × Nat))).run P w = .ok (fs.map fun f => (f.offset, 1)) w := by
  induction fs with
  | nil => simp
  | cons f fs ih =>
    obtain ⟨fi, h1, h2⟩ := hf f (by simp)
    have := ih (fun f hf' => hf f (by simp [hf']))
    have hs : (sizeOf f.type).run P w = .ok 1 w := by simp [sizeOf, typeInfo, h1, h2]
    rw [List.mapM_cons]
    simp only [Sem.run_bind, Sem.run_pure, hs, Result.andThen_ok, this, List.map_cons]

theorem fill_parts (t : Nat) {place : Nat → Option (Nat × Nat)} {n : Nat} (hp : ∀ i, i < n → place i = some (i, 1)) (hg : Sees st g) (h : Rel P S w0 c0 X G st a w) :
    ∀ (ps : List (Nat × Operand)) (l m : List Sc) (cs : Array Value), l.length = n → RelCells P G w t l cs → setParts g l ps = some m →
      ∃ cs', Instr.fill place cs (ps.map fun p => (p.1, a.eval p.2)) = some cs' ∧ RelCells P G w t m cs' := by
  intro ps
  induction ps with
  | nil => intro l m cs hl hr e; simp [setParts] at e; subst e; exact ⟨cs, rfl, hr⟩
  | cons p ps ih =>
    intro l m cs hl hr e
    obtain ⟨i, x⟩ := p
    simp only [setParts] at e
    split at e
    · rename_i s ho
      split at e
      · rename_i hi
        obtain ⟨hro, hs⟩ := opr_sound hg h ho
        have hs0 : RelSc P G w (0, 0) s (a.eval x) := hs 0
        have hsr : s.ro = s := by simpa [RV.ro] using hro
        have hcell := hs0.one.2
        have hsz : cs.size = l.length := by simpa using hr.1
        have hr' : RelCells P G w t (l.set i s) (cs.setIfInBounds i (a.eval x)) := by
          refine ⟨by simp [hsz], fun j s' hj => ?_⟩
          rw [List.getElem?_set] at hj
          by_cases hij : i = j
          · subst hij
            rw [if_pos rfl, if_pos hi] at hj
            simp at hj
            subst hj
            refine ⟨a.eval x, by rw [Array.getElem?_setIfInBounds]; simp [hsz, hi], ?_⟩
            have := RelSc.ro (loc' := (t, i + 1)) hs0
            rw [hsr] at this
            exact this
          · rw [if_neg hij] at hj
            obtain ⟨v, hv, hh⟩ := hr.2 j s' hj
            exact ⟨v, by rw [Array.getElem?_setIfInBounds_ne hij]; exact hv, hh⟩
        obtain ⟨cs', hf, hc'⟩ := ih (l.set i s) m _ (by simp [hl]) hr' e
        refine ⟨cs', ?_, hc'⟩
        simp only [List.map_cons, Instr.fill, hp i (hl ▸ hi), hcell]
        have h1 : ¬ (#[a.eval x].size ≠ 1 ∨ cs.size < i + 1) := by simp [hsz]; omega
        simp only [List.size_toArray, List.length_cons, List.length_nil, Nat.zero_add, ne_eq, not_true_eq_false, decide_false, Bool.false_or, gt_iff_lt, decide_eq_true_eq, show ¬ cs.size < i + 1 by omega, if_false]
        simpa [Array.zipIdx] using hf
      · cases e
    · cases e

theorem build_sound (hg : Sees st g) (h : Rel P S w0 c0 X G st a w) (hT : ∀ t, TyOk P t (c.T t)) {t : TypeId} {ps : Array (Nat × Operand)} {zs l : List Sc} (hts : c.T t = .st zs) (e : setParts g zs ps.toList = some l) :
    ∃ v, (Instr.build t (ps.map fun (i, x) => (i, a.eval x))).run P w = .ok v w ∧ ∀ i, RelRV P G w i (.agg l) v := by
  have ht := hT t
  rw [hts] at ht
  obtain ⟨fs, i, zc, hu, hi, hz, hsz, hfs, hst, hgd, hzc, hf⟩ := ht
  have hpl := places_run (P := P) (fs := fs.toList) (fun f hf' => by
    obtain ⟨j, hj⟩ := List.getElem?_of_mem hf'
    exact (hf j f (by simpa using hj)).2.2.1) w
  have hplace : ∀ i, i < zs.length → ((fs.toList.map fun f => (f.offset, 1)).toArray[i]? : Option (Nat × Nat)) = some (i, 1) := by
    intro i hi
    have hlt : i < fs.size := by omega
    have := (hf i fs[i] (by simp)).1
    simp [hlt, this]
  obtain ⟨cs', hfill, hc'⟩ := fill_parts 0 (place := fun i => ((fs.toList.map fun f => (f.offset, 1)).toArray[i]? : Option (Nat × Nat))) hplace hg h ps.toList zs l zc rfl (hzc G w 0) e
  refine ⟨.agg cs', ?_, fun i => ⟨cs', rfl, ?_⟩⟩
  · have hmap : (ps.map fun (i, x) => (i, a.eval x)).toList = ps.toList.map fun p => (p.1, a.eval p.2) := by simp
    simp only [Instr.build, zeroValue, typeInfo, Sem.run_bind, run_program, hi, hz, Result.andThen_ok, Sem.run_pure, run_underlying hu, Value.cells]
    rw [← Array.toArray_toList (xs := fs), List.mapM_toArray]
    simp only [Sem.run_bind, Sem.run_map, hpl, Result.andThen_ok, hmap, hfill, Sem.run_pure]
  · obtain ⟨cs2, hfill2, hc2⟩ := fill_parts i (place := fun i => ((fs.toList.map fun f => (f.offset, 1)).toArray[i]? : Option (Nat × Nat))) hplace hg h ps.toList zs l zc rfl (hzc G w i) e
    rw [hfill] at hfill2
    cases hfill2
    exact hc2
end
end Go.Proofs.Ytbgfgadekmemeaa.Ev
