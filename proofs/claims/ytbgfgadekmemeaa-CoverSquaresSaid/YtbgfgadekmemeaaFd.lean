/- The evaluator is sound, the single operation, second part: copies, arithmetic, comparisons, and what reads a slot alone. Conditions: a table of types that is so, contracts that are met. -/
import Derived.Test.YtbgfgadekmemeaaFc
namespace Go.Proofs.Ytbgfgadekmemeaa.Ev
open Go.RowKit
set_option linter.unusedVariables false
set_option linter.unusedSimpArgs false
set_option linter.unusedSectionVars false

/-- What slot s owns, slot d owns. -/
def Gh.move (G : Gh) (s d : Nat) : Gh := ⟨fun b => (G.own b).map fun l => if l.1 = s then (d, l.2) else l, G.com⟩
def cellsIn' (w : World) (b : Nat) : Nat := match w.heap[b]? with
  | some (.cells cs _ _) => cs.size
  | _ => 0
/-- What F owns is fixed for good. -/
def Gh.freeze (G : Gh) (w : World) (F : Nat × Nat → Bool) : Gh :=
  ⟨fun b => match G.own b with
    | some l => if F l then none else some l
    | none => none,
   fun b => match G.own b with
    | some l => if F l then max (G.com b) (cellsIn' w b) else G.com b
    | none => G.com b⟩
/-- A new block, owned. -/
def Gh.born (G : Gh) (n : Nat) (l : Option (Nat × Nat)) (k : Nat) : Gh := ⟨fun b => if b = n then l else G.own b, fun b => if b = n then k else G.com b⟩

theorem Adv.move (G : Gh) (w : World) (s d : Nat) : Adv G w (G.move s d) w (fun l => l.1 = s) :=
  ⟨Nat.le_refl _, fun b o _ ho => ⟨rfl, ho⟩, fun b loc _ ho hE => ⟨by simp only [Gh.move, ho, Option.map_some, if_neg hE], rfl, rfl⟩⟩

theorem Adv.freeze (G : Gh) (w : World) (F : Nat × Nat → Bool) : Adv G w (G.freeze w F) w (fun l => F l = true) := by
  refine ⟨Nat.le_refl _, fun b o _ ho => ⟨rfl, ?_⟩, fun b loc _ ho hE => ?_⟩
  · simp only [Gh.freeze]
    split
    · split
      · omega
      · exact ho
    · exact ho
  · have hE' : F loc = false := by simpa using hE
    simp only [Gh.freeze, ho, hE', Bool.false_eq_true, if_false, and_self]

theorem heap_alloc_lt (w : World) (o : Obj) (k : Nat) (h : k < w.heap.size) : (w.alloc o).heap[k]? = w.heap[k]? := Below.heap_alloc w o k h
theorem heap_alloc_at (w : World) (o : Obj) : (w.alloc o).heap[w.heap.size]? = some o := by
  show (w.heap.push o)[w.heap.size]? = _
  simp

theorem Adv.born (G : Gh) (w : World) (o : Obj) (l : Option (Nat × Nat)) (n : Nat) : Adv G w (G.born w.heap.size l n) (w.alloc o) (fun _ => False) := by
  refine ⟨?_, fun b i hb ho => ⟨?_, ?_⟩, fun b loc hb ho _ => ?_⟩
  · show _ ≤ (w.heap.push o).size; simp
  · exact World.cell?_of_block (w := w) (a := ⟨b, i, none⟩) (heap_alloc_lt w o b hb)
  · simp only [Gh.born, if_neg (Nat.ne_of_lt hb)]; exact ho
  · simp only [Gh.born, if_neg (Nat.ne_of_lt hb)]; exact ⟨ho, trivial, heap_alloc_lt w o b hb⟩

theorem Fr.alloc (S : Nat → Prop) (w : World) (o : Obj) : Fr S w (w.alloc o) :=
  ⟨rfl, rfl, rfl, by show _ ≤ (w.heap.push o).size; simp, fun k hk _ => heap_alloc_lt w o k hk⟩

section
variable {P : Program} {S : Nat → Prop} {w0 w w' : World} {c0 : C0} {X : List Nat} {G G' : Gh} {st : St} {a : Act} {E : Nat × Nat → Prop}
variable {c : Ctx} {g : Nat → AV}

theorem Owned.move {s d k : Nat} {e : TypeId} {x : Arr} {v : Value} (h : Owned G w (s, k) e x v) : Owned (G.move s d) w (d, k) e x v := by
  obtain ⟨vs, hs, ho, hb⟩ := h
  exact ⟨vs, hs.adv (Adv.move G w s d), ho, fun b hv => ⟨by simp only [Gh.move, (hb b hv).1, Option.map_some, if_pos], (hb b hv).2⟩⟩

theorem RelSc.move {s d k : Nat} {x : Sc} {v : Value} (h : RelSc P G w (s, k) x v) : RelSc P (G.move s d) w (d, k) x v := by
  cases x with
  | sl o y =>
    obtain ⟨A, cap, e, hc, hh, ho⟩ := h
    exact ⟨A, cap, e, hc, hh.adv (Adv.move G w s d), fun e' he => (ho e' he).move⟩
  | fn F => exact RelSc.adv (loc := (d, k)) h (Adv.move G w s d) (.inl rfl)
  | _ => exact h

theorem RelRV.move {s d : Nat} {r : RV} {v : Value} (h : RelRV P G w s r v) : RelRV P (G.move s d) w d r v := by
  cases r with
  | sc x => exact RelSc.move h
  | agg l => obtain ⟨cs, e, hs, hc⟩ := h; exact ⟨cs, e, hs, fun i x hi => let ⟨u, hu, r⟩ := hc i x hi; ⟨u, hu, r.move⟩⟩

theorem old_move (h : Rel P S w0 c0 X G st a w) (s d : Nat) : ∀ b, b < w0.heap.size → ¬ S b → (G.move s d).com b = G.com b ∧ (G.move s d).own b = G.own b := by
  intro b hb hs
  have := (h.old b hb hs).2
  exact ⟨rfl, by simp [Gh.move, this]⟩
theorem old_freeze (h : Rel P S w0 c0 X G st a w) (F : Nat × Nat → Bool) : ∀ b, b < w0.heap.size → ¬ S b → (G.freeze w F).com b = G.com b ∧ (G.freeze w F).own b = G.own b := by
  intro b hb hs
  have := (h.old b hb hs).2
  simp [Gh.freeze, this]
theorem old_born (h : Rel P S w0 c0 X G st a w) (l : Option (Nat × Nat)) (n : Nat) : ∀ b, b < w0.heap.size → ¬ S b → (G.born w.heap.size l n).com b = G.com b ∧ (G.born w.heap.size l n).own b = G.own b := by
  intro b hb _
  have : b ≠ w.heap.size := Nat.ne_of_lt (Nat.lt_of_lt_of_le hb h.fr.size)
  simp [Gh.born, this]

theorem isOwn_ro (r : RV) : r.ro.isOwn = false := by
  cases r with
  | sc s => cases s <;> rfl
  | agg l =>
    simp only [RV.ro, RV.isOwn, List.any_map, List.any_eq_false, Function.comp]
    intro s _
    cases s <;> simp [Sc.ro, Sc.isOwn]

theorem eval_tmp (s : Nat) : a.eval (.tmp s) = a.tmps.getD s undef := rfl

/-- A slot that is copied to another. -/
theorem Rel.handOver (h : Rel P S w0 c0 X G st a w) {s d : Nat} {x y : AV} {v : Value} (hd : d ∉ X) (hsd : s ≠ d)
    (hx : ∀ s, ¬ x.on = some s) (hy : ∀ s, ¬ y.on = some s)
    (h1 : RelA P (G.move s d) w a s x (a.tmps.getD s undef)) (h2 : RelA P (G.move s d) w a d y v) :
    Rel P S w0 c0 X (G.move s d) (puts st [(s, x), (d, y)]) (a.put (some d) v) w := by
  refine h.upd (Adv.move G w s d) (Fr.refl (fun _ => False) w) (fun _ _ e => e.elim) (old_move h s d) (fun d' e => by cases e; exact ⟨hd, by simp⟩)
    (fun t i e => by have e' : t = s := e; simp [e']) (fun p hp hlt => ?_) (fun p hp q hq => ?_)
  · simp only [List.mem_cons, List.not_mem_nil, or_false] at hp
    rcases hp with rfl | rfl
    · rw [put_getD, if_neg (fun e => hsd e.1)]
      exact h1.adv (Adv.refl _ _) (fun _ e => e) (fun q hq => absurd hq (hx q))
    · rw [put_getD, if_pos ⟨rfl, hlt⟩]
      exact h2.adv (Adv.refl _ _) (fun _ e => e) (fun q hq => absurd hq (hy q))
  · simp only [List.mem_cons, List.not_mem_nil, or_false] at hp
    rcases hp with rfl | rfl
    · exact absurd hq (hx q)
    · exact absurd hq (hy q)

theorem adds (b j : Nat) : (⟨b, 0, none⟩ : Addr).add j = ⟨b, j, none⟩ := by unfold Addr.add; split <;> simp_all

theorem cell_row {w : World} {b j : Nat} {cs : Array Value} {e : TypeId} {fz : Nat × Nat} (h : w.heap[b]? = some (.cells cs e fz)) : w.cell? ⟨b, j, none⟩ = cs[j]? := by
  simp [World.cell?, h]

theorem ms_frozen {s : Nat} {xs : List Int} {v : Value} (h : RelA P G w a s (.ms xs) v) (t : Nat) : RelRV P (G.freeze w (fun l => l.1 == s)) w t (.sc (.sl none (.ints xs))) v := by
  obtain ⟨b, ty, rfl, ho, hc, hb⟩ := h
  refine ⟨some ⟨b, 0, none⟩, xs.length, rfl, Nat.le_refl _, ⟨xs.map (.int .i64), rfl, fun j v hj => ⟨_, rfl, ?_⟩⟩, fun e he => by cases he⟩
  rw [adds]
  have hlt : j < xs.length := by
    have := (List.getElem?_eq_some_iff.1 hj).1
    simpa using this
  refine ⟨?_, ?_⟩
  · rw [cell_row hb]; simpa using hj
  · simp only [Gh.freeze, ho, beq_self_eq_true, if_true, cellsIn', hb]
    simp only [List.size_toArray, List.length_map]
    omega

theorem copy_sound (hg : Sees st g) (h : Rel P S w0 c0 c.X G st a w) {take : Bool} {ty : TK} {d : Nat} {x : Operand} {ws : List (Nat × AV)}
    (e : copy c g take ty d x some = some ws) (hd : d ∉ c.X) : ∃ G', Rel P S w0 c0 c.X G' (puts st ws) (a.put (some d) (a.eval x)) w := by
  unfold copy at e
  split at e
  · rename_i s
    split at e
    · cases e
    · rename_i hsd
      have hr := hg.rel h s
      split at e
      · rename_i r hgs
        rw [hgs] at hr
        cases hb : take && r.isOwn with
        | true =>
          simp only [hb, cond_true, Option.some.injEq] at e
          subst e
          exact ⟨_, h.handOver (s := s) hd hsd (by rintro q e; cases e) (by rintro q e; cases e)
            (RelRV.roAdv (RelRV.ro (t' := s) hr) (RV.ro_ro r) (Adv.move G w s d)) (RelRV.move hr)⟩
        | false =>
          simp only [hb, cond_false, Option.some.injEq] at e
          subst e
          exact ⟨G, h.pure hd (by rintro q e; cases e) (RelRV.ro (t' := d) hr)⟩
      · rename_i l hgs
        rw [hgs] at hr
        cases e
        refine ⟨G, h.pure hd (by rintro q e; cases e) ?_⟩
        obtain ⟨vs, e, hs, hl⟩ := hr
        exact ⟨vs, e, hs, fun i r hi => let ⟨hro, u, hu, hh⟩ := hl i r hi; ⟨hro, u, hu, hh.roAdv hro (Adv.refl G w)⟩⟩
      · rename_i xs hgs
        rw [hgs] at hr
        cases hf : c.fz.contains d with
        | true =>
          simp only [hf, cond_true, Option.some.injEq] at e
          subst e
          refine ⟨G.freeze w (fun l => l.1 == s), h.upd (Adv.freeze G w _) (Fr.refl (fun _ => False) w) (fun _ _ e => e.elim) (old_freeze h _) (fun d' e => by cases e; exact ⟨hd, by simp⟩)
            (fun t i e => by have e' : t = s := by simpa using e
                             simp [e']) (fun p hp hlt => ?_) (fun p hp q hq => ?_)⟩
          · simp only [List.mem_cons, List.not_mem_nil, or_false] at hp
            rcases hp with rfl | rfl
            · rw [put_getD, if_neg (fun e => hsd e.1)]
              exact ms_frozen hr s
            · rw [put_getD, if_pos ⟨rfl, hlt⟩]
              exact ms_frozen hr d
          · simp only [List.mem_cons, List.not_mem_nil, or_false] at hp
            rcases hp with rfl | rfl <;> cases hq
        | false =>
          simp only [hf, cond_false] at e
          cases hm : take && c.made.contains d with
          | true =>
            simp only [hm, cond_true, Option.some.injEq] at e
            subst e
            refine ⟨_, h.handOver (s := s) hd hsd (by rintro q e; cases e) (by rintro q e; cases e) trivial ?_⟩
            obtain ⟨b, ty, hv, ho, hc, hb⟩ := hr
            exact ⟨b, ty, hv, by simp [Gh.move, ho], hc, hb⟩
          | false =>
            simp only [hm, cond_false] at e
            cases hX : c.X.contains s with
            | false => simp only [hX, cond_false] at e; cases e
            | true =>
              simp only [hX, cond_true, Option.some.injEq] at e
              subst e
              refine ⟨G, h.pure hd (fun q hq => ?_) ?_⟩
              · cases hq; exact ⟨by simpa using hX, fun e => nomatch e⟩
              · show a.tmps.getD s undef = _
                rw [put_getD, if_neg (fun e => hsd e.1)]
      · rename_i hgs
        cases hX : c.X.contains s with
        | false => simp only [hX, cond_false] at e; cases e
        | true =>
          simp only [hX, cond_true, Option.some.injEq] at e
          subst e
          refine ⟨G, h.pure hd (fun q hq => ?_) ?_⟩
          · cases hq; exact ⟨by simpa using hX, fun e => nomatch e⟩
          · show a.tmps.getD s undef = _
            rw [put_getD, if_neg (fun e => hsd e.1)]
      · cases e
  · split at e
    · rename_i v s hs
      cases e
      exact ⟨G, h.pure hd (by rintro q e; cases e) (constSc_sound hs G w (d, 0))⟩
    · cases e
  · cases e

end
end Go.Proofs.Ytbgfgadekmemeaa.Ev
