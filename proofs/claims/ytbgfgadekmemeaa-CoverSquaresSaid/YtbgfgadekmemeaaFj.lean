/- The evaluator is sound, the single operation, eighth part: stores, addresses, cuts, makes and appends. Conditions: a table of types that is so. -/
import Derived.Test.YtbgfgadekmemeaaFi
namespace Go.Proofs.Ytbgfgadekmemeaa.Ev
open Go.RowKit
set_option linter.unusedVariables false
set_option linter.unusedSimpArgs false
set_option linter.unusedSectionVars false

section
variable {P : Program} {S : Nat → Prop} {w0 w w' : World} {c0 : C0} {X : List Nat} {G G' : Gh} {st : St} {a : Act} {E : Nat × Nat → Prop}
variable {c : Ctx} {g : Nat → AV}

theorem put_none (v : Value) : a.put none v = a := rfl

theorem store_run {t : TypeId} {n : Nat} (hs : (sizeOf t).run P w = .ok n w) {b off : Nat} {cs : Array Value} {ty : TypeId} (hb : w.heap[b]? = some (.cells cs ty (0, 0))) {v : Value} (hv : v.cells.size = n)
    (h1 : ∀ u ∈ v.cells.toList, u.oneCell' = true) (hfit : off + n ≤ cs.size) :
    (Instr.storeAt t (.pointer (some ⟨b, off, none⟩)) v).run P w = .ok () (w.setRow b (cs.toList.take off ++ v.cells.toList ++ cs.toList.drop (off + n)).toArray) := by
  have hst := run_storeCells_at P b off ty v.cells.toList 0 cs w hb (by simp [hv]; exact hfit) h1
  simp only [Nat.add_zero, Array.length_toList, hv] at hst
  simp only [Instr.storeAt, Instr.sureAddr, Sem.run_bind, Sem.run_pure, Result.andThen_ok, storeVar, hs, hv, ne_eq, not_true_eq_false, if_false]
  exact hst

/-- The state behind a store into the box of slot s. -/
theorem Rel.stored (h : Rel P S w0 c0 X G st a w) {ws : List (Nat × AV)} {G1 : Gh} {E1 : Nat × Nat → Prop} (k1 : Adv G w G1 w E1) {s b : Nat} {cs cs' : Array Value} {ty : TypeId} {m : List Sc}
    (hs0 : a.tmps.getD s undef = .pointer (some ⟨b, 0, none⟩)) (ho : G.own b = some (s, 0)) (ho1 : G1.own b = some (s, 0)) (hc : G1.com b = 0) (hb : w.heap[b]? = some (.cells cs ty (0, 0)))
    (hold : ∀ b, b < w0.heap.size → ¬ S b → G1.com b = G.com b ∧ G1.own b = G.own b) (hE1 : ∀ t i, E1 (t, i) → t ∈ ws.map (·.1)) (hsw : s ∈ ws.map (·.1))
    (hw : ∀ p ∈ ws, p = (s, .box ty m) ∨ (∃ r, p.2 = .rv r ∧ r.ro = r ∧ RelRV P G1 w p.1 r (a.tmps.getD p.1 undef)))
    (hm : cs'.size = m.length ∧ ∀ (i : Nat) (x : Sc), m[i]? = some x → ∃ v, cs'[i]? = some v ∧ RelSc P G1 w (s, i + 1) x v) :
    Rel P S w0 c0 X G1 (puts st ws) (a.put none undef) (w.setRow b cs') := by
  have k2 := Adv.setRow (w := w) ho1 hc cs'
  refine h.upd (dst := none) (S' := fun k => k = b) (k1.trans k2) (Fr.setRow w b cs') (fun b' hb' e => ?_) hold (fun d' e => by cases e) (fun t i e => ?_) (fun p hp hlt => ?_) (fun p hp q hq => ?_)
  · subst e
    apply Classical.byContradiction
    intro hS
    have := (h.old b' hb' hS).2
    rw [ho] at this; cases this
  · rcases e with e | e
    · exact hE1 t i e
    · cases e; exact hsw
  · rw [put_none]
    rcases hw p hp with rfl | ⟨r, hr, hro, hrr⟩
    · show RelA P G1 (w.setRow b cs') a s (.box ty m) (a.tmps.getD s undef)
      rw [hs0]
      refine ⟨b, cs', rfl, ho1, hc, setRow_heap w b cs cs' ty (0, 0) hb, hm.1, fun i x hi => ?_⟩
      obtain ⟨v, hv, hx⟩ := hm.2 i x hi
      exact ⟨v, hv, hx.adv k2 (.inr (by simp))⟩
    · rw [hr]
      exact RelRV.roAdv hrr hro k2
  · rcases hw p hp with rfl | ⟨r, hr, _⟩
    · cases hq
    · rw [hr] at hq; cases hq

theorem storeT_sound (hg : Sees st g) (h : Rel P S w0 c0 c.X G st a w) (hT : ∀ t, TyOk P t (c.T t)) {t : TypeId} {x y : Operand} {ws : List (Nat × AV)} (e : storeT c g t x y some = some ws) :
    ∃ w' G', (Instr.storeAt t (a.eval x) (a.eval y)).run P w = .ok () w' ∧ Rel P S w0 c0 c.X G' (puts st ws) (a.put none undef) w' := by
  have ht := hT t
  unfold storeT at e
  split at e
  case h_2 => cases e
  rename_i p
  have hp := hg.rel h p
  split at e
  case h_2 => cases e
  rename_i s m i v hts hgp hy
  rw [hts] at ht
  rw [hgp] at hp
  split at e
  case h_2 => cases e
  rename_i m' xs hgs
  split at e
  case isFalse => cases e
  rename_i hm
  cases hb : decide (i < xs.length) with
  | false => rw [hb] at e; cases e
  | true =>
    rw [hb] at e
    cases e
    subst hm
    have hi : i < xs.length := by simpa using hb
    obtain ⟨b, k, htab, hv⟩ := hp
    obtain ⟨q1, q2, q3, q4, q5⟩ := tmOf_spec (G := G) (w := w) hgs
    obtain ⟨b', hv', ho, hc, ⟨ty, hty, hrow⟩, hclo⟩ := (relA_tab q1).1 (hg.rel h s)
    have htab' := q3 _ _ hv'
    obtain ⟨rfl, _⟩ := TabOf.det htab htab'
    have hev : a.eval (.tmp p) = .pointer (some ⟨b, i, none⟩) := hv
    have hyv := opInt_sound hg h hy
    rw [hev, hyv]
    have hone := isAgg_one ht (fun zs e => nomatch e) (fun e => nomatch e) w
    have hrun := store_run (P := P) hone.2 (b := b) (off := i) hrow (v := .int .i64 v) rfl (fun z hz => by simp [Value.cells] at hz; subst hz; rfl) (by simp; omega)
    have hrow2 : ((xs.map (Value.int .i64)).toArray.toList.take i ++ (Value.int .i64 v).cells.toList ++ (xs.map (Value.int .i64)).toArray.toList.drop (i + 1)).toArray = ((xs.set i v).map (Value.int .i64)).toArray := by
      apply Array.ext'
      simp only [Value.cells]
      rw [List.map_set, List.set_eq_take_append_cons_drop]
      simp [hi]
    rw [hrow2] at hrun
    have k2 := Adv.setRow (w := w) ho hc ((xs.set i v).map (Value.int .i64)).toArray
    refine ⟨_, G, hrun, h.upd (dst := none) (S' := fun k => k = b) k2 (Fr.setRow w b _) (fun b' hb' e => ?_) (fun _ _ _ => ⟨rfl, rfl⟩) (fun d' e => by cases e) (fun t i e => by cases e; simp) (fun p hp hlt => ?_) (fun p hp q hq => ?_)⟩
    · subst e
      apply Classical.byContradiction
      intro hS
      have := (h.old b' hb' hS).2
      rw [ho] at this; cases this
    · obtain rfl := List.mem_singleton.mp hp
      rw [put_none]
      exact relA_wrote q1 (by simp) hv' hclo k2 ho hc ⟨ty, hty, setRow_heap w b _ _ ty (0, 0) hrow⟩
    · obtain rfl := List.mem_singleton.mp hp
      have : (setTab (xs.set i v) (g s)).on = none := by
        revert q4; cases g s <;> intro q4 <;> first | rfl | exact q4
      rw [this] at hq; cases hq

theorem store_sound (hg : Sees st g) (h : Rel P S w0 c0 c.X G st a w) (hT : ∀ t, TyOk P t (c.T t)) {t : TypeId} {x y : Operand} {ws : List (Nat × AV)}
    (e : (match place g x, y with
    | some (s, off, ty, l), .tmp u => match g u, c.T t with
      | .rv (.agg m), .st zs => if off = 0 then if m.length = l.length then if m.length = zs.length then some [(u, AV.rv (.agg (m.map Sc.ro))), (s, .box ty m)] else none else none else none
      | .rv (.sc v), .st _ => none
      | .rv (.sc v), .other => none
      | .rv (.sc v), _ => if off < l.length then some [(u, .rv (.sc v.ro)), (s, .box ty (l.set off v))] else none
      | .ms xs, .sl _ .int => if off = 0 then if l.length = 1 then if s != u then some [(u, .unk), (s, .tb xs)] else none else none else none
      | _, _ => none
    | some (s, off, ty, l), .const v => match constSc (c.T t) v, c.T t with
      | some v, .st _ => none
      | some v, .other => none
      | some v, _ => if off < l.length then some [(s, .box ty (l.set off v))] else none
      | none, _ => none
    | some (s, off, ty, l), .func f => match c.T t with
      | .fn => if off < l.length then some [(s, .box ty (l.set off (.fnc f)))] else none
      | _ => none
    | none, y => storeT c g t x y some
    | _, _ => none) = some ws) :
    ∃ w' G', (Instr.storeAt t (a.eval x) (a.eval y)).run P w = .ok () w' ∧ Rel P S w0 c0 c.X G' (puts st ws) (a.put none undef) w' := by
  have ht := hT t
  split at e
  · rename_i s off ty l u hp
    obtain ⟨hgs, b, cs, hv, hvs, ho, hc, hb, hr⟩ := place_sound hg h hp
    rw [hv]
    have hu := hg.rel h u
    split at e
    · rename_i m zs hgu hts
      rw [hts] at ht
      rw [hgu] at hu
      have hus : u ≠ s := fun e => by rw [e, hgs] at hgu; cases hgu
      split at e
      · rename_i h0
        split at e
        · rename_i hl1
          split at e
          · rename_i hl2
            cases e
            subst h0
            obtain ⟨cs2, hv2, hr2⟩ := hu
            have hev : a.eval (.tmp u) = .agg cs2 := hv2
            rw [hev]
            have hsz2 : cs2.size = cs.size := by rw [hr2.1, hr.1, hl1]
            have hrun := store_run (P := P) (isAgg_st ht w).2 (b := b) (off := 0) hb (v := .agg cs2) (by simp only [Value.cells]; rw [hr2.1, hl2]) (fun z hz => by
              obtain ⟨i, hi⟩ := List.getElem?_of_mem hz
              have hlt : i < m.length := by rw [← hr2.1]; have := (List.getElem?_eq_some_iff.1 hi).1; simpa [Value.cells] using this
              obtain ⟨v', hv', hx⟩ := hr2.2 i m[i] (List.getElem?_eq_getElem hlt)
              have : z = v' := by
                have h2 : cs2[i]? = some z := by simpa [Value.cells] using hi
                rw [hv'] at h2; cases h2; rfl
              rw [this]; exact hx.one.1) (by rw [← hl2, ← hr2.1]; omega)
            have hrow : (cs.toList.take 0 ++ (Value.agg cs2).cells.toList ++ cs.toList.drop (0 + zs.length)).toArray = cs2 := by
              apply Array.ext'
              simp only [List.take_zero, List.nil_append, Value.cells, Nat.zero_add]
              rw [List.drop_eq_nil_of_le (by simp; rw [← hl2, ← hr2.1]; omega), List.append_nil]
            rw [hrow] at hrun
            refine ⟨_, G.move u s, hrun, ?_⟩
            refine h.stored (Adv.move G w u s) hvs ho (by simp [Gh.move, ho]) hc hb (old_move h u s) (fun t i e => by have e' : t = u := e; simp [e']) (by simp) (fun p hp => ?_) ⟨hr2.1, fun i x hi => ?_⟩
            · simp only [List.mem_cons, List.not_mem_nil, or_false] at hp
              rcases hp with rfl | rfl
              · refine .inr ⟨_, rfl, RV.ro_ro (.agg m), ?_⟩
                have := RelRV.roAdv (P := P) (r := RV.ro (.agg m)) (t' := u) (RelRV.ro (t' := u) (r := .agg m) ⟨cs2, hv2, hr2⟩) (RV.ro_ro (.agg m)) (Adv.move G w u s)
                exact this
              · exact .inl rfl
            · obtain ⟨v', hv', hx⟩ := hr2.2 i x hi
              exact ⟨v', hv', hx.move⟩
          · cases e
        · cases e
      · cases e
    · cases e
    · cases e
    · rename_i tk v0 hgu hne1 hne2
      have hgu : g u = .rv (.sc v0) := by first | exact hgu | assumption
      rw [hgu] at hu
      have hus : u ≠ s := fun e => by rw [e, hgs] at hgu; cases hgu
      split at e
      · rename_i hlt
        cases e
        have hu' : RelSc P G w (u, 0) v0 (a.eval (.tmp u)) := hu
        have hone := isAgg_one ht (fun zs e => hne1 zs (by first | exact e | exact e.symm)) (fun e => hne2 (by first | exact e | exact e.symm)) w
        have hcsz : off < cs.size := by rw [hr.1]; exact hlt
        have hrun := store_run (P := P) hone.2 (b := b) (off := off) hb (v := a.eval (.tmp u)) (by rw [hu'.one.2]; rfl) (fun z hz => by rw [hu'.one.2] at hz; simp at hz; subst hz; exact hu'.one.1) (by omega)
        have hrow : (cs.toList.take off ++ (a.eval (.tmp u)).cells.toList ++ cs.toList.drop (off + 1)).toArray = cs.setIfInBounds off (a.eval (.tmp u)) := by
          apply Array.ext'
          rw [hu'.one.2]
          simp only [Array.toList_setIfInBounds]
          rw [List.set_eq_take_append_cons_drop]
          simp [hcsz]
        rw [hrow] at hrun
        refine ⟨_, G.pass (u, 0) (s, off + 1), hrun, ?_⟩
        refine h.stored (m := l.set off v0) (Adv.pass G w _ _) hvs ho (by simp [Gh.pass, ho]; intro e; exact absurd e.symm hus) hc hb (old_pass h _ _) (fun t i e => by cases e; simp) (by simp) (fun p hp => ?_) ⟨by simp [hr.1], fun i x hi => ?_⟩
        · simp only [List.mem_cons, List.not_mem_nil, or_false] at hp
          rcases hp with rfl | rfl
          · refine .inr ⟨_, rfl, by simp [RV.ro, Sc.ro_ro], ?_⟩
            exact (RelSc.ro (loc' := (u, 0)) hu').adv (Adv.pass G w _ _) (.inl (Sc.ro_ro v0))
          · exact .inl rfl
        · rw [List.getElem?_set] at hi
          by_cases hio : off = i
          · subst hio
            rw [if_pos rfl, if_pos hlt] at hi
            cases hi
            exact ⟨_, by rw [Array.getElem?_setIfInBounds]; simp [hcsz], RelSc.pass hu'⟩
          · rw [if_neg hio] at hi
            obtain ⟨v', hv', hx⟩ := hr.2 i x hi
            exact ⟨v', by rw [Array.getElem?_setIfInBounds_ne hio]; exact hv', hx.adv (Adv.pass G w _ _) (.inr (fun e => by cases e))⟩
      · cases e
    · rename_i xs e1 hgu hts
      rw [hts] at ht
      rw [hgu] at hu
      split at e
      case isFalse => cases e
      rename_i h0
      split at e
      case isFalse => cases e
      rename_i hl1
      split at e
      case isFalse => cases e
      rename_i hsu
      have hsu : s ≠ u := by simpa using hsu
      cases e
      subst h0
      obtain ⟨b1, ty1, hv1, ho1, hc1, hb1⟩ := hu
      have hev : a.eval (.tmp u) = .slice (some ⟨b1, 0, none⟩) xs.length xs.length := hv1
      have hone := isAgg_one ht (fun zs e => nomatch e) (fun e => nomatch e) w
      have hcsz : cs.size = 1 := by rw [hr.1]; exact hl1
      have hbb : b1 ≠ b := fun e => by subst e; rw [ho] at ho1; cases ho1; exact hsu rfl
      have hrun := store_run (P := P) hone.2 (b := b) (off := 0) hb (v := a.eval (.tmp u)) (by rw [hev]; rfl) (fun z hz => by rw [hev] at hz; simp [Value.cells] at hz; subst hz; rfl) (by omega)
      have hrow : (cs.toList.take 0 ++ (a.eval (.tmp u)).cells.toList ++ cs.toList.drop (0 + 1)).toArray = #[a.eval (.tmp u)] := by
        apply Array.ext'
        rw [hev]
        simp only [List.take_zero, List.nil_append, Value.cells]
        rw [List.drop_eq_nil_of_le (by simp; omega)]
        rfl
      rw [hrow] at hrun
      let G2 : Gh := ⟨fun k => if k = b then none else if k = b1 then some (s, 0) else G.own k, fun k => if k = b then 1 else G.com k⟩
      have hadv : Adv G w G2 (w.setRow b #[a.eval (.tmp u)]) (fun l => l = (s, 0) ∨ l = (u, 0)) := by
        refine ⟨by simp, fun k o hk ho' => ?_, fun k loc hk ho' hE => ?_⟩
        · have hkb : k ≠ b := fun e => by subst e; omega
          exact ⟨cell_setRow_other w b _ ⟨k, o, none⟩ hkb, by simp only [G2, if_neg hkb]; exact ho'⟩
        · have hkb : k ≠ b := fun e => by subst e; rw [ho] at ho'; cases ho'; exact hE (.inl rfl)
          have hkb1 : k ≠ b1 := fun e => by subst e; rw [ho1] at ho'; cases ho'; exact hE (.inr rfl)
          exact ⟨by simp only [G2, if_neg hkb, if_neg hkb1]; exact ho', by simp only [G2, if_neg hkb], setRow_other w b k _ hkb⟩
      refine ⟨_, G2, hrun, h.upd (dst := none) (S' := fun k => k = b) hadv (Fr.setRow w b _) (fun b' hb' e => ?_) (fun k hk hS => ?_) (fun d' e => by cases e) (fun t i e => by rcases e with e | e <;> (cases e; simp)) (fun p hp hlt => ?_) (fun p hp q hq => ?_)⟩
      · subst e
        apply Classical.byContradiction
        intro hS
        have := (h.old b' hb' hS).2
        rw [ho] at this; cases this
      · have hkb : k ≠ b := fun e => by subst e; have := (h.old k hk hS).2; rw [ho] at this; cases this
        have hkb1 : k ≠ b1 := fun e => by subst e; have := (h.old k hk hS).2; rw [ho1] at this; cases this
        simp only [G2, if_neg hkb, if_neg hkb1, and_self]
      · simp only [List.mem_cons, List.not_mem_nil, or_false] at hp
        rcases hp with rfl | rfl
        · trivial
        · rw [put_none]
          show RelA P G2 _ a s (.tb xs) (a.tmps.getD s undef)
          rw [hvs]
          refine ⟨b1, ⟨b, rfl, ?_, by simp [G2]⟩, by simp [G2, hbb], by simp only [G2, if_neg hbb]; exact hc1, ⟨ty1, trivial, (setRow_other w b b1 _ hbb).trans hb1⟩⟩
          rw [cell_row (setRow_heap w b cs _ ty (0, 0) hb), hev]
          rfl
      · simp only [List.mem_cons, List.not_mem_nil, or_false] at hp
        rcases hp with rfl | rfl <;> cases hq
    · cases e
  · rename_i s off ty l v hp
    obtain ⟨hgs, b, cs, hv, hvs, ho, hc, hb, hr⟩ := place_sound hg h hp
    rw [hv]
    split at e
    · cases e
    · cases e
    · rename_i tk v0 hcs hne1 hne2
      have hcs : constSc (c.T t) v = some v0 := by first | exact hcs | assumption
      split at e
      · rename_i hlt
        cases e
        have hu' : ∀ (G : Gh) w loc, RelSc P G w loc v0 v := fun G w loc => constSc_sound hcs G w loc
        have hone := isAgg_one ht (fun zs e => hne1 zs (by first | exact e | exact e.symm)) (fun e => hne2 (by first | exact e | exact e.symm)) w
        have hcsz : off < cs.size := by rw [hr.1]; exact hlt
        have ho1 := (hu' G w (0, 0)).one
        have hrun := store_run (P := P) hone.2 (b := b) (off := off) hb (v := a.eval (.const v)) (by simp only [Act.eval]; rw [ho1.2]; rfl) (fun z hz => by simp only [Act.eval] at hz; rw [ho1.2] at hz; simp at hz; subst hz; exact ho1.1) (by omega)
        have hrow : (cs.toList.take off ++ (a.eval (.const v)).cells.toList ++ cs.toList.drop (off + 1)).toArray = cs.setIfInBounds off v := by
          apply Array.ext'
          simp only [Act.eval]
          rw [ho1.2]
          simp only [Array.toList_setIfInBounds]
          rw [List.set_eq_take_append_cons_drop]
          simp [hcsz]
        rw [hrow] at hrun
        refine ⟨_, G, hrun, ?_⟩
        refine h.stored (m := l.set off v0) (Adv.refl G w) hvs ho ho hc hb (fun _ _ _ => ⟨rfl, rfl⟩) (fun t i e => e.elim) (by simp) (fun p hp => ?_) ⟨by simp [hr.1], fun i x hi => ?_⟩
        · simp only [List.mem_cons, List.not_mem_nil, or_false] at hp
          exact .inl hp
        · rw [List.getElem?_set] at hi
          by_cases hio : off = i
          · subst hio
            rw [if_pos rfl, if_pos hlt] at hi
            cases hi
            exact ⟨_, by rw [Array.getElem?_setIfInBounds]; simp [hcsz], hu' _ _ _⟩
          · rw [if_neg hio] at hi
            obtain ⟨v', hv', hx⟩ := hr.2 i x hi
            exact ⟨v', by rw [Array.getElem?_setIfInBounds_ne hio]; exact hv', hx⟩
      · cases e
    · cases e
  · rename_i s off ty l f hp
    obtain ⟨hgs, b, cs, hv, hvs, ho, hc, hb, hr⟩ := place_sound hg h hp
    rw [hv]
    split at e
    · rename_i hct
      split at e
      · rename_i hlt
        cases e
        rw [hct] at ht
        have hone := isAgg_one ht (fun zs e => nomatch e) (fun e => nomatch e) w
        have hcsz : off < cs.size := by rw [hr.1]; exact hlt
        have hev : a.eval (.func f) = .func (.func f) #[] #[] := rfl
        rw [hev]
        have hrun := store_run (P := P) hone.2 (b := b) (off := off) hb (v := .func (.func f) #[] #[]) rfl (fun z hz => by simp [Value.cells] at hz; subst hz; rfl) (by omega)
        have hrow : (cs.toList.take off ++ (Value.func (.func f) #[] #[]).cells.toList ++ cs.toList.drop (off + 1)).toArray = cs.setIfInBounds off (.func (.func f) #[] #[]) := by
          apply Array.ext'
          simp only [Value.cells, Array.toList_setIfInBounds]
          rw [List.set_eq_take_append_cons_drop]
          simp [hcsz]
        rw [hrow] at hrun
        refine ⟨_, G, hrun, ?_⟩
        refine h.stored (m := l.set off (.fnc f)) (Adv.refl G w) hvs ho ho hc hb (fun _ _ _ => ⟨rfl, rfl⟩) (fun t i e => e.elim) (by simp) (fun p hp => ?_) ⟨by simp [hr.1], fun i x hi => ?_⟩
        · simp only [List.mem_cons, List.not_mem_nil, or_false] at hp
          exact .inl hp
        · rw [List.getElem?_set] at hi
          by_cases hio : off = i
          · subst hio
            rw [if_pos rfl, if_pos hlt] at hi
            cases hi
            exact ⟨_, by rw [Array.getElem?_setIfInBounds]; simp [hcsz], rfl⟩
          · rw [if_neg hio] at hi
            obtain ⟨v', hv', hx⟩ := hr.2 i x hi
            exact ⟨v', by rw [Array.getElem?_setIfInBounds_ne hio]; exact hv', hx⟩
      · cases e
    · cases e
  · exact storeT_sound hg h hT e
  · cases e
end
end Go.Proofs.Ytbgfgadekmemeaa.Ev
