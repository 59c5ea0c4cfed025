/- The evaluator is sound: statements, loops and whole functions. What evalF says of a function is a contract that it meets. Conditions: a table of types that is so, contracts of the functions called. -/
import Derived.Test.YtbgfgadekmemeaaFp
namespace Go.Proofs.Ytbgfgadekmemeaa.Ev
open Go.RowKit
set_option linter.unusedVariables false
set_option linter.unusedSimpArgs false
set_option linter.unusedSectionVars false

def toExit : Ex → Exit
  | .normal => .normal
  | .exit id => .exit id
  | .ret => .ret

section
variable {P : Program} {S : Nat → Prop} {w0 w w' : World} {c0 : C0} {X : List Nat} {G G' : Gh} {st : St} {a : Act} {E : Nat × Nat → Prop}

/-- Less is said, and of no address that does not stay. -/
theorem Rel.less (h : Rel P S w0 c0 X G st a w) {st' : St} (hl : st'.length = st.length) (hs : ∀ t, getS st' t = .unk ∨ (getS st' t = getS st t ∧ ∀ s, (getS st t).on = some s → (getS st t).pinned = true)) : Rel P S w0 c0 c0.fx G st' a w := by
  refine ⟨h.len.trans hl.symm, h.defs, fun t => ?_, fun t s hr => ?_, h.fr, h.old, fun _ h => h, h.fix⟩
  · rcases hs t with e | ⟨e, _⟩
    · rw [e]; trivial
    · rw [e]; exact h.slot t
  · rcases hs t with e | ⟨e, hn⟩
    · rw [e] at hr; cases hr
    · rw [e] at hr ⊢
      exact ⟨(h.xs t s hr).2 (hn s hr), (h.xs t s hr).2⟩

theorem unref_spec (v : AV) : unref v = .unk ∨ (unref v = v ∧ ∀ s, v.on = some s → v.pinned = true) := by
  cases v
  case al s k => cases k <;> first | exact .inl rfl | exact .inr ⟨rfl, fun _ _ => rfl⟩
  all_goals first | exact .inl rfl | exact .inr ⟨rfl, fun s e => by cases e⟩

theorem getS_map (st : St) (t : Nat) : getS (st.map unref) t = unref (getS st t) := by
  simp only [getS, List.getD_eq_getElem?_getD, List.getElem?_map]
  cases st[t]? <;> rfl

theorem Rel.unrefs (h : Rel P S w0 c0 X G st a w) : Rel P S w0 c0 c0.fx G (st.map unref) a w :=
  h.less (by simp) (fun t => by rw [getS_map]; exact unref_spec _)

theorem getS_keep (l : List Nat) (st : St) (t : Nat) : getS (keep l st) t = if l.contains t then unref (getS st t) else .unk := by
  simp only [getS, keep, List.getD_eq_getElem?_getD, List.getElem?_mapIdx]
  cases st[t]? with
  | none => simp only [Option.map_none, Option.getD_none]; split <;> rfl
  | some v => simp only [Option.map_some, Option.getD_some]

theorem Rel.keep (h : Rel P S w0 c0 X G st a w) (l : List Nat) : Rel P S w0 c0 c0.fx G (Ev.keep l st) a w :=
  h.less (by simp [Ev.keep]) (fun t => by
    rw [getS_keep]
    split
    · exact unref_spec _
    · exact .inl rfl)

theorem Rel.any (h : Rel P S w0 c0 c0.fx G st a w) {Y : List Nat} (hY : ∀ s, s ∈ c0.fx → s ∈ Y) : Rel P S w0 c0 Y G st a w :=
  ⟨h.len, h.defs, h.slot, fun t s hr => ⟨hY s (h.xs t s hr).1, (h.xs t s hr).2⟩, h.fr, h.old, hY, h.fix⟩

/-- What a piece of code comes to. -/
def Post (P : Program) (S : Nat → Prop) (w0 : World) (c0 : C0) {R : Type} (K : Ex → St → Option R) (r : R) : Exit → Act → World → Prop :=
  fun x a w => ∃ ex st G, x = toExit ex ∧ Rel P S w0 c0 c0.fx G st a w ∧ K ex st = some r

variable {e : Env}

theorem region_sound (hfx : c0.fx = e.fx) (hT : ∀ t, TyOk P t (e.T t)) (hσ : ∀ f, Meets P f (e.sp f)) (hm : P.follows .mixedOrders = true) {R : Type} {K : Ex → St → Option R} {r : R} {id : Nat} {ops : Array Oper} {draw : Bool}
    (h : Rel P S w0 c0 c0.fx G st a w) (he : regionK e ops draw st (K .normal) = some r) : (Code.region id ops draw).wp P (Post P S w0 c0 K r) a w := by
  have hY : ∀ s, s ∈ c0.fx → s ∈ (e.ctx ops).X := fun s hs => List.mem_append_left _ (hfx ▸ hs)
  unfold regionK at he
  cases hd : dstsOk (e.ctx ops).X ops with
  | false => rw [hd] at he; cases he
  | true =>
    rw [hd] at he
    simp only [cond_true] at he
    cases draw with
    | false =>
      refine wp_region ?_
      have := runL_sound (P := P) (S := S) (w0 := w0) (c0 := c0) (c := e.ctx ops) hfx hT hσ hd (K := fun st' => K .normal (st'.map unref)) (r := r) (Q := Post P S w0 c0 K r)
        (fun G st a w hr hk => ⟨.normal, _, G, rfl, hr.unrefs, hk⟩) ops.toList 0 G st a w (by simp) (h.any hY) he
      rw [List.range_eq_range']
      simpa using this
    | true =>
      cases ho : orderOk ops with
      | false => simp [ho] at he
      | true =>
        simp only [ho, cond_true] at he
        obtain ⟨f, hf, hk⟩ := runD_sel (c := e.ctx ops) ops.toList 0 st (by simp) he
        have hf' : runSel (e.ctx ops) ops (fun _ => true) (List.range ops.size) st = some f := by
          rw [List.range_eq_range']
          simpa using hf
        refine wp_region_any hm ?_
        have hnone : ∀ k, (Array.replicate ops.size false).getD k false = false := fun k => by
          rw [Array.getD_eq_getD_getElem?]
          by_cases hk : k < ops.size <;> simp [hk]
        refine any_sound (P := P) (S := S) (w0 := w0) (c0 := c0) (c := e.ctx ops) hfx hT hσ hd ho hf' (Q := Post P S w0 c0 K r) (fun G a w hr => ⟨.normal, _, G, rfl, hr.unrefs, hk⟩)
          ops.size (Array.replicate ops.size false) G a _ st (by simp) ?_ ?_ ?_ ((h.any hY).drawn)
        · simp only [unlisted]
          exact Nat.le_trans (List.length_filter_le _ _) (by simp)
        · intro k o hk
          have : (Array.replicate ops.size false).getD k false = true := hk
          rw [hnone] at this; cases this
        · have hD : (fun i => (Array.replicate ops.size false).getD i false) = fun _ => false := funext hnone
          rw [hD]
          have : ∀ (l : List Nat) (st : St), runSel (e.ctx ops) ops (fun _ => false) l st = some st := by
            intro l
            induction l with
            | nil => intro st; rfl
            | cons i l ih => intro st; exact ih st
          exact this _ st

/-- A loop, behind its head. -/
def LoopWp (P : Program) (cd : Code) (Q : Exit → Act → World → Prop) (a : Act) (w : World) : Prop :=
  ∀ (b : Frame) (k : List Item) (cs : List Frame), ∃ x a' w', Q x a' w' ∧ Arrives P (lone (b.at a (.code cd :: .inLoop cd :: k)) cs w) b k cs x a' w'

theorem LoopWp.wp {cd : Code} {Q : Exit → Act → World → Prop} (h : LoopWp P cd Q a w) : (Code.loop cd).wp P Q a w := by
  intro b k cs
  obtain ⟨x, a', w', hq, harr⟩ := h b k cs
  exact ⟨x, a', w', hq, .of_steps (.one step_loop) harr⟩

theorem LoopWp.round {cd : Code} {Q : Exit → Act → World → Prop} (h : cd.wp P (Exit.then (fun a' w' => LoopWp P cd Q a' w') Q) a w) : LoopWp P cd Q a w := by
  intro b k cs
  obtain ⟨x, a₁, w₁, hq, harr⟩ := h b (.inLoop cd :: k) cs
  cases x with
  | normal =>
    obtain ⟨x₂, a₂, w₂, hq₂, harr₂⟩ := hq b k cs
    exact ⟨x₂, a₂, w₂, hq₂, .of_steps (Steps.trans harr (.one step_inLoop)) harr₂⟩
  | exit id => exact ⟨_, a₁, w₁, hq, .pass (x := .inLoop cd) rfl (fun _ _ => .inl (by simp)) harr⟩
  | goto l => exact ⟨_, a₁, w₁, hq, .pass (x := .inLoop cd) rfl (fun _ _ => .inl (by simp)) harr⟩
  | ret => exact ⟨_, a₁, w₁, hq, .pass (x := .inLoop cd) rfl (fun _ _ => .inl (by simp)) harr⟩
  | panic ch => exact ⟨_, a₁, w₁, hq, .pass (x := .inLoop cd) rfl (fun _ _ => .inl (by simp)) harr⟩
  | outgrown => exact ⟨_, a₁, w₁, hq, .pass (x := .inLoop cd) rfl (fun _ _ => .inl (by simp)) harr⟩

theorem code_sound (hfx : c0.fx = e.fx) (hT : ∀ t, TyOk P t (e.T t)) (hσ : ∀ f, Meets P f (e.sp f)) (hm : P.follows .mixedOrders = true) :
    ∀ (cd : Code) (cur : Nat), (∀ p ∈ loops cd cur, LoopOk e p.1 p.2) → ∀ {R : Type} (r : R) (K : Ex → St → Option R) (G : Gh) (st : St) (a : Act) (w : World), Rel P S w0 c0 c0.fx G st a w → evalCode e cd cur st K = some r → cd.wp P (Post P S w0 c0 K r) a w := by
  intro cd
  induction cd with
  | skip => intro cur _ R r K G st a w h he; exact wp_skip ⟨.normal, st, G, rfl, h, he⟩
  | region id ops draw => intro cur _ R r K G st a w h he; exact region_sound hfx hT hσ hm h he
  | seq x y ihx ihy =>
    intro cur hl R r K G st a w h he
    refine wp_seq (wp_mono (ihx cur (fun p hp => hl p (List.mem_append_left _ hp)) r _ G st a w h he) ?_)
    rintro ex a' w' ⟨x', st', G', rfl, hr, hk⟩
    cases x' with
    | normal => exact ihy cur (fun p hp => hl p (List.mem_append_right _ hp)) r K G' st' a' w' hr hk
    | exit id => exact ⟨.exit id, st', G', rfl, hr, hk⟩
    | ret => exact ⟨.ret, st', G', rfl, hr, hk⟩
  | cond o x y ihx ihy =>
    intro cur hl R r K G st a w h he
    have he : (match opBool (getS st) o with
      | some t => bif t then evalCode e x cur st K else evalCode e y cur st K
      | none => none) = some r := by
      cases o <;> simp only [evalCode, refine_eq] at he <;> exact he
    cases hb : opBool (getS st) o with
    | none => rw [hb] at he; cases he
    | some t =>
      rw [hb] at he
      have hv := opBool_sound (Sees.self st) h hb
      cases t with
      | true => exact wp_cond hv (ihx cur (fun p hp => hl p (List.mem_append_left _ hp)) r K G st a w h he)
      | false => exact wp_cond hv (ihy cur (fun p hp => hl p (List.mem_append_right _ hp)) r K G st a w h he)
  | block id x ih =>
    intro cur hl R r K G st a w h he
    refine wp_block (wp_mono (ih id hl r _ G st a w h he) ?_)
    rintro ex a' w' ⟨x', st', G', rfl, hr, hk⟩
    cases x' with
    | normal => exact ⟨.normal, st', G', rfl, hr, hk⟩
    | exit i =>
      simp only [toExit, Exit.inBlock]
      simp only at hk
      by_cases hi : i = id
      · rw [if_pos hi] at hk ⊢; exact ⟨.normal, st', G', rfl, hr, hk⟩
      · rw [if_neg hi] at hk ⊢; exact ⟨.exit i, st', G', rfl, hr, hk⟩
    | ret => exact ⟨.ret, st', G', rfl, hr, hk⟩
  | loop x ih =>
    intro cur hl R r K G st a w h he
    simp only [evalCode] at he
    obtain ⟨x0, st0, hruns, he⟩ := hl (cur, x) (List.mem_cons_self ..) st R K r he
    have hin : ∀ p ∈ loops x cur, LoopOk e p.1 p.2 := fun p hp => hl p (List.mem_cons_of_mem _ hp)
    have key : ∀ {st1 : St} {x1 : Ex} {st2 : St}, Runs e cur x st1 x1 st2 → ∀ (G : Gh) (a : Act) (w : World), Rel P S w0 c0 c0.fx G st1 a w → LoopWp P x (fun ex a w => ex = toExit x1 ∧ x1 ≠ .normal ∧ ∃ G', Rel P S w0 c0 c0.fx G' st2 a w) a w := by
      intro st1 x1 st2 hr
      induction hr with
      | step hev _ ihr =>
        intro G a w hrel
        refine LoopWp.round (wp_mono (ih cur hin _ (kp e cur) G _ a w hrel hev) ?_)
        rintro ex a' w' ⟨x', st', G', rfl, hr', hk⟩
        cases x' with
        | normal =>
          simp only [kp, Option.some.injEq, Prod.mk.injEq, true_and] at hk
          subst hk
          exact ihr G' a' w' (hr'.keep _)
        | exit id => simp [kp] at hk
        | ret => simp [kp] at hk
      | stop hev hx =>
        intro G a w hrel
        refine LoopWp.round (wp_mono (ih cur hin _ (kp e cur) G _ a w hrel hev) ?_)
        rintro ex a' w' ⟨x', st', G', rfl, hr', hk⟩
        cases x' with
        | normal => simp only [kp, Option.some.injEq, Prod.mk.injEq] at hk; exact absurd hk.1.symm hx
        | exit id =>
          simp only [kp, Option.some.injEq, Prod.mk.injEq] at hk
          obtain ⟨h1, h2⟩ := hk
          subst h1 h2
          exact ⟨rfl, hx, G', hr'.keep _⟩
        | ret =>
          simp only [kp, Option.some.injEq, Prod.mk.injEq] at hk
          obtain ⟨h1, h2⟩ := hk
          subst h1 h2
          exact ⟨rfl, hx, G', hr'.keep _⟩
    refine wp_mono (key hruns G a w (h.keep _)).wp ?_
    rintro ex a' w' ⟨rfl, _, G', hr'⟩
    exact ⟨x0, st0, G', rfl, hr', he⟩
  | exit id => intro cur _ R r K G st a w h he; exact wp_exit ⟨.exit id, st, G, rfl, h, he⟩
  | ret => intro cur _ R r K G st a w h he; exact wp_ret ⟨.ret, st, G, rfl, h, he⟩
  | rangeFunc f ps x y _ _ => intro cur _ R r K G st a w h he; cases he
  | scope x _ => intro cur _ R r K G st a w h he; cases he
  | label l => intro cur _ R r K G st a w h he; cases he
  | goto l => intro cur _ R r K G st a w h he; cases he
  | refuse why => intro cur _ R r K G st a w h he; cases he

/-! ### Whole functions -/
def resVal (a : Act) : ResultVar → Sem Value
  | .tmp t => pure (a.tmps.getD t undef)
  | .cell b t => do loadVar t (← asAddr (a.tmps.getD b undef))

theorem results_eq (fn : Func) (a : Act) : results fn a.tmps = (do let vs ← fn.results.mapM (resVal a); pure (if h : vs.size = 1 then vs[0] else .tuple vs)) := by
  unfold results
  congr 2

theorem resultOf_sound (hT : ∀ t, TyOk P t (e.T t)) (h : Rel P S w0 c0 c0.fx G st a w) {rv : ResultVar} {x : RV} (he : resultOf e.T st rv = some x) :
    x.ro = x ∧ ∃ v, (resVal a rv).run P w = .ok v w ∧ ∀ t, RelRV P G w t x v := by
  unfold resultOf at he
  split at he
  · rename_i t
    have hs := h.slot t
    split at he
    · rename_i y hg
      cases he
      rw [hg] at hs
      exact ⟨RV.ro_ro y, _, rfl, fun t' => RelRV.ro hs⟩
    · cases he
  · rename_i b t
    have hs := h.slot b
    have ht := hT t
    split at he
    · rename_i ty l hg
      rw [hg] at hs
      obtain ⟨blk, cs, hv, ho, hc, hb, hr⟩ := hs
      have hld : ∀ v, (Instr.loadAt t (.pointer (some ⟨blk, 0, none⟩))).run P w = .ok v w → (resVal a (.cell b t)).run P w = .ok v w := by
        intro v hl
        simp only [resVal]
        rw [hv]
        simpa [Instr.loadAt, Instr.sureAddr, asAddr] using hl
      split at he
      · rename_i zs hts
        rw [hts] at ht
        split at he
        · rename_i hlen
          cases he
          have hrun := load_agg (w := w) ht (ad := ⟨blk, 0, none⟩) (vs := cs.toList) (by simpa [hr.1] using hlen) (fun j v hj => by rw [adds, cell_row hb]; simpa using hj)
          rw [Array.toArray_toList] at hrun
          exact ⟨RV.ro_ro (.agg l), _, hld _ hrun, fun t' => ⟨cs, rfl, hr.ro⟩⟩
        · cases he
      · cases he
      · rename_i h1 h2
        split at he
        · rename_i s
          cases he
          obtain ⟨u, hu, hs⟩ := hr.2 0 s rfl
          have hrun := load_one (w := w) ht (fun zs e => h1 zs e) (fun e => h2 e) (ad := ⟨blk, 0, none⟩) (v := u) (by rw [cell_row hb]; exact hu)
          exact ⟨RV.ro_ro (.sc s), _, hld _ hrun, fun t' => RelSc.ro hs⟩
        · cases he
    · cases he

theorem resultsOf_sound (hT : ∀ t, TyOk P t (e.T t)) (h : Rel P S w0 c0 c0.fx G st a w) : ∀ {rs : List ResultVar} {xs : List RV}, resultsOf e.T st rs = some xs →
    ∃ vs : List Value, (rs.mapM (resVal a)).run P w = .ok vs w ∧ vs.length = xs.length ∧
      ∀ (i : Nat) (x : RV), xs[i]? = some x → x.ro = x ∧ ∃ v, vs[i]? = some v ∧ ∀ t, RelRV P G w t x v
  | [], xs, he => by simp [resultsOf] at he; subst he; exact ⟨[], by simp, rfl, fun i x hi => by simp at hi⟩
  | rv :: rs, xs, he => by
    simp only [resultsOf] at he
    split at he
    · rename_i x l hx hl
      cases he
      obtain ⟨hro, v, hv, hr⟩ := resultOf_sound hT h hx
      obtain ⟨vs, hvs, hlen, hall⟩ := resultsOf_sound hT h hl
      refine ⟨v :: vs, ?_, by simp [hlen], fun i y hi => ?_⟩
      · rw [List.mapM_cons]
        simp only [Sem.run_bind, Sem.run_pure, hv, Result.andThen_ok, hvs]
      · cases i with
        | zero => simp at hi; subst hi; exact ⟨hro, v, rfl, hr⟩
        | succ i => simpa using hall i y (by simpa using hi)
    · cases he

/-- The state at a function's door. -/
theorem Rel.door {e : Env} {fn : Func} {as : List AV} {vs : Array Value} {G : Gh} {w : World} {a0 : Act} (hnt : as.length ≤ fn.ntmps) (hsz : vs.size = as.length)
    (hargs : ∀ (i : Nat) (x : AV), as[i]? = some x → ∃ v, vs[i]? = some v ∧ RelA P G w a0 i x v ∧ ((∃ r, x = .rv r ∧ r.ro = r) ∨ (∃ t l, x = .cbox t l) ∨ ∃ xs, tab x = some xs)) :
    Rel P (fun b => G.own b ≠ none) w ⟨G.com, e.fx, fun s => (vs ++ Array.replicate (fn.ntmps - vs.size) undef).getD s undef⟩ e.fx G (as ++ List.replicate (fn.ntmps - as.length) .unk) { tmps := vs ++ Array.replicate (fn.ntmps - vs.size) undef, defers := [] } w := by
  have key : ∀ t, (∃ (ht : t < as.length), getS (as ++ List.replicate (fn.ntmps - as.length) .unk) t = as[t]) ∨ getS (as ++ List.replicate (fn.ntmps - as.length) .unk) t = .unk := by
    intro t
    by_cases ht : t < as.length
    · exact .inl ⟨ht, by simp only [getS, List.getD_eq_getElem?_getD, List.getElem?_append_left ht, List.getElem?_eq_getElem ht, Option.getD_some]⟩
    · refine .inr ?_
      simp only [getS, List.getD_eq_getElem?_getD, List.getElem?_append_right (Nat.le_of_not_lt ht), List.getElem?_replicate]
      split <;> rfl
  have off : ∀ {x : AV}, ((∃ r, x = .rv r ∧ r.ro = r) ∨ (∃ t l, x = .cbox t l) ∨ ∃ xs, tab x = some xs) → x.on = none := by
    rintro x (⟨r, rfl, _⟩ | ⟨t, l, rfl⟩ | ⟨xs, hx⟩)
    · rfl
    · rfl
    · cases x <;> first | rfl | cases hx
  refine ⟨by simp [hsz], rfl, fun t => ?_, fun t s hr => ?_, Fr.refl _ w, fun b hbb hS => ⟨rfl, Classical.byContradiction hS⟩, fun _ h => h, fun _ _ => rfl⟩
  · rcases key t with ⟨ht, hg⟩ | hg
    · obtain ⟨v, hv, hrv, hk⟩ := hargs t as[t] (List.getElem?_eq_getElem ht)
      have hgv : (vs ++ Array.replicate (fn.ntmps - vs.size) undef).getD t undef = v := by
        have : (vs ++ Array.replicate (fn.ntmps - vs.size) undef)[t]? = some v := by
          rw [Array.getElem?_append_left (by omega)]; exact hv
        simp only [Array.getD_eq_getD_getElem?, this, Option.getD_some]
      rw [hg]
      simp only [hgv]
      exact hrv.adv (Adv.refl G w) (fun _ e => e) fun s hs => by rw [off hk] at hs; cases hs
    · rw [hg]; trivial
  · rcases key t with ⟨ht, hg⟩ | hg
    · obtain ⟨v, hv, hrv, hk⟩ := hargs t as[t] (List.getElem?_eq_getElem ht)
      rw [hg, off hk] at hr; cases hr
    · rw [hg] at hr; cases hr

theorem TabV.det {G G' : Gh} {w w' : World} {x : AV} {v : Value} {b b' : Nat} {xs ys : List Int} (hx : tab x = some xs) (hkeep : ∀ b0 o u, Cm G w ⟨b0, o, none⟩ u → w'.cell? ⟨b0, o, none⟩ = some u) (h : TabV G w x v b) (h' : TabV G' w' (setTab ys x) v b') : b = b' := by
  have one : ∀ {m : TM} {u : Value} {n n' : Nat}, TabOf G w m u b n → TabOf G' w' m u b' n' → b = b' := by
    intro m u n n' h h'
    cases m with
    | sl => cases h.symm.trans h'; rfl
    | ptr t => cases h.1.symm.trans h'.1; rfl
    | box =>
      obtain ⟨b0, e, hc⟩ := h
      obtain ⟨b1, e', hc'⟩ := h'
      cases e.symm.trans e'
      cases (hkeep _ _ _ hc).symm.trans hc'.1
      rfl
  cases x <;> first | exact h.elim | skip
  case ms xs => exact one (m := .sl) h h'
  case tb xs => exact one (m := .box) h h'
  case box t l => exact one (m := .ptr t) h h'
  case cms m p F xs =>
    obtain ⟨f, cs, u, e, hp, ht⟩ := h
    obtain ⟨f', cs', u', e', hp', ht'⟩ := h'
    cases e.symm.trans e'
    cases hp.symm.trans hp'
    exact one ht ht'

/-- A whole function: it gives its result, and the tables that it was given. -/
theorem meets_core (hT : ∀ t, TyOk P t (e.T t)) (hσ : ∀ f, Meets P f (e.sp f)) (hm : P.follows .mixedOrders = true) {f : FuncId} {fn : Func} (hf : P.funcs[f]? = some fn) (hname : (fn.name == "runtime.NumGoroutine") = false)
    (hl : ∀ p ∈ loopsOf fn, LoopOk e p.1 p.2) {Sp : Spec} (h : ∀ as r fin, Sp as = some (r, fin) → as.length ≤ fn.ntmps ∧ ∃ cd, fn.body = some cd ∧
      ∃ K : Ex → St → Option (AV × List AV), evalCode e cd 0 (as ++ List.replicate (fn.ntmps - as.length) .unk) K = some (r, fin) ∧ ∀ x st, K x st = some (r, fin) →
        (∃ f', finish e.T fn x st = some (r, f')) ∧ ∀ (i : Nat) (x : AV) (xs : List Int), as[i]? = some x → tab x = some xs → i ∈ e.fx ∧ ∃ ys, fin[i]? = some (setTab ys x) ∧ ys.length = xs.length ∧ getS st i = setTab ys x) : Meets P f Sp := by
  intro as r fin hs
  obtain ⟨hnt, cd, hb, K, hev, hK⟩ := h as r fin hs
  refine ⟨⟨fn, hf, hname, by rw [hb]; rfl⟩, fun vs G w a0 hsz hargs hown => ?_⟩
  refine calls_of_wp hf hb ?_
  have hrel := Rel.door (P := P) (e := e) (fn := fn) hnt hsz hargs
  have hl' : ∀ p ∈ loops cd 0, LoopOk e p.1 p.2 := fun p hp => hl p (by unfold loopsOf; rw [hb]; exact hp)
  refine wp_mono (code_sound rfl hT hσ hm cd 0 hl' _ _ G _ _ w hrel hev) ?_
  rintro x a' w' ⟨ex, st', G', rfl, hr, hk⟩
  obtain ⟨⟨fin', hfin⟩, htabs⟩ := hK _ _ hk
  -- what was fixed stays
  have hcom0 : ∀ b, G.own b ≠ none → b < w.heap.size → G.com b = 0 := by
    intro b hb hlt
    obtain ⟨i, x, xs, v, hi, hx, hv, htv⟩ := hown b hlt hb
    obtain ⟨v', hv', hrv, _⟩ := hargs i x hi
    rw [hv] at hv'
    cases hv'
    obtain ⟨b1, ht1, _, hc1, _⟩ := (relA_tab hx).1 hrv
    have : b = b1 := TabV.det (G := G) (G' := G) (w := w) (w' := w) (ys := xs) hx (fun _ _ _ h => h.1) htv (ht1.set hx rfl)
    rw [this]; exact hc1
  have hkeep : ∀ b0 o u, Cm G w ⟨b0, o, none⟩ u → w'.cell? ⟨b0, o, none⟩ = some u := by
    intro b0 o u hcm
    have hlt := (cell_addr hcm.1).2
    have hnS : ¬ (G.own b0 ≠ none) := fun hS => by
      have := hcm.2
      simp only [hcom0 b0 hS hlt] at this
      omega
    rw [World.cell?_of_block (w := w) (a := ⟨b0, o, none⟩) (hr.fr.block b0 hlt hnS)]
    exact hcm.1
  -- the tables at the end
  have htab : ∀ (i : Nat) (x : AV) (xs : List Int) (v : Value) (b : Nat), as[i]? = some x → tab x = some xs → vs[i]? = some v → TabV G w x v b →
      ∃ ys, fin[i]? = some (setTab ys x) ∧ ys.length = xs.length ∧ Row w' (tmV x) b ys ∧ G'.com b = 0 := by
    intro i x xs v b hi hx hv htv
    obtain ⟨hfi, ys, hys, hlen, hst⟩ := htabs i x xs hi hx
    have hslot := hr.slot i
    rw [hst, hr.fix i hfi] at hslot
    have hval : (vs ++ Array.replicate (fn.ntmps - vs.size) undef).getD i undef = v := by
      have hlt : i < vs.size := (Array.getElem?_eq_some_iff.1 hv).1
      simp only [Array.getD_eq_getD_getElem?, Array.getElem?_append_left hlt, hv, Option.getD_some]
    simp only [hval] at hslot
    obtain ⟨b', htv', _, hc', hrow', _⟩ := (relA_tab (tab_set hx hlen)).1 hslot
    obtain rfl := TabV.det hx hkeep htv htv'
    rw [tmV_set] at hrow'
    exact ⟨ys, hys, hlen, hrow', hc'⟩
  have hcom : ∀ b, b < w.heap.size → G'.com b = G.com b := by
    intro b hb
    by_cases hS : G.own b = none
    · exact (hr.old b hb (fun hn => hn hS)).1
    · obtain ⟨i, x, xs, v, hi, hx, hv, htv⟩ := hown b hb hS
      obtain ⟨_, _, _, _, hc⟩ := htab i x xs v b hi hx hv htv
      rw [hc, hcom0 b hS hb]
  have fin0 : ∀ (xs : List RV), resultsOf e.T st' fn.results.toList = some xs → (match (some xs : Option (List RV)) with
      | some [r] => some (AV.rv r, ([] : List AV))
      | some l => some (.tup l, [])
      | none => none) = some (r, fin') → a'.defers = [] ∧ ∃ v, (results fn a'.tmps).run P w' = .ok v w' ∧
        (∃ v' c', Ending.returned v = .returned v' ∧ Fr (fun b => G.own b ≠ none) w w' ∧ (∀ b, b < w.heap.size → c' b = G.com b) ∧
          ((∃ r', r = .rv r' ∧ r'.ro = r') ∨ ∃ l, r = .tup l) ∧ RelA P ⟨fun _ => none, c'⟩ w' a0 0 r v' ∧
          ∀ (i : Nat) (x : AV) (xs : List Int) (v : Value) (b : Nat), as[i]? = some x → tab x = some xs → vs[i]? = some v → TabV G w x v b →
            ∃ ys, fin[i]? = some (setTab ys x) ∧ ys.length = xs.length ∧ Row w' (tmV x) b ys) := by
    intro xs hxs hm2
    obtain ⟨us, hus, hlen, hall⟩ := resultsOf_sound hT hr hxs
    have hadv : Adv G' w' ⟨fun _ => none, G'.com⟩ w' (fun _ => True) := ⟨Nat.le_refl _, fun b o _ ho => ⟨rfl, ho⟩, fun _ _ _ _ hn => absurd trivial hn⟩
    have hres : (results fn a'.tmps).run P w' = .ok (if h : us.toArray.size = 1 then us.toArray[0] else .tuple us.toArray) w' := by
      rw [results_eq, ← Array.toArray_toList (xs := fn.results), List.mapM_toArray]
      simp only [Sem.run_bind, Sem.run_map]
      rw [hus]
      rfl
    refine ⟨hr.defs, _, hres, _, G'.com, rfl, hr.fr, hcom, ?_⟩
    refine ⟨?_, ?_, fun i x xs v b hi hx hv ht => let ⟨ys, h1, h2, h3, _⟩ := htab i x xs v b hi hx hv ht; ⟨ys, h1, h2, h3⟩⟩
    · split at hm2
      · rename_i y hy
        cases hm2
        cases hy
        exact .inl ⟨y, rfl, (hall 0 y rfl).1⟩
      · cases hm2; exact .inr ⟨_, rfl⟩
      · cases hm2
    · split at hm2
      · rename_i y hy
        cases hm2
        cases hy
        obtain ⟨hro, v, hv, hrr⟩ := hall 0 y rfl
        cases us with
        | nil => simp at hv
        | cons u us =>
          have : us = [] := by simpa using hlen
          subst this
          simp only [List.getElem?_cons_zero, Option.some.injEq] at hv
          subst hv
          simp only [List.size_toArray, List.length_cons, List.length_nil, Nat.zero_add, dite_true, List.getElem_toArray, List.getElem_cons_zero]
          exact RelRV.roAdv (hrr 0) hro hadv
      · rename_i l hne hl
        cases hm2
        cases hl
        have h1 : ¬ us.toArray.size = 1 := by
          intro h1
          have : xs.length = 1 := by rw [← hlen]; simpa using h1
          match xs, this, hne with
          | [y], _, hne => exact hne y rfl
        rw [dif_neg h1]
        exact ⟨us.toArray, rfl, by simp [hlen], fun i y hi => let ⟨hro, v, hv, hrr⟩ := hall i y hi; ⟨hro, v, by simpa using hv, RelRV.roAdv (hrr 0) hro hadv⟩⟩
      · cases hm2
  unfold finish at hfin
  cases ex with
  | exit id => cases hfin
  | normal =>
    simp only at hfin
    cases hxs : resultsOf e.T st' fn.results.toList with
    | none => rw [hxs] at hfin; cases hfin
    | some xs => rw [hxs] at hfin; exact fin0 xs hxs hfin
  | ret =>
    simp only at hfin
    cases hxs : resultsOf e.T st' fn.results.toList with
    | none => rw [hxs] at hfin; cases hfin
    | some xs => rw [hxs] at hfin; exact fin0 xs hxs hfin

theorem meets_of_eval (hT : ∀ t, TyOk P t (e.T t)) (hσ : ∀ f, Meets P f (e.sp f)) (hm : P.follows .mixedOrders = true) {f : FuncId} {fn : Func} (hf : P.funcs[f]? = some fn) (hname : (fn.name == "runtime.NumGoroutine") = false)
    (hl : ∀ p ∈ loopsOf fn, LoopOk e p.1 p.2) {Sp : Spec} (h : ∀ as r fin, Sp as = some (r, fin) → (∀ x ∈ as, tab x = none) ∧ as.length ≤ fn.ntmps ∧ evalF e fn as = some (r, fin)) : Meets P f Sp := by
  refine meets_core hT hσ hm hf hname hl fun as r fin hs => ?_
  obtain ⟨hno, hnt, hev⟩ := h as r fin hs
  unfold evalF at hev
  cases hb : fn.body with
  | none => rw [hb] at hev; cases hev
  | some cd =>
    rw [hb] at hev
    refine ⟨hnt, cd, rfl, _, hev, fun x st hk => ⟨⟨fin, hk⟩, fun i x xs hi hx => ?_⟩⟩
    rw [hno x (List.mem_of_getElem? hi)] at hx; cases hx

/-- The same for a function that is given tables. -/
theorem meets_of_evalT (hT : ∀ t, TyOk P t (e.T t)) (hσ : ∀ f, Meets P f (e.sp f)) (hm : P.follows .mixedOrders = true) {f : FuncId} {fn : Func} (hf : P.funcs[f]? = some fn) (hname : (fn.name == "runtime.NumGoroutine") = false)
    (hl : ∀ p ∈ loopsOf fn, LoopOk e p.1 p.2) {Sp : Spec} (h : ∀ as r fin, Sp as = some (r, fin) → as.length ≤ fn.ntmps ∧ evalFT e fn as = some (r, fin) ∧
      ∀ (i : Nat) (x : AV) (xs : List Int), as[i]? = some x → tab x = some xs → i ∈ e.fx ∧ ∃ ys, fin[i]? = some (setTab ys x) ∧ ys.length = xs.length) : Meets P f Sp := by
  refine meets_core hT hσ hm hf hname hl fun as r fin hs => ?_
  obtain ⟨hnt, hev, htab⟩ := h as r fin hs
  unfold evalFT at hev
  cases hb : fn.body with
  | none => rw [hb] at hev; cases hev
  | some cd =>
    rw [hb] at hev
    refine ⟨hnt, cd, rfl, _, hev, fun x st hk => ?_⟩
    unfold finishT at hk
    split at hk
    · rename_i r' f' hfin
      cases hk
      refine ⟨⟨f', hfin⟩, fun i x xs hi hx => ?_⟩
      obtain ⟨hfi, ys, hys, hlen⟩ := htab i x xs hi hx
      refine ⟨hfi, ys, hys, hlen, ?_⟩
      have hlt : i < as.length := (List.getElem?_eq_some_iff.1 hi).1
      rw [List.getElem?_map, List.getElem?_range hlt] at hys
      simp only [Option.map_some, Option.some.injEq] at hys
      rw [if_pos (by simpa using hfi)] at hys
      exact hys
    · cases hk
end
end Go.Proofs.Ytbgfgadekmemeaa.Ev
