/- The evaluator is sound: a region that draws its order comes to the same, whatever order is drawn. Conditions: the region is orderOk: operations that touch one slot are ordered. -/
import Derived.Test.YtbgfgadekmemeaaFo
namespace Go.Proofs.Ytbgfgadekmemeaa.Ev
open Go.RowKit
set_option linter.unusedVariables false
set_option linter.unusedSimpArgs false
set_option linter.unusedSectionVars false

section
variable (c : Ctx) (ops : Array Oper)

def stepAt (i : Nat) (st : St) : Option St :=
  match ops[i]? with
  | some o => (step c ops (masked ops o st) o some).bind fun ws => bif okWrites ops o ws then some (puts st ws) else none
  | none => none

/-- The operations of D alone, in their listed order. -/
def runSel (D : Nat → Bool) : List Nat → St → Option St
  | [], st => some st
  | i :: is, st => match D i with
    | true => (stepAt c ops i st).bind (runSel D is)
    | false => runSel D is st

theorem runSel_append (D : Nat → Bool) : ∀ (l m : List Nat) (st : St), runSel c ops D (l ++ m) st = (runSel c ops D l st).bind (runSel c ops D m)
  | [], m, st => rfl
  | i :: l, m, st => by
    simp only [List.cons_append, runSel]
    cases D i with
    | true =>
      simp only
      cases stepAt c ops i st with
      | none => rfl
      | some s => exact runSel_append D l m s
    | false => exact runSel_append D l m st
end

theorem puts_out {ws : List (Nat × AV)} {t : Nat} (h : t ∉ ws.map (·.1)) : ∀ st : St, (puts st ws)[t]? = st[t]? := by
  induction ws with
  | nil => intro st; rfl
  | cons p ws ih =>
    intro st
    simp only [List.map_cons, List.mem_cons, not_or] at h
    have : puts st (p :: ws) = puts (put1 st p) ws := rfl
    rw [this, ih h.2, put1, List.getElem?_set, if_neg (fun e => h.1 e.symm)]

theorem puts_in {ws : List (Nat × AV)} {t : Nat} : ∀ (st st' : St), st.length = st'.length → (t ∈ ws.map (·.1) ∨ st[t]? = st'[t]?) → (puts st ws)[t]? = (puts st' ws)[t]? := by
  induction ws with
  | nil =>
    intro st st' _ h
    rcases h with h | h
    · cases h
    · exact h
  | cons p ws ih =>
    intro st st' hl h
    have e1 : puts st (p :: ws) = puts (put1 st p) ws := rfl
    have e2 : puts st' (p :: ws) = puts (put1 st' p) ws := rfl
    rw [e1, e2]
    refine ih _ _ (by simp [put1, hl]) ?_
    by_cases hp : p.1 = t
    · right
      simp only [put1, List.getElem?_set, if_pos hp, hl]
    · simp only [List.map_cons, List.mem_cons] at h
      rcases h with (h | h) | h
      · exact absurd h.symm hp
      · exact .inl h
      · right
        simp only [put1, List.getElem?_set, if_neg hp]
        exact h

theorem getS_congr {st st' : St} {t : Nat} (h : st[t]? = st'[t]?) : getS st t = getS st' t := by
  simp only [getS, List.getD_eq_getElem?_getD, h]

theorem puts_comm {us vs : List (Nat × AV)} (h : ∀ t, t ∈ us.map (·.1) → t ∉ vs.map (·.1)) (st : St) : puts (puts st us) vs = puts (puts st vs) us := by
  apply List.ext_getElem?
  intro t
  by_cases hu : t ∈ us.map (·.1)
  · rw [puts_out (h t hu)]
    exact puts_in _ _ (by rw [puts_length]) (.inl hu)
  · rw [puts_out hu]
    by_cases hv : t ∈ vs.map (·.1)
    · exact puts_in _ _ (by rw [puts_length]) (.inl hv)
    · rw [puts_out hv, puts_out hv, puts_out hu]

section
variable {c : Ctx} {ops : Array Oper}

theorem okWrites_mem {o : Oper} {ws : List (Nat × AV)} (h : okWrites ops o ws = true) {t : Nat} (ht : t ∈ ws.map (·.1)) : t ∈ writesOf ops o := by
  obtain ⟨p, hp, rfl⟩ := List.mem_map.1 ht
  have := List.all_eq_true.1 h p hp
  simp only [Bool.and_eq_true] at this
  simpa using this.1
theorem okWrites_box {o : Oper} {ws : List (Nat × AV)} (h : okWrites ops o ws = true) {p : Nat × AV} (hp : p ∈ ws) (hn : p.1 ∉ hardW ops o) : isBox p.2 = true := by
  have := List.all_eq_true.1 h p hp
  simp only [Bool.and_eq_true, Bool.or_eq_true] at this
  rcases this.2 with h | h
  · exact absurd (by simpa using h) hn
  · exact h

theorem stepAt_spec {i : Nat} {st st' : St} (h : stepAt c ops i st = some st') : ∃ o ws, ops[i]? = some o ∧ step c ops (masked ops o st) o some = some ws ∧ okWrites ops o ws = true ∧ st' = puts st ws := by
  unfold stepAt at h
  split at h
  · rename_i o ho
    cases hs : step c ops (masked ops o st) o some with
    | none => rw [hs] at h; cases h
    | some ws =>
      rw [hs] at h
      cases hw : okWrites ops o ws with
      | false => simp [hw] at h
      | true => simp only [Option.bind_some, hw, cond_true, Option.some.injEq] at h; exact ⟨o, ws, ho, hs, hw, h.symm⟩
  · cases h

theorem stepAt_mk {i : Nat} {st : St} {o : Oper} {ws : List (Nat × AV)} (ho : ops[i]? = some o) (hs : step c ops (masked ops o st) o some = some ws) (hw : okWrites ops o ws = true) : stepAt c ops i st = some (puts st ws) := by
  simp only [stepAt, ho, hs, Option.bind_some, hw, cond_true]

theorem inter_false {a b : List Nat} (h : inter a b = false) {t : Nat} (ha : t ∈ a) : t ∉ b := by
  intro hb
  have := List.any_eq_false.1 h t ha
  exact this (by simpa using hb)

def shape : AV → AV
  | .box t l => .box t (l.map fun _ => Sc.nil)
  | v => v
theorem shape_box {t : TypeId} {l m : List Sc} (h : l.length = m.length) : shape (.box t l) = shape (.box t m) := by
  simp only [shape, AV.box.injEq, true_and]
  apply List.ext_getElem
  · simp [h]
  · intros; simp
theorem shape_eq {u v : AV} (h : shape u = shape v) : u = v ∨ ∃ t l m, u = .box t l ∧ v = .box t m ∧ l.length = m.length := by
  cases u <;> cases v <;> simp only [shape, AV.box.injEq, reduceCtorEq] at h
  case box.box t l t' m =>
    obtain ⟨rfl, h⟩ := h
    exact .inr ⟨_, _, _, rfl, rfl, by simpa using congrArg List.length h⟩
  all_goals first | exact .inl h | exact .inl rfl | exact .inl (by rw [h])
theorem clash1_false {x y : Oper} (h : clash1 ops x y = false) : ∀ t, (t ∈ writesOf ops x → t ∉ writesOf ops y ∧ (t ∈ readsOf ops y → t ∈ shapesOf ops y)) ∧ (t ∈ hardW ops x → t ∉ shapesOf ops y) := by
  simp only [clash1, Bool.or_eq_false_iff] at h
  refine fun t => ⟨fun ht => ⟨inter_false h.1.2 ht, fun hr => ?_⟩, fun ht => inter_false h.2 ht⟩
  have := inter_false h.1.1 ht
  simp only [List.mem_filter, not_and, Bool.not_eq_true', Bool.not_eq_false, List.contains_eq_mem, decide_eq_true_eq] at this
  simpa using this hr
theorem clash1_writes {x y : Oper} {t : Nat} (h1 : t ∈ writesOf ops x) (h2 : t ∈ readsOf ops y) (h3 : t ∉ shapesOf ops y) : clash1 ops x y = true := by
  simp only [clash1, Bool.or_eq_true]
  refine .inl (.inl ?_)
  simp only [inter, List.any_eq_true]
  exact ⟨t, h1, by simp [h2, h3]⟩
theorem clash1_hard {x y : Oper} {t : Nat} (h1 : t ∈ hardW ops x) (h2 : t ∈ shapesOf ops y) : clash1 ops x y = true := by
  simp only [clash1, Bool.or_eq_true]
  refine .inr ?_
  simp only [inter, List.any_eq_true]
  exact ⟨t, h1, by simp [h2]⟩
theorem noClash {i j : Nat} {x y : Oper} (h : clash ops i j = false) (hx : ops[i]? = some x) (hy : ops[j]? = some y) : clash1 ops x y = false ∧ clash1 ops y x = false := by
  simpa only [clash, hx, hy, Bool.or_eq_false_iff] using h

theorem masked_congr {o : Oper} {st st' : St} (h : ∀ t, t ∈ readsOf ops o → getS st t = getS st' t) : masked ops o st = masked ops o st' := by
  funext t
  unfold masked
  by_cases ht : (readsOf ops o).contains t = true
  · rw [if_pos ht, if_pos ht]; exact h t (by simpa using ht)
  · rw [if_neg ht, if_neg ht]
theorem masked_at {o : Oper} {st : St} {t : Nat} : masked ops o st t = getS st t ∨ masked ops o st t = .unk := by
  unfold masked
  split
  · exact .inl rfl
  · exact .inr rfl
/-- An operation that reads no more than a shape. -/
theorem step_congr {o : Oper} {st st' : St} (h : ∀ t, t ∈ readsOf ops o → t ∉ shapesOf ops o → getS st t = getS st' t) (hs : ∀ t, t ∈ shapesOf ops o → shape (getS st t) = shape (getS st' t)) :
    step c ops (masked ops o st) o some = step c ops (masked ops o st') o some := by
  by_cases hsh : shapesOf ops o = []
  · rw [masked_congr fun t ht => h t ht (by rw [hsh]; exact List.not_mem_nil)]
  · unfold shapesOf at hsh
    split at hsh
    · rename_i ty s f hop
      have hg : ¬ guardDst ops o = some s := fun hg => by rw [if_pos hg] at hsh; exact hsh rfl
      have hsl : shapesOf ops o = [s] := by unfold shapesOf; rw [hop]; exact if_neg hg
      have hm : ∀ t, t ≠ s → masked ops o st t = masked ops o st' t := by
        intro t ht
        unfold masked
        by_cases hr : (readsOf ops o).contains t = true
        · rw [if_pos hr, if_pos hr]; exact h t (by simpa using hr) (by rw [hsl]; simpa using ht)
        · rw [if_neg hr, if_neg hr]
      have hss := hs s (by rw [hsl]; exact List.mem_singleton_self s)
      have hsem : sem c (masked ops o st) o (R := List (Nat × AV)) some = sem c (masked ops o st') o some := by
        have key : masked ops o st s = masked ops o st' s ∨ ∃ t l m, masked ops o st s = .box t l ∧ masked ops o st' s = .box t m ∧ l.length = m.length := by
          unfold masked
          split
          · exact shape_eq hss
          · exact .inl rfl
        unfold sem
        rw [hop]
        cases o.dst with
        | none => rfl
        | some d =>
          rcases key with hk | ⟨t, l, m, h1, h2, h3⟩
          · cases hct : c.T ty <;> simp only [hct, hk]
          · cases hct : c.T ty <;> simp only [hct, h1, h2, h3]
      unfold step
      split
      · exact hsem
      · rename_i j want hgd
        unfold guardDst at hg
        rw [hgd] at hg
        simp only at hg
        split
        · rename_i t htd
          rw [hm t fun e => hg (by rw [htd, e])]
          split
          · split
            · rw [hsem]
            · rw [hsem]
          · rfl
          · rfl
        · rfl
    · exact absurd rfl hsh
theorem place_box {g : Nat → AV} {x : Operand} {s off : Nat} {ty : TypeId} {l : List Sc} (h : place g x = some (s, off, ty, l)) : g s = .box ty l := by
  unfold place at h
  split at h
  · split at h
    · cases h; assumption
    · split at h
      · cases h; assumption
      · cases h
    · cases h
  · cases h
theorem bif_dst {b : Bool} {d : Nat} {v : AV} {ws : List (Nat × AV)} (h : (bif b then some [(d, v)] else none) = some ws) : ∀ p ∈ ws, p.1 = d := by
  intro p hp
  cases b <;> cases h
  cases List.mem_singleton.1 hp; rfl
theorem loadT_dst {g : Nat → AV} {t : TypeId} {d : Nat} {x : Operand} {ws : List (Nat × AV)} (h : loadT c g t d x some = some ws) : ∀ p ∈ ws, p.1 = d := by
  unfold loadT at h
  intro p hp
  split at h
  · split at h
    · exact bif_dst h p hp
    · exact bif_dst h p hp
    · split at h
      · split at h
        · exact bif_dst h p hp
        · cases h
      · cases h
    · cases h
  · cases h
theorem storeT_soft {g : Nat → AV} {t : TypeId} {x y : Operand} {ws : List (Nat × AV)} (h : storeT c g t x y some = some ws) : ∀ p ∈ ws, isBox p.2 = true → ∃ t l m, p.2 = .box t m ∧ g p.1 = .box t l ∧ m.length = l.length := by
  unfold storeT at h
  intro p hp hb
  split at h
  · split at h
    · rename_i s m i v _ _ _
      split at h
      · rename_i m' xs htm
        split at h
        · cases hd : decide (i < xs.length) <;> rw [hd] at h <;> cases h
          cases List.mem_singleton.1 hp
          unfold tmOf at htm
          split at htm
          · rename_i hgs; rw [hgs] at hb; cases hb
          · rename_i hgs; rw [hgs] at hb; cases hb
          · rename_i hgs
            cases htm
            refine ⟨_, _, _, by rw [hgs]; rfl, hgs, by simp⟩
          · cases htm
        · cases h
      · cases h
    · cases h
  · cases h
/-- A write beyond the hard ones keeps the shape. -/
theorem sem_soft {o : Oper} {g : Nat → AV} {ws : List (Nat × AV)} (h : sem c g o some = some ws) (hw : ∀ p ∈ ws, p.1 ∈ writesOf ops o) (hbx : ∀ p ∈ ws, p.1 ∉ hardW ops o → isBox p.2 = true) : ∀ p ∈ ws, p.1 ∉ hardW ops o → ∃ t l m, p.2 = .box t m ∧ g p.1 = .box t l ∧ m.length = l.length := by
  intro p hp hn
  have hbox := hbx p hp hn
  have hnot : hardW ops o ≠ writesOf ops o := fun e => hn (by rw [e]; exact hw p hp)
  unfold hardW at hn hnot
  split at hn
  · rename_i t x u hop
    simp only [List.mem_cons, not_or] at hn
    unfold sem at h
    rw [hop] at h
    cases hd : o.dst with
    | some d => rw [hd] at h; cases h
    | none =>
      rw [hd] at h
      simp only at h
      split at h
      · rename_i hpl heq
        have hb := place_box hpl
        cases heq
        split at h
        · split at h
          · split at h
            · split at h
              · simp only [Option.some.injEq] at h
                subst h
                simp only [List.mem_cons, List.not_mem_nil, or_false] at hp
                rcases hp with rfl | rfl
                · exact absurd rfl hn.1
                · exact ⟨_, _, _, rfl, hb, by assumption⟩
              · cases h
            · cases h
          · cases h
        · cases h
        · cases h
        · split at h
          · simp only [Option.some.injEq] at h
            subst h
            simp only [List.mem_cons, List.not_mem_nil, or_false] at hp
            rcases hp with rfl | rfl
            · exact absurd rfl hn.1
            · exact ⟨_, _, _, rfl, hb, by simp⟩
          · cases h
        · split at h
          · split at h
            · split at h
              · simp only [Option.some.injEq] at h
                subst h
                simp only [List.mem_cons, List.not_mem_nil, or_false] at hp
                rcases hp with rfl | rfl
                · exact absurd rfl hn.1
                · cases hbox
              · cases h
            · cases h
          · cases h
        · cases h
      · rename_i heq; cases heq
      · rename_i heq; cases heq
      · exact storeT_soft h p hp hbox
      · cases h
  · rename_i t x y hy hop
    unfold sem at h
    rw [hop] at h
    cases hd : o.dst with
    | some d => rw [hd] at h; cases h
    | none =>
      rw [hd] at h
      simp only at h
      split at h
      · exact (hy _ rfl).elim
      · rename_i s off ty l v hpl
        have hb := place_box hpl
        split at h
        · cases h
        · cases h
        · split at h
          · simp only [Option.some.injEq] at h
            subst h
            simp only [List.mem_cons, List.not_mem_nil, or_false] at hp
            subst hp
            exact ⟨_, _, _, rfl, hb, by simp⟩
          · cases h
        · cases h
      · rename_i s off ty l f hpl
        have hb := place_box hpl
        split at h
        · split at h
          · simp only [Option.some.injEq] at h
            subst h
            simp only [List.mem_cons, List.not_mem_nil, or_false] at hp
            subst hp
            exact ⟨_, _, _, rfl, hb, by simp⟩
          · cases h
        · cases h
      · exact storeT_soft h p hp hbox
      · cases h
  · rename_i t x hop
    unfold sem at h
    rw [hop] at h
    cases hd : o.dst with
    | none => rw [hd] at h; cases h
    | some d =>
      rw [hd] at h hn
      simp only [Option.toList_some, List.mem_singleton] at h hn
      split at h
      · rename_i s off ty l hpl
        have hb := place_box hpl
        split at h
        · split at h
          · split at h
            · simp only [Option.some.injEq] at h
              subst h
              simp only [List.mem_cons, List.not_mem_nil, or_false] at hp
              subst hp
              exact absurd rfl hn
            · cases h
          · cases h
        · cases h
        · split at h
          · rename_i v _
            cases hc : (c.tk.contains d && v.isOwn && (s != d))
            · rw [hc] at h
              simp only [cond_false, Option.some.injEq] at h
              subst h
              simp only [List.mem_cons, List.not_mem_nil, or_false] at hp
              subst hp
              exact absurd rfl hn
            · rw [hc] at h
              simp only [cond_true, Option.some.injEq] at h
              subst h
              simp only [List.mem_cons, List.not_mem_nil, or_false] at hp
              rcases hp with rfl | rfl
              · exact ⟨_, _, _, rfl, hb, by simp⟩
              · exact absurd rfl hn
          · cases h
      · split at h
        · split at h
          · simp only [Option.some.injEq] at h
            subst h
            simp only [List.mem_cons, List.not_mem_nil, or_false] at hp
            subst hp
            exact absurd rfl hn
          · cases h
        · exact absurd (loadT_dst h p hp) hn
  · exact absurd (hw p hp) hn
theorem dst_hard {o : Oper} {d : Nat} (h : o.dst = some d) : d ∈ hardW ops o := by
  unfold hardW writesOf
  split <;> simp [h]
theorem step_soft {o : Oper} {st : St} {ws : List (Nat × AV)} (h : step c ops (masked ops o st) o some = some ws) (hw : okWrites ops o ws = true) : ∀ p ∈ ws, p.1 ∉ hardW ops o → shape p.2 = shape (getS st p.1) := by
  have hskip : ∀ ws, skipped o some = some ws → ∀ p ∈ ws, p.1 ∉ hardW ops o → shape p.2 = shape (getS st p.1) := by
    intro ws h p hp hn
    unfold skipped at h
    split at h
    · rename_i d hd
      simp only [Option.some.injEq] at h
      subst h
      obtain rfl := List.mem_singleton.mp hp
      exact absurd (dst_hard hd) hn
    · simp only [Option.some.injEq] at h
      subst h
      cases hp
  have hsem : ∀ ws, okWrites ops o ws = true → sem c (masked ops o st) o some = some ws → ∀ p ∈ ws, p.1 ∉ hardW ops o → shape p.2 = shape (getS st p.1) := by
    intro ws hw h p hp hn
    obtain ⟨t, l, m, h1, h2, h3⟩ := sem_soft (ops := ops) h (fun p hp => okWrites_mem hw (List.mem_map_of_mem hp)) (fun p hp hn => okWrites_box hw hp hn) p hp hn
    rcases masked_at (ops := ops) (o := o) (st := st) (t := p.1) with e | e
    · rw [e] at h2
      rw [h1, h2]
      exact shape_box h3
    · rw [e] at h2; cases h2
  unfold step at h
  split at h
  · exact hsem ws hw h
  · split at h
    · split at h
      · rename_i b _
        split at h
        · cases b
          · exact hskip ws h
          · exact hsem ws hw h
        · cases b
          · exact hsem ws hw h
          · exact hskip ws h
      · exact hskip ws h
      · cases h
    · cases h
theorem getS_put {st : St} {k t : Nat} {v : AV} : getS (st.set k v) t = if k = t ∧ t < st.length then v else getS st t := by
  unfold getS
  rw [List.getD_eq_getElem?_getD, List.getD_eq_getElem?_getD, List.getElem?_set]
  by_cases h : k = t
  · subst h
    by_cases hl : k < st.length
    · rw [if_pos rfl, if_pos hl, if_pos ⟨rfl, hl⟩]; rfl
    · rw [if_pos rfl, if_neg hl, if_neg (fun h => hl h.2), List.getElem?_eq_none (by omega)]
  · rw [if_neg h, if_neg (fun hh => h hh.1)]
theorem puts_shape {s : AV} {t : Nat} : ∀ (ws : List (Nat × AV)) (st : St), shape (getS st t) = s → (∀ p ∈ ws, p.1 = t → shape p.2 = s) → shape (getS (puts st ws) t) = s
  | [], _, h, _ => h
  | p :: ws, st, h, hp => by
    show shape (getS (puts (put1 st p) ws) t) = s
    refine puts_shape ws _ ?_ fun q hq => hp q (List.mem_cons_of_mem _ hq)
    unfold put1
    rw [getS_put]
    split
    · exact hp p (List.mem_cons_self ..) (by omega)
    · exact h
theorem puts_shape2 {t : Nat} : ∀ (ws : List (Nat × AV)) (st st' : St), st.length = st'.length → shape (getS st t) = shape (getS st' t) → shape (getS (puts st ws) t) = shape (getS (puts st' ws) t)
  | [], _, _, _, h => h
  | p :: ws, st, st', hl, h => by
    show shape (getS (puts (put1 st p) ws) t) = shape (getS (puts (put1 st' p) ws) t)
    refine puts_shape2 ws _ _ (by simp [put1, hl]) ?_
    unfold put1
    rw [getS_put, getS_put, hl]
    split
    · rfl
    · exact h
theorem shape_kept {o : Oper} {st : St} {ws : List (Nat × AV)} (h : step c ops (masked ops o st) o some = some ws) (hw : okWrites ops o ws = true) {t : Nat} (ht : t ∉ hardW ops o) : shape (getS (puts st ws) t) = shape (getS st t) :=
  puts_shape ws st rfl fun p hp e => by subst e; exact step_soft h hw p hp ht

/-- Two operations that do not clash may change places. -/
theorem step_swap {i k : Nat} (hc : clash ops i k = false) {e e1 e2 : St} (h1 : stepAt c ops i e = some e1) (h2 : stepAt c ops k e = some e2) :
    ∃ e3, stepAt c ops k e1 = some e3 ∧ stepAt c ops i e2 = some e3 := by
  obtain ⟨x, us, hx, hs1, hw1, rfl⟩ := stepAt_spec h1
  obtain ⟨y, vs, hy, hs2, hw2, rfl⟩ := stepAt_spec h2
  obtain ⟨n1, n2⟩ := noClash hc hx hy
  have d1 : ∀ t, t ∈ us.map (·.1) → t ∉ vs.map (·.1) := fun t ht hv => ((clash1_false n1 t).1 (okWrites_mem hw1 ht)).1 (okWrites_mem hw2 hv)
  have m1 : step c ops (masked ops y (puts e us)) y some = step c ops (masked ops y e) y some := step_congr
    (fun t ht hns => getS_congr (puts_out (fun hu => hns (((clash1_false n1 t).1 (okWrites_mem hw1 hu)).2 ht)) e))
    (fun t ht => shape_kept hs1 hw1 fun hh => (clash1_false n1 t).2 hh ht)
  have m2 : step c ops (masked ops x (puts e vs)) x some = step c ops (masked ops x e) x some := step_congr
    (fun t ht hns => getS_congr (puts_out (fun hu => hns (((clash1_false n2 t).1 (okWrites_mem hw2 hu)).2 ht)) e))
    (fun t ht => shape_kept hs2 hw2 fun hh => (clash1_false n2 t).2 hh ht)
  refine ⟨puts (puts e us) vs, stepAt_mk hy (by rw [m1]; exact hs2) hw2, ?_⟩
  rw [puts_comm d1]
  exact stepAt_mk hx (by rw [m2]; exact hs1) hw1

/-- Closed: with an operation all those before it that it clashes with. -/
def Closed (ops : Array Oper) (D : Nat → Bool) : Prop := ∀ i k, i < k → D k = true → clash ops i k = true → D i = true

theorem sel_all {D : Nat → Bool} (hD : Closed ops D) {st0 : St} : ∀ (k : Nat), ∀ f, runSel c ops (fun _ => true) (List.range k) st0 = some f →
    ∃ e, runSel c ops D (List.range k) st0 = some e ∧ e.length = f.length ∧ (∀ t, (∀ j o, j < k → ops[j]? = some o → t ∈ writesOf ops o → D j = true) → e[t]? = f[t]?) ∧
      ∀ t, (∀ j o, j < k → ops[j]? = some o → t ∈ hardW ops o → D j = true) → shape (getS e t) = shape (getS f t) := by
  intro k
  induction k with
  | zero => intro f h; cases h; exact ⟨st0, rfl, rfl, fun _ _ => rfl, fun _ _ => rfl⟩
  | succ k ih =>
    intro f h
    rw [List.range_succ, runSel_append] at h
    cases hf : runSel c ops (fun _ => true) (List.range k) st0 with
    | none => rw [hf] at h; cases h
    | some f0 =>
      rw [hf] at h
      simp only [Option.bind_some, runSel] at h
      cases hst : stepAt c ops k f0 with
      | none => rw [hst] at h; cases h
      | some f1 =>
        rw [hst] at h
        simp only [Option.bind_some, Option.some.injEq] at h
        subst h
        obtain ⟨e0, he, hl, hq, hz⟩ := ih f0 hf
        obtain ⟨o, ws, ho, hs, hw, rfl⟩ := stepAt_spec hst
        rw [List.range_succ, runSel_append, he]
        simp only [Option.bind_some, runSel]
        have hcl : ∀ j o', j < k → ops[j]? = some o' → clash1 ops o' o = true → D k = true → D j = true := fun j o' hj ho' hc hDk => by
          apply hD j k hj hDk
          simp only [clash, ho', ho, hc, Bool.true_or]
        cases hDk : D k with
        | true =>
          have hm : step c ops (masked ops o e0) o some = step c ops (masked ops o f0) o some := step_congr
            (fun t ht hns => getS_congr (hq t fun j o' hj ho' htw => hcl j o' hj ho' (clash1_writes htw ht hns) hDk))
            (fun t ht => hz t fun j o' hj ho' htw => hcl j o' hj ho' (clash1_hard htw ht) hDk)
          refine ⟨puts e0 ws, by simp only [stepAt_mk ho (by rw [hm]; exact hs) hw, Option.bind_some, runSel], by rw [puts_length, puts_length, hl], fun t ht => ?_, fun t ht => ?_⟩
          · exact puts_in _ _ hl (.inr (hq t fun j o' hj => ht j o' (by omega)))
          · exact puts_shape2 ws _ _ hl (hz t fun j o' hj => ht j o' (by omega))
        | false =>
          refine ⟨e0, rfl, by rw [puts_length, hl], fun t ht => ?_, fun t ht => ?_⟩
          · have hnt : t ∉ ws.map (·.1) := fun hin => by
              have := ht k o (by omega) ho (okWrites_mem hw hin)
              rw [hDk] at this; cases this
            rw [puts_out hnt]
            exact hq t fun j o' hj => ht j o' (by omega)
          · have hnt : t ∉ hardW ops o := fun hin => by
              have := ht k o (by omega) ho hin
              rw [hDk] at this; cases this
            rw [shape_kept hs hw hnt]
            exact hz t fun j o' hj => ht j o' (by omega)
theorem sel_some {D : Nat → Bool} (hD : Closed ops D) {st0 : St} (k : Nat) (f : St) (h : runSel c ops (fun _ => true) (List.range k) st0 = some f) :
    ∃ e, runSel c ops D (List.range k) st0 = some e ∧ e.length = f.length ∧ ∀ t, (∀ j o, j < k → ops[j]? = some o → t ∈ writesOf ops o → D j = true) → e[t]? = f[t]? :=
  let ⟨e, h1, h2, h3, _⟩ := sel_all hD k f h
  ⟨e, h1, h2, h3⟩

theorem sel_congr {D D' : Nat → Bool} : ∀ (l : List Nat) (st : St), (∀ i ∈ l, D i = D' i) → runSel c ops D l st = runSel c ops D' l st
  | [], st, _ => rfl
  | i :: l, st, h => by
    simp only [runSel, h i (List.mem_cons_self ..)]
    cases D' i with
    | true =>
      simp only
      cases stepAt c ops i st with
      | none => rfl
      | some s => exact sel_congr l s (fun j hj => h j (List.mem_cons_of_mem _ hj))
    | false => exact sel_congr l st (fun j hj => h j (List.mem_cons_of_mem _ hj))

/-- One operation more, behind all the others. -/
theorem sel_more {D : Nat → Bool} (hD : Closed ops D) {i : Nat} (hi : D i = false) (hD' : Closed ops (fun k => D k || k == i)) {st0 : St} :
    ∀ (k : Nat), i < k → ∀ f, runSel c ops (fun _ => true) (List.range k) st0 = some f → ∃ e e', runSel c ops D (List.range k) st0 = some e ∧ runSel c ops (fun k => D k || k == i) (List.range k) st0 = some e' ∧ stepAt c ops i e = some e' := by
  intro k
  induction k with
  | zero => intro h; omega
  | succ k ih =>
    intro hik f hf
    obtain ⟨e, he, _, _⟩ := sel_some hD (k + 1) f hf
    obtain ⟨e', he', _, _⟩ := sel_some hD' (k + 1) f hf
    refine ⟨e, e', he, he', ?_⟩
    rw [List.range_succ, runSel_append] at he he' hf
    cases hf0 : runSel c ops (fun _ => true) (List.range k) st0 with
    | none => rw [hf0] at hf; cases hf
    | some f0 =>
      by_cases hk : k = i
      · subst hk
        have hc : runSel c ops (fun j => D j || j == k) (List.range k) st0 = runSel c ops D (List.range k) st0 := sel_congr _ _ fun j hj => by
          have : j ≠ k := Nat.ne_of_lt (List.mem_range.1 hj)
          simp [this]
        rw [hc] at he'
        cases he0 : runSel c ops D (List.range k) st0 with
        | none => rw [he0] at he; cases he
        | some e0 =>
          rw [he0] at he he'
          simp only [Option.bind_some, runSel, hi, Option.some.injEq] at he
          subst he
          simp only [Option.bind_some, runSel, beq_self_eq_true, Bool.or_true] at he'
          cases hs : stepAt c ops k e0 with
          | none => rw [hs] at he'; cases he'
          | some s => rw [hs] at he'; simpa using he'
      · have hik' : i < k := by omega
        obtain ⟨e0, e0', he0, he0', hst⟩ := ih hik' f0 hf0
        rw [he0] at he
        rw [he0'] at he'
        have hki : (k == i) = false := by simpa using hk
        simp only [Option.bind_some, runSel, hki, Bool.or_false] at he he'
        cases hDk : D k with
        | false =>
          rw [hDk] at he he'
          cases he; cases he'
          exact hst
        | true =>
          rw [hDk] at he he'
          simp only at he he'
          have hnc : clash ops i k = false := by
            cases hcl : clash ops i k with
            | false => rfl
            | true => have := hD i k hik' hDk hcl; rw [hi] at this; cases this
          cases h2 : stepAt c ops k e0 with
          | none => rw [h2] at he; cases he
          | some e2 =>
            obtain ⟨e3, h3, h4⟩ := step_swap hnc hst h2
            rw [h2] at he
            rw [h3] at he'
            cases he; cases he'
            exact h4

/-! The orders. -/
inductive Bef (ops : Array Oper) : Nat → Nat → Prop where
  | edge {k : Nat} {o : Oper} {e : Edge} (h : ops[k]? = some o) (he : e ∈ o.after.toList) (hb : Region.binds .any e = true) : Bef ops e.on k
  | trans {j k : Nat} {o : Oper} {e : Edge} (h : ops[k]? = some o) (he : e ∈ o.after.toList) (hb : Region.binds .any e = true) (hj : Bef ops j e.on) : Bef ops j k

theorem mem_addAll {j : Nat} : ∀ {xs l : List Nat}, j ∈ addAll xs l → j ∈ xs ∨ j ∈ l
  | [], l, h => .inr h
  | x :: xs, l, h => by
    have e : addAll (x :: xs) l = if (addAll xs l).contains x then addAll xs l else x :: addAll xs l := rfl
    rw [e] at h
    split at h
    · exact (mem_addAll h).imp_left (List.mem_cons_of_mem _)
    · rcases List.mem_cons.1 h with rfl | h
      · exact .inl (List.mem_cons_self ..)
      · exact (mem_addAll h).imp_left (List.mem_cons_of_mem _)
theorem befores_spec : ∀ (n : Nat) (acc : List (List Nat)), acc.length = n → (∀ k l, acc[k]? = some l → ∀ j ∈ l, Bef ops j k) → ∀ (os : List Oper), ops.toList.drop n = os →
    ∀ k l, (os.foldl (fun acc o => acc ++ [o.after.toList.foldl (fun l e => if Region.binds .any e then addAll (e.on :: acc.getD e.on []) l else l) []]) acc)[k]? = some l → ∀ j ∈ l, Bef ops j k := by
  intro n acc hn hacc os
  induction os generalizing n acc with
  | nil => intro _ k l h; exact hacc k l h
  | cons o os ih =>
    intro hd k l h
    have hi : ops[n]? = some o := by have := congrArg (·[0]?) hd; simpa using this
    have hd' : ops.toList.drop (n + 1) = os := by have := congrArg List.tail hd; simpa [List.tail_drop] using this
    simp only [List.foldl_cons] at h
    refine ih (n + 1) _ (by simp [hn]) ?_ hd' k l h
    intro k' l' hk' j hj
    by_cases hlt : k' < n
    · rw [List.getElem?_append_left (by omega)] at hk'
      exact hacc k' l' hk' j hj
    · rw [List.getElem?_append_right (by omega)] at hk'
      have hk0 : k' = n := by
        have := (List.getElem?_eq_some_iff.1 hk').1
        simp at this; omega
      subst hk0
      simp only [hn, Nat.sub_self, List.getElem?_cons_zero, Option.some.injEq] at hk'
      subst hk'
      have key : ∀ (es : List Edge) (l0 : List Nat), (∀ e ∈ es, e ∈ o.after.toList) → (∀ j ∈ l0, Bef ops j k') → ∀ j ∈ es.foldl (fun l e => if Region.binds .any e then addAll (e.on :: acc.getD e.on []) l else l) l0, Bef ops j k' := by
        intro es
        induction es with
        | nil => intro l0 _ h0; exact h0
        | cons e es ihe =>
          intro l0 hes h0
          simp only [List.foldl_cons]
          refine ihe _ (fun e' h' => hes e' (List.mem_cons_of_mem _ h')) ?_
          intro j hj
          by_cases hb : Region.binds .any e = true
          · rw [if_pos hb] at hj
            have hemem := hes e (List.mem_cons_self ..)
            rcases mem_addAll hj with hj | hj
            · rcases List.mem_cons.1 hj with rfl | hj
              · exact .edge hi hemem hb
              · refine .trans hi hemem hb ?_
                rw [List.getD_eq_getElem?_getD] at hj
                cases hx : acc[e.on]? with
                | none => rw [hx] at hj; simp at hj
                | some m => rw [hx] at hj; exact hacc _ m hx j (by simpa using hj)
            · exact h0 j hj
          · rw [if_neg hb] at hj; exact h0 j hj
      exact key o.after.toList [] (fun _ h => h) (by simp) j hj

theorem orderOk_spec (h : orderOk ops = true) : (∀ i k, i < k → k < ops.size → clash ops i k = true → Bef ops i k) ∧ ∀ k o, ops[k]? = some o → ∀ e ∈ o.after.toList, Region.binds .any e = true → e.on < k := by
  simp only [orderOk, Bool.and_eq_true] at h
  obtain ⟨h1, h2⟩ := h
  refine ⟨fun i k hik hk hc => ?_, fun k o hk e he hb => ?_⟩
  · have := List.all_eq_true.1 (List.all_eq_true.1 h2 k (List.mem_range.2 hk)) i (List.mem_range.2 hik)
    simp only [hc, Bool.not_true, Bool.or_false] at this
    have hm : i ∈ (befores ops).getD k [] := by simpa using this
    rw [List.getD_eq_getElem?_getD] at hm
    cases hx : (befores ops)[k]? with
    | none => rw [hx] at hm; simp at hm
    | some l =>
      rw [hx] at hm
      exact befores_spec 0 [] rfl (fun k l hh => by simp at hh) ops.toList (by simp) k l hx i (by simpa using hm)
  · have hlt : k < ops.size := (Array.getElem?_eq_some_iff.1 hk).1
    have := List.all_eq_true.1 h1 k (List.mem_range.2 hlt)
    rw [hk] at this
    have := List.all_eq_true.1 this e he
    simpa [hb] using this

/-- Closed under what surely comes before. -/
def Edged (ops : Array Oper) (D : Nat → Bool) : Prop := ∀ k o, D k = true → ops[k]? = some o → ∀ e ∈ o.after.toList, Region.binds .any e = true → D e.on = true

theorem bef_in {D : Nat → Bool} (hE : Edged ops D) {j k : Nat} (h : Bef ops j k) : (∀ o, ops[k]? = some o → ∀ e ∈ o.after.toList, Region.binds .any e = true → D e.on = true) → D j = true := by
  induction h with
  | edge h he hb => intro hk; exact hk _ h _ he hb
  | trans h he hb hj ih =>
    intro hk
    have hon := hk _ h _ he hb
    exact ih fun o ho e' he' hb' => hE _ o hon ho e' he' hb'

theorem closed_of_edged {D : Nat → Bool} (ho : orderOk ops = true) (hE : Edged ops D) (hn : ∀ k, D k = true → k < ops.size) : Closed ops D := by
  intro i k hik hk hc
  have hb := (orderOk_spec ho).1 i k hik (hn k hk) hc
  exact bef_in hE hb fun o hok e he heb => hE k o hk hok e he heb
end

section
variable {P : Program} {S : Nat → Prop} {w0 w w' : World} {c0 : C0} {X : List Nat} {G G' : Gh} {st : St} {a : Act} {E : Nat × Nat → Prop}
variable {c : Ctx} {ops : Array Oper}

theorem runD_sel {R : Type} {K : St → Option R} {r : R} : ∀ (os : List Oper) (n : Nat) (st : St), ops.toList.drop n = os → runD c ops os st K = some r → ∃ f, runSel c ops (fun _ => true) (List.range' n os.length) st = some f ∧ K f = some r := by
  intro os
  induction os with
  | nil => intro n st _ h; exact ⟨st, rfl, h⟩
  | cons o os ih =>
    intro n st hd h
    have hi : ops[n]? = some o := by have := congrArg (·[0]?) hd; simpa using this
    have hd' : ops.toList.drop (n + 1) = os := by have := congrArg List.tail hd; simpa [List.tail_drop] using this
    simp only [runD, refineO_eq, stepD] at h
    rw [step_cps] at h
    cases hs : step c ops (masked ops o st) o some with
    | none => rw [hs] at h; cases h
    | some ws =>
      rw [hs] at h
      cases hw : okWrites ops o ws with
      | false => simp [hw] at h
      | true =>
        simp only [Option.bind_some, hw, cond_true] at h
        obtain ⟨f, hf, hK⟩ := ih (n + 1) _ hd' h
        refine ⟨f, ?_, hK⟩
        rw [List.length_cons, List.range'_succ]
        simp only [runSel, stepAt_mk hi hs hw, Option.bind_some]
        exact hf

theorem Sees.masked (o : Oper) (st : St) : Sees st (masked ops o st) := fun t => by
  unfold Ev.masked
  split
  · exact .inr rfl
  · exact .inl rfl

theorem ready_spec {listed : Array Bool} {i : Nat} (h : i ∈ Region.ready .any ops listed) : i < ops.size ∧ listed.getD i true = false ∧ ∀ o, ops[i]? = some o → ∀ e ∈ o.after.toList, Region.binds .any e = true → listed.getD e.on false = true := by
  unfold Region.ready at h
  obtain ⟨h1, h2⟩ := List.mem_filter.1 h
  simp only [Bool.and_eq_true, Bool.not_eq_true'] at h2
  refine ⟨List.mem_range.1 h1, h2.1, fun o ho e he hb => ?_⟩
  have h3 := h2.2
  rw [ho] at h3
  simp only [Option.map_some, Option.getD_some] at h3
  have h4 := Array.all_eq_true_iff_forall_mem.1 h3 e (by simpa using he)
  simpa [hb] using h4

theorem ready_of {listed : Array Bool} {i : Nat} {o : Oper} (hi : ops[i]? = some o) (hl : listed.getD i true = false) (he : ∀ e ∈ o.after.toList, Region.binds .any e = true → listed.getD e.on false = true) : i ∈ Region.ready .any ops listed := by
  unfold Region.ready
  refine List.mem_filter.2 ⟨List.mem_range.2 (Array.getElem?_eq_some_iff.1 hi).1, ?_⟩
  simp only [hl, Bool.not_false, Bool.true_and, hi, Option.map_some, Option.getD_some]
  refine Array.all_eq_true_iff_forall_mem.2 fun e hm => ?_
  cases hb : Region.binds .any e with
  | false => rfl
  | true => simp [he e (by simpa using hm) hb]

theorem filter_le {p q : Nat → Bool} (h : ∀ k, q k = true → p k = true) : ∀ l : List Nat, (l.filter q).length ≤ (l.filter p).length
  | [] => Nat.le_refl _
  | x :: l => by
    have ih := filter_le h l
    have hx := h x
    simp only [List.filter_cons]
    cases hq : q x with
    | true => simp only [hx hq, if_true, List.length_cons]; omega
    | false => cases p x <;> simp <;> omega

theorem filter_less {p q : Nat → Bool} (i : Nat) (h : ∀ k, q k = (p k && !(k == i))) (hp : p i = true) : ∀ l : List Nat, l.Nodup → i ∈ l → (l.filter q).length + 1 ≤ (l.filter p).length
  | [], _, hm => by cases hm
  | x :: l, hnd, hm => by
    have hle := filter_le (p := p) (q := q) (fun k hk => by rw [h] at hk; exact (Bool.and_eq_true_iff.1 hk).1) l
    simp only [List.filter_cons]
    by_cases hx : x = i
    · subst hx
      have hq : q x = false := by rw [h]; simp
      simp only [hq, hp, Bool.false_eq_true, if_false, if_true, List.length_cons]
      omega
    · have hm' : i ∈ l := by
        rcases List.mem_cons.1 hm with e | e
        · exact absurd e.symm hx
        · exact e
      have ih := filter_less i h hp l (List.nodup_cons.1 hnd).2 hm'
      have hxi : (x == i) = false := by simpa using hx
      have hq : q x = p x := by rw [h, hxi]; simp
      rw [hq]
      cases p x <;> simp <;> omega

def unlisted (n : Nat) (listed : Array Bool) : Nat := ((List.range n).filter fun i => !listed.getD i false).length

theorem any_sound (hfx : c0.fx = c.fx) (hT : ∀ t, TyOk P t (c.T t)) (hσ : ∀ f, Meets P f (c.sp f)) (hd : dstsOk c.X ops = true) (ho : orderOk ops = true) {st0 f : St} (hf : runSel c ops (fun _ => true) (List.range ops.size) st0 = some f) {Q : Exit → Act → World → Prop}
    (hQ : ∀ G a w, Rel P S w0 c0 c.X G f a w → Q .normal a w) :
    ∀ (fuel : Nat) (listed : Array Bool) (G : Gh) (a : Act) (w : World) (e : St), listed.size = ops.size → unlisted ops.size listed ≤ fuel → Edged ops (fun i => listed.getD i false) →
      runSel c ops (fun i => listed.getD i false) (List.range ops.size) st0 = some e → Rel P S w0 c0 c.X G e a w → wpAny P .any ops Q fuel listed a w := by
  have hin : ∀ (listed : Array Bool), listed.size = ops.size → ∀ k, listed.getD k false = true → k < ops.size := fun listed hs k hk => by
    apply Classical.byContradiction
    intro hn
    rw [Array.getD_eq_getD_getElem?, Array.getElem?_eq_none (by omega)] at hk
    simp at hk
  have hgd : ∀ (listed : Array Bool), listed.size = ops.size → ∀ k, k < ops.size → listed.getD k true = listed.getD k false := fun listed hs k hk => by
    rw [Array.getD_eq_getD_getElem?, Array.getD_eq_getD_getElem?, Array.getElem?_eq_getElem (by omega)]; rfl
  -- all listed, or one is ready
  have hall : ∀ (listed : Array Bool), listed.size = ops.size → Region.ready .any ops listed = [] → ∀ k, k < ops.size → listed.getD k false = true := by
    intro listed hs hr k
    induction k using Nat.strongRecOn with
    | _ k ih =>
      intro hk
      cases hx : listed.getD k false with
      | true => rfl
      | false =>
        have : k ∈ Region.ready .any ops listed := ready_of (o := ops[k]) (by simp [hk]) (by rw [hgd listed hs k hk, hx]) fun e he hb => by
          have hlt := (orderOk_spec ho).2 k ops[k] (by simp [hk]) e he hb
          exact ih e.on hlt (by omega)
        rw [hr] at this; cases this
  have done : ∀ (listed : Array Bool) (G : Gh) (a : Act) (w : World) (e : St), listed.size = ops.size → runSel c ops (fun i => listed.getD i false) (List.range ops.size) st0 = some e → Rel P S w0 c0 c.X G e a w → Region.ready .any ops listed = [] → Q .normal a w := by
    intro listed G a w e hs he hrel hr
    have hc := sel_congr (c := c) (ops := ops) (D := fun i => listed.getD i false) (D' := fun _ => true) (List.range ops.size) st0 (fun k hk => hall listed hs hr k (List.mem_range.1 hk))
    rw [hc, hf] at he
    cases he
    exact hQ G a w hrel
  intro fuel
  induction fuel with
  | zero =>
    intro listed G a w e hs hu hE he hrel
    have hr : Region.ready .any ops listed = [] := by
      apply List.eq_nil_iff_forall_not_mem.2
      intro i hi
      obtain ⟨h1, h2, _⟩ := ready_spec hi
      rw [hgd listed hs i h1] at h2
      have : i ∈ (List.range ops.size).filter fun i => !listed.getD i false := List.mem_filter.2 ⟨List.mem_range.2 h1, by simp [h2]⟩
      have := List.length_pos_of_mem this
      simp only [unlisted] at hu
      omega
    exact ⟨hr, done listed G a w e hs he hrel hr⟩
  | succ fuel ih =>
    intro listed G a w e hs hu hE he hrel
    refine ⟨done listed G a w e hs he hrel, fun i hi => ?_⟩
    obtain ⟨h1, h2, h3⟩ := ready_spec hi
    have h2' : listed.getD i false = false := by rw [← hgd listed hs i h1]; exact h2
    have hset : ∀ k, (listed.setIfInBounds i true).getD k false = (listed.getD k false || k == i) := by
      intro k
      rw [Array.getD_eq_getD_getElem?, Array.getD_eq_getD_getElem?, Array.getElem?_setIfInBounds]
      by_cases hk : i = k
      · subst hk; simp [hs, h1]
      · have : (k == i) = false := by simpa using fun e => hk e.symm
        rw [if_neg hk, this, Bool.or_false]
    have hE' : Edged ops (fun k => listed.getD k false || k == i) := by
      intro k o hk hok e' he' hb
      simp only [Bool.or_eq_true, beq_iff_eq] at hk
      rcases hk with hk | rfl
      · simp [hE k o hk hok e' he' hb]
      · simp [h3 o hok e' he' hb]
    have hC := closed_of_edged ho hE (hin listed hs)
    have hC' := closed_of_edged ho hE' (fun k hk => by
      simp only [Bool.or_eq_true, beq_iff_eq] at hk
      rcases hk with hk | rfl
      · exact hin listed hs k hk
      · exact h1)
    obtain ⟨e0, e', he0, he', hst⟩ := sel_more hC h2' hC' ops.size h1 f hf
    rw [he] at he0
    cases he0
    obtain ⟨o, ws, hoi, hstep, hw, rfl⟩ := stepAt_spec hst
    have hdo : ∀ d, o.dst = some d → d ∉ c.X := by
      intro d hdst
      have := List.all_eq_true.1 hd o (by have := Array.mem_of_getElem? hoi; simpa using this)
      rw [hdst] at this
      simpa using this
    refine step_sound hfx hT hσ (Sees.masked o e) hrel hoi hdo hstep fun G' a' w' h' => ?_
    refine ih (listed.setIfInBounds i true) G' a' w' (puts e ws) (by simp [hs]) ?_ (fun k o' hk hok e'' he'' hb => (hset _).trans (hE' k o' ((hset k).symm.trans hk) hok e'' he'' hb)) ?_ h'
    · have : unlisted ops.size (listed.setIfInBounds i true) + 1 ≤ unlisted ops.size listed := by
        simp only [unlisted]
        exact filter_less (p := fun k => !listed.getD k false) i (fun k => by rw [hset]; cases listed.getD k false <;> cases (k == i) <;> rfl) (by rw [h2']; rfl) _ List.nodup_range (List.mem_range.2 h1)
      omega
    · have hc := sel_congr (c := c) (ops := ops) (D := fun k => (listed.setIfInBounds i true).getD k false) (D' := fun k => listed.getD k false || k == i) (List.range ops.size) st0 (fun k _ => hset k)
      rw [hc]; exact he'

theorem Rel.drawn (h : Rel P S w0 c0 X G st a w) : Rel P S w0 c0 X G st a { w with drawn := w.drawn + 1 } := by
  have hadv : Adv G w G { w with drawn := w.drawn + 1 } (fun _ => False) := ⟨Nat.le_refl _, fun b o _ ho => ⟨rfl, ho⟩, fun b loc _ ho _ => ⟨ho, rfl, rfl⟩⟩
  exact ⟨h.len, h.defs, fun t => (h.slot t).adv hadv (fun _ e => e) (fun _ _ => rfl), h.xs, ⟨h.fr.os, h.fr.tape, h.fr.output, h.fr.size, h.fr.block⟩, h.old, h.fixX, h.fix⟩
end
end Go.Proofs.Ytbgfgadekmemeaa.Ev
