/- The evaluator is sound: guards, and regions in their listed order. Conditions: a table of types that is so, contracts that are met. -/
import Derived.Test.YtbgfgadekmemeaaFn
namespace Go.Proofs.Ytbgfgadekmemeaa.Ev
open Go.RowKit
set_option linter.unusedVariables false
set_option linter.unusedSimpArgs false
set_option linter.unusedSectionVars false

section
variable {R : Type} {c : Ctx} {g : Nat → AV}

theorem bind_ite' {A B : Type} {p : Prop} [Decidable p] (x y : Option A) (K : A → Option B) : (if p then x else y).bind K = if p then x.bind K else y.bind K := by split <;> rfl
theorem bind_cond' {A B : Type} (b : Bool) (x y : Option A) (K : A → Option B) : (bif b then x else y).bind K = bif b then x.bind K else y.bind K := by cases b <;> rfl

theorem intOp_cps (op : BinOp) (k : IntKind) (x y : Int) {A : Type} (f : Sc → A) (K : A → Option R) : intOp op k x y (fun s => K (f s)) = (intOp op k x y fun s => some (f s)).bind K := by
  unfold intOp
  cases op <;> simp only [Option.bind_some] <;> first | rfl | (cases decide (y = 0) <;> rfl)

theorem shOp_cps (op : BinOp) (k : IntKind) (x y : Int) {A : Type} (f : Sc → A) (K : A → Option R) : shOp op k x y (fun s => K (f s)) = (shOp op k x y fun s => some (f s)).bind K := by
  unfold shOp
  cases decide (y < 0)
  · cases op <;> rfl
  · rfl

theorem copy_cps (take : Bool) (ty : TK) (d : Nat) (x : Operand) (K : List (Nat × AV) → Option R) : copy c g take ty d x K = (copy c g take ty d x some).bind K := by
  unfold copy
  cases x with
  | tmp s =>
    by_cases hsd : s = d
    · simp only [if_pos hsd]; rfl
    · simp only [if_neg hsd]
      cases g s with
      | rv r => cases hb : take && r.isOwn <;> simp [hb]
      | tup l => rfl
      | ms xs => cases c.fz.contains d <;> cases take && c.made.contains d <;> cases c.X.contains s <;> rfl
      | cms m p F xs => cases c.X.contains s <;> rfl
      | _ => rfl
  | const v => simp only; cases constSc ty v <;> rfl
  | _ => rfl

theorem append_cps (d : Nat) (x y : Operand) (t : TypeId) (K : List (Nat × AV) → Option R) : appendSem c g d x y t K = (appendSem c g d x y t some).bind K := by
  unfold appendSem
  split
  · split
    · split
      · split
        · simp only [bind_cond', Option.bind_some, Option.bind_none]
        · rfl
      · rfl
    · rfl
  · rfl

set_option maxHeartbeats 4000000 in
theorem callF_cps (f : FuncId) (xs : List Operand) (ts : List TypeId) (d : Nat) (K : List (Nat × AV) → Option R) : callF c g f xs ts d K = (callF c g f xs ts d some).bind K := by
  unfold callF
  split
  · split
    · simp only [bind_cond', bind_ite', Option.bind_some, Option.bind_none]
    · rfl
  · rfl
theorem boxT_cps (d : Nat) (x : Operand) (K : List (Nat × AV) → Option R) : boxT c g d x K = (boxT c g d x some).bind K := by
  unfold boxT
  split
  · split
    · simp only [bind_cond', Option.bind_some, Option.bind_none]
    · rfl
  · rfl
theorem loadT_cps (t : TypeId) (d : Nat) (x : Operand) (K : List (Nat × AV) → Option R) : loadT c g t d x K = (loadT c g t d x some).bind K := by
  unfold loadT
  split
  · split
    · simp only [bind_cond', Option.bind_some, Option.bind_none]
    · simp only [bind_cond', Option.bind_some, Option.bind_none]
    · split
      · split
        · simp only [bind_cond', Option.bind_some, Option.bind_none]
        · rfl
      · rfl
    · rfl
  · rfl
theorem storeT_cps (t : TypeId) (x y : Operand) (K : List (Nat × AV) → Option R) : storeT c g t x y K = (storeT c g t x y some).bind K := by
  unfold storeT
  split
  · split
    · split
      · split
        · simp only [bind_cond', Option.bind_some, Option.bind_none]
        · rfl
      · rfl
    · rfl
  · rfl
theorem indexT_cps (d : Nat) (x : Operand) (i : Int) (K : List (Nat × AV) → Option R) : indexT g d x i K = (indexT g d x i some).bind K := by
  unfold indexT
  split
  · split
    · split
      · simp only [bind_cond', Option.bind_some, Option.bind_none]
      · simp only [bind_cond', Option.bind_some, Option.bind_none]
      · rfl
    · rfl
  · rfl
theorem makeFuncT_cps (f : FuncId) (cap : List Operand) (d : Nat) (K : List (Nat × AV) → Option R) : makeFuncT c g f cap d K = (makeFuncT c g f cap d some).bind K := by
  unfold makeFuncT
  split
  · rw [bind_cond', Option.bind_none]
    congr 1
    split
    · rw [bind_cond', Option.bind_none]
      congr 1
      split <;> rfl
    · rfl
  · rfl
theorem callT_cps (s : Nat) (m : TM) (p : Nat) (F : List Value → List Int → Option (List Int)) (xs : List Int) (as : List Operand) (d : Nat) (K : List (Nat × AV) → Option R) : callT g s m p F xs as d K = (callT g s m p F xs as d some).bind K := by
  unfold callT
  split
  · split
    · simp only [bind_cond', Option.bind_some, Option.bind_none]
    · rfl
  · rfl
theorem sem_cps (o : Oper) (K : List (Nat × AV) → Option R) : sem c g o K = (sem c g o some).bind K := by
  obtain ⟨dst, op, type, pos, after, guard⟩ := o
  cases dst with
  | none =>
    cases op with
    | store t x y =>
      simp only [sem]
      split
      · split
        · simp only [bind_ite', Option.bind_some, Option.bind_none]
        · rfl
        · rfl
        · simp only [bind_ite', Option.bind_some, Option.bind_none]
        · simp only [bind_ite', Option.bind_some, Option.bind_none]
        · rfl
      · split
        · rfl
        · rfl
        · simp only [bind_ite', Option.bind_some, Option.bind_none]
        · rfl
      · split
        · simp only [bind_ite', Option.bind_some, Option.bind_none]
        · rfl
      · exact storeT_cps _ _ _ K
      · rfl
    | makeFunc fn x y => cases fn <;> rfl
    | slice t x lo hi mx => cases mx <;> rfl
    | _ => rfl
  | some d =>
    cases op with
    | move x => exact copy_cps _ _ _ _ _
    | assign x => exact copy_cps _ _ _ _ _
    | pick b x y =>
      simp only [sem]
      cases opBool g b with
      | none => rfl
      | some t => cases t <;> exact copy_cps _ _ _ _ _
    | binOp op t x y yt =>
      simp only [sem]
      split
      · split
        · exact shOp_cps _ _ _ _ _ K
        · exact shOp_cps _ _ _ _ _ K
        · simp only [bind_ite', Option.bind_none]
          split
          · exact intOp_cps _ _ _ _ _ K
          · rfl
      · split <;> rfl
      · split
        · split
          · split <;> rfl
          · rfl
        · split
          · split <;> rfl
          · rfl
        · rfl
      · rfl
    | call cl =>
      obtain ⟨callee, xs, ts⟩ := cl
      simp only [sem]
      split
      · split
        · split
          · rfl
          · rfl
          · rfl
          · split <;> rfl
          · rfl
        · rfl
      · split
        · split <;> rfl
        · rfl
      · split
        · split <;> rfl
        · rfl
      · split
        · simp only [bind_ite', Option.bind_none]
          split
          · exact append_cps _ _ _ _ _
          · rfl
        · rfl
      · exact callF_cps _ _ _ _ K
      · split
        · exact callF_cps _ _ _ _ K
        · split
          · exact callT_cps _ _ _ _ _ _ _ K
          · rfl
        · split
          · split
            · split
              · simp only [bind_cond', Option.bind_some, Option.bind_none]
              · simp only [bind_cond', Option.bind_some, Option.bind_none]
              · rfl
            · rfl
          · rfl
        · rfl
      · rfl
    | makeFunc fn first captured =>
      cases fn with
      | func f =>
        simp only [sem]
        split
        · rw [bind_cond', ← makeFuncT_cps]
          congr 1
          split
          · simp only [bind_ite', Option.bind_some, Option.bind_none]
          · rfl
        · rfl
      | _ => rfl
    | slice t x lo hi mx =>
      cases mx with
      | none =>
        simp only [sem]
        split
        · split
          · split
            · simp only [bind_cond', Option.bind_some, Option.bind_none]
            · rfl
          · rfl
        · rfl
      | some m => rfl
    | box t x =>
      simp only [sem]
      split
      · simp only [bind_ite', Option.bind_some, Option.bind_none]
      · rfl
      · rfl
      · simp only [bind_cond', Option.bind_some]
      · exact boxT_cps _ _ K
      · rfl
    | load t x =>
      simp only [sem]
      split
      · split
        · simp only [bind_ite', Option.bind_some, Option.bind_none]
        · rfl
        · split
          · simp only [bind_cond', Option.bind_some]
          · rfl
      · split
        · split <;> rfl
        · exact loadT_cps _ _ _ K
    | indexAddr t x y =>
      simp only [sem]
      split
      · simp only [bind_ite', bind_cond', Option.bind_some, Option.bind_none]
      · exact indexT_cps _ _ _ K
      · rfl
    | _ =>
      simp only [sem]
      repeat' (first | rfl | (simp only [bind_ite', bind_cond', Option.bind_some, Option.bind_none]; done) | split)

theorem skipped_cps (o : Oper) (K : List (Nat × AV) → Option R) : skipped o K = (skipped o some).bind K := by
  unfold skipped; cases o.dst <;> rfl

theorem step_cps (ops : Array Oper) (o : Oper) (K : List (Nat × AV) → Option R) : step c ops g o K = (step c ops g o some).bind K := by
  unfold step
  split
  · exact sem_cps o K
  · split
    · split
      · rename_i b _
        split
        · rw [bind_cond', ← sem_cps, ← skipped_cps]
        · rw [bind_cond', ← sem_cps, ← skipped_cps]
      · exact skipped_cps o K
      · rfl
    · rfl
end

section
variable {P : Program} {S : Nat → Prop} {w0 w w' : World} {c0 : C0} {X : List Nat} {G G' : Gh} {st : St} {a : Act} {E : Nat × Nat → Prop}
variable {c : Ctx} {g : Nat → AV}

theorem getD_of_slot {t : Nat} {b : Bool} (h : a.tmps.getD t undef = .bool b) : a.tmps[t]? = some (.bool b) := by
  rw [Array.getD_eq_getD_getElem?] at h
  cases hx : a.tmps[t]? with
  | none => rw [hx] at h; simp [undef] at h
  | some v => rw [hx] at h; simpa using h

theorem skipped_sound (h : Rel P S w0 c0 c.X G st a w) {o : Oper} {ws : List (Nat × AV)} (hd : ∀ d, o.dst = some d → d ∉ c.X) (e : skipped o some = some ws) : Rel P S w0 c0 c.X G (puts st ws) (a.put o.dst undef) w := by
  unfold skipped at e
  cases hdst : o.dst with
  | none => rw [hdst] at e; cases e; exact h
  | some d =>
    rw [hdst] at e
    cases e
    exact h.pure (hd d hdst) (by rintro s e; cases e) rfl

theorem step_sound (hfx : c0.fx = c.fx) (hT : ∀ t, TyOk P t (c.T t)) (hσ : ∀ f, Meets P f (c.sp f)) (hg : Sees st g) (h : Rel P S w0 c0 c.X G st a w) {ops : Array Oper} {i : Nat} {o : Oper} {ws : List (Nat × AV)} {Q : Exit → Act → World → Prop} {K : Act → World → Prop}
    (hi : ops[i]? = some o) (hd : ∀ d, o.dst = some d → d ∉ c.X) (e : step c ops g o some = some ws) (hK : ∀ G' a' w', Rel P S w0 c0 c.X G' (puts st ws) a' w' → K a' w') : wpOp P ops Q i K a w := by
  have go : Region.wanted o (yielded ops a.tmps) = true → sem c g o some = some ws → wpOp P ops Q i K a w := by
    intro hw hs
    unfold wpOp
    simp only [hi, hw, if_true]
    exact .inl (Oper.wp_mono (fun a' w' ⟨G', hr⟩ => hK G' a' w' hr) (sem_sound hfx hT hσ hg h hd hs).wp)
  have no : Region.wanted o (yielded ops a.tmps) = false → skipped o some = some ws → wpOp P ops Q i K a w := by
    intro hw hs
    unfold wpOp
    simp only [hi, hw, Bool.false_eq_true, if_false]
    exact hK G _ _ (skipped_sound h hd hs)
  unfold step at e
  split at e
  · rename_i hgd
    exact go (by simp [Region.wanted, hgd]) e
  · rename_i j want hgd
    split at e
    · rename_i t ht
      have hy : ∀ b, a.tmps.getD t undef = .bool b → yielded ops a.tmps j = some b := fun b hb => by
        unfold yielded
        rw [ht]
        simp only [Option.bind_some, getD_of_slot hb]
      split at e
      · rename_i b hgt
        have hs := hg.rel h t
        rw [hgt] at hs
        have hyb := hy b hs
        split at e
        · cases b with
          | true => exact go (by simp [Region.wanted, hgd, hyb]) e
          | false => exact no (by simp [Region.wanted, hgd, hyb]) e
        · cases b with
          | true => exact no (by simp [Region.wanted, hgd, hyb]) e
          | false => exact go (by simp [Region.wanted, hgd, hyb]) e
      · rename_i hgt
        have hs := hg.rel h t
        rw [hgt] at hs
        have hs' : a.tmps.getD t undef = undef := hs
        have hyn : yielded ops a.tmps j = none := by
          unfold yielded
          rw [ht]
          simp only [Option.bind_some]
          cases hx : a.tmps[t]? with
          | none => rfl
          | some v =>
            rw [Array.getD_eq_getD_getElem?, hx] at hs'
            simp only [Option.getD_some] at hs'
            rw [hs']
            rfl
        exact no (by simp [Region.wanted, hgd, hyn]) e
      · cases e
    · cases e

theorem refine_eq (t : Nat) (st : St) {R : Type} (K : St → Option R) : refine t st K = K st := by
  unfold refine
  split
  · rename_i b hb
    have hlt : t < st.length := by
      apply Classical.byContradiction
      intro hn
      have : getS st t = .unk := by simp [getS, List.getD_eq_getElem?_getD, List.getElem?_eq_none (Nat.le_of_not_lt hn)]
      rw [this] at hb; cases hb
    have hst : st.set t (.rv (.sc (.bool b))) = st := by
      apply List.ext_getElem?
      intro i
      rw [List.getElem?_set]
      by_cases hi : t = i
      · subst hi
        rw [if_pos rfl, if_pos hlt, ← hb]
        simp [getS, List.getD_eq_getElem?_getD, hlt]
      · rw [if_neg hi]
    cases b <;> simp only [cond_true, cond_false, hst]
  · rfl

theorem refineO_eq (ops : Array Oper) (o : Oper) (st : St) {R : Type} (K : St → Option R) : refineO ops o st K = K st := by
  unfold refineO
  split
  · split
    · exact refine_eq _ _ _
    · rfl
  · split
    · exact refine_eq _ _ _
    · rfl

theorem Sees.self (st : St) : Sees st (getS st) := fun t => .inr rfl

theorem runL_sound (hfx : c0.fx = c.fx) (hT : ∀ t, TyOk P t (c.T t)) (hσ : ∀ f, Meets P f (c.sp f)) {ops : Array Oper} (hd : dstsOk c.X ops = true) {R : Type} {K : St → Option R} {r : R} {Q : Exit → Act → World → Prop}
    (hQ : ∀ G st a w, Rel P S w0 c0 c.X G st a w → K st = some r → Q .normal a w) :
    ∀ (os : List Oper) (n : Nat) (G : Gh) (st : St) (a : Act) (w : World), ops.toList.drop n = os → Rel P S w0 c0 c.X G st a w → runL c ops os st K = some r → wpOps P ops Q (List.range' n os.length) a w := by
  intro os
  induction os with
  | nil => intro n G st a w _ h e; exact hQ G st a w h e
  | cons o os ih =>
    intro n G st a w hn h e
    simp only [runL, refineO_eq, stepL] at e
    rw [step_cps] at e
    cases hs : step c ops (getS st) o some with
    | none => rw [hs] at e; cases e
    | some ws =>
      rw [hs] at e
      have hi : ops[n]? = some o := by
        have := congrArg (·[0]?) hn
        simpa using this
      have hn' : ops.toList.drop (n + 1) = os := by
        have := congrArg List.tail hn
        simpa [List.tail_drop] using this
      have hdo : ∀ d, o.dst = some d → d ∉ c.X := by
        intro d hdst
        have := List.all_eq_true.1 hd o (by have := Array.mem_of_getElem? hi; simpa using this)
        rw [hdst] at this
        simpa using this
      rw [List.length_cons, List.range'_succ, wpOps_cons]
      exact step_sound hfx hT hσ (Sees.self st) h hi hdo hs fun G' a' w' h' => ih (n + 1) G' _ a' w' hn' h' e
end
end Go.Proofs.Ytbgfgadekmemeaa.Ev
