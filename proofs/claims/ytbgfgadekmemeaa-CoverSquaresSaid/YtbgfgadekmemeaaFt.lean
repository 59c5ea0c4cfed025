/- An oracle that runs the rounds of a function's loops, for arguments that are known; and the contract that a function's own evaluation is. Conditions: none; general lemmas. -/
import Derived.Test.YtbgfgadekmemeaaFr
namespace Go.Proofs.Ytbgfgadekmemeaa.Ev
open Go.RowKit
set_option linter.unusedVariables false

section
variable {R : Type}
theorem runL_cps (c : Ctx) (ops : Array Oper) : ∀ (os : List Oper) (st : St) (K : St → Option R), runL c ops os st K = (runL c ops os st some).bind K
  | [], st, K => rfl
  | o :: os, st, K => by
    simp only [runL, refineO_eq, stepL]
    rw [step_cps, step_cps ops o fun ws => runL c ops os (puts st ws) some]
    cases step c ops (getS st) o some with
    | none => rfl
    | some ws => simp only [Option.bind_some]; exact runL_cps c ops os _ K
theorem runD_cps (c : Ctx) (ops : Array Oper) : ∀ (os : List Oper) (st : St) (K : St → Option R), runD c ops os st K = (runD c ops os st some).bind K
  | [], st, K => rfl
  | o :: os, st, K => by
    simp only [runD, refineO_eq, stepD]
    rw [step_cps, step_cps ops o fun ws => bif okWrites ops o ws then runD c ops os (puts st ws) some else none]
    cases step c ops (masked ops o st) o some with
    | none => rfl
    | some ws =>
      simp only [Option.bind_some]
      cases okWrites ops o ws
      · rfl
      · exact runD_cps c ops os _ K
theorem regionK_mono {e : Env} {ops : Array Oper} {d : Bool} {st : St} {K K' : St → Option R} {r : R} (h : regionK e ops d st K = some r) (hK : ∀ s r, K s = some r → K' s = some r) : regionK e ops d st K' = some r := by
  have key : ∀ (x : Option St), (x.bind fun s => K (s.map unref)) = some r → (x.bind fun s => K' (s.map unref)) = some r := by
    intro x h
    cases x with
    | none => cases h
    | some s => exact hK _ _ h
  unfold regionK at h ⊢
  cases hd : dstsOk (e.ctx ops).X ops
  · rw [hd] at h; cases h
  · rw [hd] at h
    simp only [cond_true] at h ⊢
    cases d
    · simp only at h ⊢
      rw [runL_cps] at h ⊢
      exact key _ h
    · simp only at h ⊢
      cases ho : orderOk ops
      · rw [ho] at h; cases h
      · rw [ho] at h
        simp only [cond_true] at h ⊢
        rw [runD_cps] at h ⊢
        exact key _ h
end

abbrev Lp := Nat → St → (R : Type) → (Ex → St → Option R) → Option R
def withLp (e : Env) (p : Lp) : Env := { e with lp := p }
def LpLe (p q : Lp) : Prop := ∀ id st (R : Type) (K K' : Ex → St → Option R) (r : R), p id st R K = some r → (∀ x s r, K x s = some r → K' x s = some r) → q id st R K' = some r
theorem evalCode_mono (e : Env) {p q : Lp} (hpq : LpLe p q) {R : Type} : ∀ (cd : Code) (cur : Nat) (st : St) (K K' : Ex → St → Option R) (r : R), evalCode (withLp e p) cd cur st K = some r → (∀ x s r, K x s = some r → K' x s = some r) → evalCode (withLp e q) cd cur st K' = some r := by
  intro cd
  induction cd with
  | region id ops d =>
    intro cur st K K' r h hK
    exact regionK_mono (e := withLp e p) h (fun s r hs => hK _ _ _ hs)
  | seq a b iha ihb =>
    intro cur st K K' r h hK
    refine iha cur st _ _ r h fun x s r hs => ?_
    cases x with
    | normal => exact ihb cur s K K' r hs hK
    | exit i => exact hK _ _ _ hs
    | ret => exact hK _ _ _ hs
  | cond o a b iha ihb =>
    intro cur st K K' r h hK
    have key : ∀ s, (match opBool (getS s) o with
        | some t => bif t then evalCode (withLp e p) a cur s K else evalCode (withLp e p) b cur s K
        | none => none) = some r → (match opBool (getS s) o with
        | some t => bif t then evalCode (withLp e q) a cur s K' else evalCode (withLp e q) b cur s K'
        | none => none) = some r := by
      intro s hs
      cases ho : opBool (getS s) o with
      | none => rw [ho] at hs; cases hs
      | some t =>
        rw [ho] at hs
        simp only at hs ⊢
        cases t
        · exact ihb cur s K K' r hs hK
        · exact iha cur s K K' r hs hK
    cases o with
    | tmp t =>
      simp only [evalCode, refine_eq] at h ⊢
      exact key _ h
    | _ => exact key st h
  | block id a iha =>
    intro cur st K K' r h hK
    refine iha id st _ _ r h fun x s r hs => ?_
    cases x with
    | normal => exact hK _ _ _ hs
    | ret => exact hK _ _ _ hs
    | exit i =>
      simp only at hs ⊢
      by_cases hi : i = id
      · rw [if_pos hi] at hs ⊢; exact hK _ _ _ hs
      · rw [if_neg hi] at hs ⊢; exact hK _ _ _ hs
  | loop a iha => intro cur st K K' r h hK; exact hpq _ _ _ _ _ _ h hK
  | skip => intro cur st K K' r h hK; exact hK _ _ _ h
  | exit id => intro cur st K K' r h hK; exact hK _ _ _ h
  | ret => intro cur st K K' r h hK; exact hK _ _ _ h
  | _ => intro cur st K K' r h hK; cases h

def iter (f : St → Option (Ex × St)) : Nat → St → Option (Ex × St)
  | 0, _ => none
  | n + 1, st => match f st with
    | some (.normal, s) => iter f n s
    | r => r
def look : List (Nat × Code) → Nat → Code
  | [], _ => .skip
  | (i, a) :: l, id => if i = id then a else look l id
def lpRun (e : Env) (l : List (Nat × Code)) (fuel : Nat) : Nat → Lp
  | 0 => fun _ _ _ _ => none
  | d + 1 => fun id st _ K => match iter (fun s => evalCode (withLp e (lpRun e l fuel d)) (look l id) id s (kp e id)) fuel st with
    | some (x, s) => K x s
    | none => none
/-- The surroundings in which loops are run: at most so many rounds, so deep. -/
def runE (e : Env) (fn : Func) (fuel d : Nat) : Env := withLp e (lpRun e (loopsOf fn) fuel d)

theorem iter_mono {f g : St → Option (Ex × St)} (h : ∀ s r, f s = some r → g s = some r) : ∀ (n : Nat) (st : St) (r : Ex × St), iter f n st = some r → iter g n st = some r
  | 0, _, _, hr => by cases hr
  | n + 1, st, r, hr => by
    unfold iter at hr ⊢
    cases hf : f st with
    | none => rw [hf] at hr; cases hr
    | some y =>
      rw [h _ _ hf]
      rw [hf] at hr
      obtain ⟨x, s⟩ := y
      cases x with
      | normal => exact iter_mono h n s r hr
      | exit i => exact hr
      | ret => exact hr
theorem lpRun_le (e : Env) (l : List (Nat × Code)) (fuel : Nat) : ∀ d, LpLe (lpRun e l fuel d) (lpRun e l fuel (d + 1))
  | 0 => fun id st R K K' r h _ => by cases h
  | d + 1 => fun id st R K K' r h hK => by
    unfold lpRun at h ⊢
    cases hi : iter (fun s => evalCode (withLp e (lpRun e l fuel d)) (look l id) id s (kp e id)) fuel st with
    | none => rw [hi] at h; cases h
    | some y =>
      rw [hi] at h
      have := iter_mono (g := fun s => evalCode (withLp e (lpRun e l fuel (d + 1))) (look l id) id s (kp e id)) (fun s r hr => evalCode_mono e (lpRun_le e l fuel d) _ _ _ _ _ _ hr fun _ _ _ h => h) fuel st y hi
      rw [this]
      exact hK _ _ _ h
theorem runs_iter {e : Env} {p : Lp} {id : Nat} {a : Code} : ∀ (n : Nat) (st : St) (x : Ex) (s : St), iter (fun s => evalCode (withLp e p) a id s (kp e id)) n st = some (x, s) → Runs (withLp e p) id a st x s
  | 0, _, _, _, h => by cases h
  | n + 1, st, x, s, h => by
    unfold iter at h
    cases hf : evalCode (withLp e p) a id st (kp e id) with
    | none => simp only [hf] at h; cases h
    | some y =>
      simp only [hf] at h
      obtain ⟨x1, s1⟩ := y
      cases x1 with
      | normal => exact .step hf (runs_iter n s1 x s h)
      | exit i => cases h; exact .stop hf (by simp)
      | ret => cases h; exact .stop hf (by simp)
theorem loopOk_run (e : Env) (l : List (Nat × Code)) (fuel : Nat) : ∀ (d id : Nat), LoopOk (withLp e (lpRun e l fuel d)) id (look l id)
  | 0, id => fun st R K r h => by cases h
  | d + 1, id => fun st R K r h => by
    have h' : (match iter (fun s => evalCode (withLp e (lpRun e l fuel d)) (look l id) id s (kp e id)) fuel (keep (e.lv id) st) with
      | some (x, s) => K x s
      | none => none) = some r := h
    cases hi : iter (fun s => evalCode (withLp e (lpRun e l fuel d)) (look l id) id s (kp e id)) fuel (keep (e.lv id) st) with
    | none => rw [hi] at h'; cases h'
    | some y =>
      rw [hi] at h'
      have := iter_mono (g := fun s => evalCode (withLp e (lpRun e l fuel (d + 1))) (look l id) id s (kp e id)) (fun s r hr => evalCode_mono e (lpRun_le e l fuel d) _ _ _ _ _ _ hr fun _ _ _ h => h) fuel _ y hi
      exact ⟨y.1, y.2, runs_iter fuel _ _ _ this, h'⟩
theorem look_of : ∀ (l : List (Nat × Code)), (l.map (·.1)).Nodup → ∀ p ∈ l, look l p.1 = p.2
  | [], _, p, hp => by cases hp
  | q :: l, hn, p, hp => by
    simp only [List.map_cons, List.nodup_cons] at hn
    obtain ⟨i, a⟩ := q
    rcases List.mem_cons.mp hp with h | h
    · subst h; exact if_pos rfl
    · have : i ≠ p.1 := fun e => hn.1 (List.mem_map.mpr ⟨p, h, e.symm⟩)
      rw [look, if_neg this]
      exact look_of l hn.2 p h
def noMs : List AV → Bool
  | [] => true
  | .rv _ :: l => noMs l
  | .cbox _ _ :: l => noMs l
  | _ :: _ => false
theorem noMs_ok : ∀ (l : List AV), noMs l = true → ∀ x ∈ l, tab x = none
  | [], _, x, h => by cases h
  | a :: l, h, x, hm => by
    cases a <;> first | cases h | skip
    all_goals
      rcases List.mem_cons.mp hm with e | e
      · subst e; rfl
      · exact noMs_ok l h x e
/-- A function's own evaluation, as its contract. -/
def own (e : Env) (fn : Func) : Spec := fun us => bif noMs us && decide (us.length ≤ fn.ntmps) then evalF e fn us else none
theorem meets_own {P : Program} {e : Env} (hT : ∀ t, TyOk P t (e.T t)) (hσ : ∀ f, Meets P f (e.sp f)) (hm : P.follows .mixedOrders = true) {f : FuncId} {fn : Func} (hf : P.funcs[f]? = some fn) (hname : (fn.name == "runtime.NumGoroutine") = false)
    (hn : decide ((loopsOf fn).map (·.1)).Nodup = true) (fuel d : Nat) : Meets P f (own (runE e fn fuel d) fn) := by
  refine meets_of_eval (e := runE e fn fuel d) hT hσ hm hf hname (fun p hp => ?_) fun as r fin h => ?_
  · have := loopOk_run e (loopsOf fn) fuel d p.1
    rw [look_of _ (of_decide_eq_true hn) p hp] at this
    exact this
  · unfold own at h
    cases hc : (noMs as && decide (as.length ≤ fn.ntmps))
    · rw [hc] at h; cases h
    · rw [hc] at h
      simp only [Bool.and_eq_true, decide_eq_true_eq] at hc
      exact ⟨noMs_ok _ hc.1, hc.2, h⟩
/-! A chain of functions, each run in the surroundings of those behind it. -/
def ownE (T : TypeId → TK) (l : List (FuncId × Spec)) (fn : Func) : Env := { T := T, σ := specsOf l, made := [], fz := [], lv := fun _ => List.range fn.ntmps, lx := fun _ => List.range fn.ntmps, lp := fun _ _ _ _ => none }
def ownS (T : TypeId → TK) (l : List (FuncId × Spec)) (fn : Func) : Spec := own (runE (ownE T l fn) fn 100 4) fn
def chain (T : TypeId → TK) (base : List (FuncId × Spec)) : List (FuncId × Func) → List (FuncId × Spec)
  | [] => base
  | (n, fn) :: l => (n, ownS T (chain T base l) fn) :: chain T base l
def chainB (P : Program) : List (FuncId × Func) → Prop
  | [] => True
  | (n, fn) :: l => (P.funcs[n]? = some fn ∧ (fn.name == "runtime.NumGoroutine") = false ∧ decide ((loopsOf fn).map (·.1)).Nodup = true) ∧ chainB P l
theorem chain_ok {P : Program} {T : TypeId → TK} (hT : ∀ t, TyOk P t (T t)) (hm : P.follows .mixedOrders = true) {base : List (FuncId × Spec)} (hb : ∀ f, Meets P f (specsOf base f)) : ∀ (l : List (FuncId × Func)), chainB P l → ∀ f, Meets P f (specsOf (chain T base l) f)
  | [], _ => hb
  | (n, fn) :: l, h => specs_cons (meets_own (e := ownE T (chain T base l) fn) hT (chain_ok hT hm hb l h.2) hm h.1.1 h.1.2.1 h.1.2.2 100 4) (chain_ok hT hm hb l h.2)
end Go.Proofs.Ytbgfgadekmemeaa.Ev
