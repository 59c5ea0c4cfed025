/- Shapes of contracts for this program, what is asked ahead of a function's evaluation, and the plain functions of masks. Conditions: none. -/
import Derived.Test.YtbgfgadekmemeaaKa
import Derived.Test.YtbgfgadekmemeaaFt
namespace Go.Proofs.Ytbgfgadekmemeaa.Ev
open Go.Proofs
set_option linter.unusedVariables false

/-- A contract: what it asks for, and what it answers. -/
abbrev Entry := FuncId × (List AV → Bool) × Spec
def sgOf : List Entry → Specs
  | [], _ => fun _ => none
  | (f, _, s) :: l, g => if g = f then s else sgOf l g
def psOf : List Entry → FuncId → List AV → Bool
  | [], _ => fun _ => true
  | (f, p, _) :: l, g => if g = f then p else psOf l g
def EG (l : List Entry) : Env := { T := T, σ := sgOf l, ψ := psOf l, made := [], fz := [], lv := fun _ => [], lx := fun _ => [], lp := fun _ _ _ _ => none }
def gate (p : List AV → Bool) (s : Spec) : Spec := fun us => bif p us then s us else none
theorem eg_nil : ∀ f, Meets Try.prog f ((EG []).sp f) := fun f us r fin h => by cases h
theorem eg_cons {f : FuncId} {p : List AV → Bool} {s : Spec} {l : List Entry} (h : Meets Try.prog f (gate p s)) (hl : ∀ g, Meets Try.prog g ((EG l).sp g)) : ∀ g, Meets Try.prog g ((EG ((f, p, s) :: l)).sp g) := by
  intro g us r fin hs
  by_cases hg : g = f
  · subst hg
    refine h us r fin ?_
    have : (bif (if g = g then p else psOf l g) us then (if g = g then s else sgOf l g) us else none) = some (r, fin) := hs
    rw [if_pos rfl, if_pos rfl] at this
    exact this
  · refine hl g us r fin ?_
    have : (bif (if g = f then p else psOf l g) us then (if g = f then s else sgOf l g) us else none) = some (r, fin) := hs
    rw [if_neg hg, if_neg hg] at this
    exact this

section
variable {e : Env} {n : FuncId} {fn : Func}
/-- What is asked of a function ahead of its evaluation. -/
structure Ready (e : Env) (n : FuncId) (fn : Func) (k : Nat) : Prop where
  hT : ∀ t, TyOk Try.prog t (e.T t)
  hσ : ∀ f, Meets Try.prog f (e.sp f)
  hf : Try.prog.funcs[n]? = some fn
  hn : (fn.name == "runtime.NumGoroutine") = false
  hk : k ≤ fn.ntmps
  hl : ∀ p ∈ loopsOf fn, LoopOk e p.1 p.2
theorem rdL {e : Env} (he : e.T = T) (hl : ∀ f, Meets Try.prog f (e.sp f)) {n : FuncId} {fn : Func} {k : Nat} (hf : Try.prog.funcs[n]? = some fn) (hn : (fn.name == "runtime.NumGoroutine") = false) (hk : k ≤ fn.ntmps) {ls : List (Nat × Code)} (h0 : loopsOf fn = ls)
    (h : ∀ p ∈ ls, LoopOk e p.1 p.2) : Ready e n fn k :=
  ⟨by rw [he]; exact hT, hl, hf, hn, hk, by rw [h0]; exact h⟩
theorem rdE {l : List Entry} (hl : ∀ f, Meets Try.prog f ((EG l).sp f)) {n : FuncId} {fn : Func} {k : Nat} (hf : Try.prog.funcs[n]? = some fn) (hn : (fn.name == "runtime.NumGoroutine") = false) (hk : k ≤ fn.ntmps) (h0 : loopsOf fn = []) : Ready (EG l) n fn k :=
  rdL rfl hl hf hn hk h0 fun p hp => nomatch hp

/-- A contract by the way its arguments are read. -/
def sp {α : Type} (dec : List AV → Option α) (f : α → AV) : Spec := fun us => match dec us with
  | some a => some (f a, [])
  | none => none
def ps {α : Type} (dec : List AV → Option α) (p : α → Bool) : List AV → Bool := fun us => match dec us with
  | some a => p a
  | none => false
theorem mG {α : Type} {k : Nat} (r : Ready e n fn k) {dec : List AV → Option α} {enc : α → List AV} (hd : ∀ us a, dec us = some a → us = enc a) (hk : ∀ a, noMs (enc a) = true ∧ (enc a).length ≤ k) {p : α → Bool} {f : α → AV}
    (h : ∀ a, p a = true → evalF e fn (enc a) = some (f a, [])) : Meets Try.prog n (gate (ps dec p) (sp dec f)) :=
  meets_of_eval r.hT r.hσ hM r.hf r.hn r.hl fun us x fin hs => by
    have hs' : (bif ps dec p us then sp dec f us else none) = some (x, fin) := hs
    unfold ps sp at hs'
    cases hde : dec us with
    | none => rw [hde] at hs'; cases hs'
    | some a =>
      rw [hde] at hs'
      simp only at hs'
      cases hp : p a
      · rw [hp] at hs'; cases hs'
      · rw [hp] at hs'
        cases hs'
        rw [hd us a hde]
        exact ⟨noMs_ok _ (hk a).1, Nat.le_trans (hk a).2 r.hk, h a hp⟩
end
@[reducible] def ob (b : Bool) : Option (AV × List AV) := some (bw b, [])
@[reducible] def oi (n : Int) : Option (AV × List AV) := some (iv n, [])
@[reducible] def cq (a b c d : Int) : AV := .cbox 27 [.int .i64 a, .int .i64 b, .int .i64 c, .int .i64 d]
@[reducible] def ci (a : Int) : AV := .cbox 3 [.int .i64 a]
@[reducible] def cm (w h : Int) (l : List Int) : AV := .cbox 34 [.int .i64 w, .int .i64 h, .sl none (.ints l)]
abbrev W (n : Int) : Int := IntKind.i64.wrap n
abbrev Fn2 := List Value → Option Value

/-! ### Ways to read arguments -/
@[reducible] def nI (a : Int) : List AV := [iv a]
def dI : List AV → Option Int
  | [.rv (.sc (.int .i64 a))] => some a
  | _ => none
@[reducible] def nII (a : Int × Int) : List AV := [iv a.1, iv a.2]
def dII : List AV → Option (Int × Int)
  | [.rv (.sc (.int .i64 a)), .rv (.sc (.int .i64 b))] => some (a, b)
  | _ => none
@[reducible] def nIII (a : Int × Int × Int) : List AV := [iv a.1, iv a.2.1, iv a.2.2]
def dIII : List AV → Option (Int × Int × Int)
  | [.rv (.sc (.int .i64 a)), .rv (.sc (.int .i64 b)), .rv (.sc (.int .i64 c))] => some (a, b, c)
  | _ => none
@[reducible] def nQ (a : Q) : List AV := [qv a]
def dQ : List AV → Option Q
  | [.rv (.agg [.int .i64 a, .int .i64 b, .int .i64 c, .int .i64 d])] => some (a, b, c, d)
  | _ => none
@[reducible] def nQP (a : Q × Pt) : List AV := [qv a.1, pv a.2]
def dQP : List AV → Option (Q × Pt)
  | [.rv (.agg [.int .i64 a, .int .i64 b, .int .i64 c, .int .i64 d]), .rv (.agg [.int .i64 x, .int .i64 y])] => some ((a, b, c, d), (x, y))
  | _ => none
@[reducible] def nQQ (a : Q × Q) : List AV := [qv a.1, qv a.2]
def dQQ : List AV → Option (Q × Q)
  | [.rv (.agg [.int .i64 a, .int .i64 b, .int .i64 c, .int .i64 d]), .rv (.agg [.int .i64 x, .int .i64 y, .int .i64 z, .int .i64 t])] => some ((a, b, c, d), (x, y, z, t))
  | _ => none
@[reducible] def nM (m : Mk) : List AV := [mv m]
def dM : List AV → Option Mk
  | [.rv (.agg [.int .i64 a, .int .i64 b, .sl none (.ints l)])] => some (a, b, l)
  | _ => none
@[reducible] def nMM (m : Mk × Mk) : List AV := [mv m.1, mv m.2]
def dMM : List AV → Option (Mk × Mk)
  | [.rv (.agg [.int .i64 a, .int .i64 b, .sl none (.ints l)]), .rv (.agg [.int .i64 a', .int .i64 b', .sl none (.ints l')])] => some ((a, b, l), (a', b', l'))
  | _ => none
@[reducible] def nMI (m : Mk × Int) : List AV := [mv m.1, iv m.2]
def dMI : List AV → Option (Mk × Int)
  | [.rv (.agg [.int .i64 a, .int .i64 b, .sl none (.ints l)]), .rv (.sc (.int .i64 x))] => some ((a, b, l), x)
  | _ => none
@[reducible] def nMII (m : Mk × Int × Int) : List AV := [mv m.1, iv m.2.1, iv m.2.2]
def dMII : List AV → Option (Mk × Int × Int)
  | [.rv (.agg [.int .i64 a, .int .i64 b, .sl none (.ints l)]), .rv (.sc (.int .i64 x)), .rv (.sc (.int .i64 y))] => some ((a, b, l), x, y)
  | _ => none
@[reducible] def nMMI (m : Mk × Mk × Int) : List AV := [mv m.1, mv m.2.1, iv m.2.2]
def dMMI : List AV → Option (Mk × Mk × Int)
  | [.rv (.agg [.int .i64 a, .int .i64 b, .sl none (.ints l)]), .rv (.agg [.int .i64 a', .int .i64 b', .sl none (.ints l')]), .rv (.sc (.int .i64 x))] => some ((a, b, l), (a', b', l'), x)
  | _ => none
@[reducible] def nMIM (m : Mk × Int × Mk) : List AV := [mv m.1, iv m.2.1, mv m.2.2]
def dMIM : List AV → Option (Mk × Int × Mk)
  | [.rv (.agg [.int .i64 a, .int .i64 b, .sl none (.ints l)]), .rv (.sc (.int .i64 x)), .rv (.agg [.int .i64 a', .int .i64 b', .sl none (.ints l')])] => some ((a, b, l), x, (a', b', l'))
  | _ => none
@[reducible] def nMQ (m : Mk × Q) : List AV := [mv m.1, qv m.2]
def dMQ : List AV → Option (Mk × Q)
  | [.rv (.agg [.int .i64 a, .int .i64 b, .sl none (.ints l)]), .rv (.agg [.int .i64 x, .int .i64 y, .int .i64 z, .int .i64 t])] => some ((a, b, l), (x, y, z, t))
  | _ => none
@[reducible] def nIIQ (m : Int × Int × Q) : List AV := [iv m.1, iv m.2.1, qv m.2.2]
def dIIQ : List AV → Option (Int × Int × Q)
  | [.rv (.sc (.int .i64 a)), .rv (.sc (.int .i64 b)), .rv (.agg [.int .i64 x, .int .i64 y, .int .i64 z, .int .i64 t])] => some (a, b, (x, y, z, t))
  | _ => none
@[reducible] def nIIF (m : Int × Int × Fn2) : List AV := [iv m.1, iv m.2.1, fv m.2.2]
def dIIF : List AV → Option (Int × Int × Fn2)
  | [.rv (.sc (.int .i64 a)), .rv (.sc (.int .i64 b)), .rv (.sc (.fn F))] => some (a, b, F)
  | _ => none
/-- A closure's: two numbers, a mask and a rectangle. -/
@[reducible] def nKmq (m : Int × Int × Mk × Q) : List AV := [iv m.1, iv m.2.1, cm m.2.2.1.1 m.2.2.1.2.1 m.2.2.1.2.2, cq m.2.2.2.1 m.2.2.2.2.1 m.2.2.2.2.2.1 m.2.2.2.2.2.2]
def dKmq : List AV → Option (Int × Int × Mk × Q)
  | [.rv (.sc (.int .i64 x)), .rv (.sc (.int .i64 y)), .cbox 34 [.int .i64 a, .int .i64 b, .sl none (.ints l)], .cbox 27 [.int .i64 c, .int .i64 d, .int .i64 e, .int .i64 f]] => some (x, y, (a, b, l), (c, d, e, f))
  | _ => none
@[reducible] def nKm (m : Int × Int × Mk) : List AV := [iv m.1, iv m.2.1, cm m.2.2.1 m.2.2.2.1 m.2.2.2.2]
def dKm : List AV → Option (Int × Int × Mk)
  | [.rv (.sc (.int .i64 x)), .rv (.sc (.int .i64 y)), .cbox 34 [.int .i64 a, .int .i64 b, .sl none (.ints l)]] => some (x, y, (a, b, l))
  | _ => none
@[reducible] def nKq (m : Int × Int × Q) : List AV := [iv m.1, iv m.2.1, cq m.2.2.1 m.2.2.2.1 m.2.2.2.2.1 m.2.2.2.2.2]
def dKq : List AV → Option (Int × Int × Q)
  | [.rv (.sc (.int .i64 x)), .rv (.sc (.int .i64 y)), .cbox 27 [.int .i64 c, .int .i64 d, .int .i64 e, .int .i64 f]] => some (x, y, (c, d, e, f))
  | _ => none
@[reducible] def nKi (m : Int × Int × Int) : List AV := [iv m.1, iv m.2.1, ci m.2.2]
def dKi : List AV → Option (Int × Int × Int)
  | [.rv (.sc (.int .i64 x)), .rv (.sc (.int .i64 y)), .cbox 3 [.int .i64 c]] => some (x, y, c)
  | _ => none
@[reducible] def nKell (m : Int × Int × Q × Int × Int × Int) : List AV := [iv m.1, iv m.2.1, cq m.2.2.1.1 m.2.2.1.2.1 m.2.2.1.2.2.1 m.2.2.1.2.2.2, ci m.2.2.2.1, ci m.2.2.2.2.1, ci m.2.2.2.2.2]
def dKell : List AV → Option (Int × Int × Q × Int × Int × Int)
  | [.rv (.sc (.int .i64 x)), .rv (.sc (.int .i64 y)), .cbox 27 [.int .i64 a, .int .i64 b, .int .i64 c, .int .i64 d], .cbox 3 [.int .i64 A], .cbox 3 [.int .i64 B], .cbox 3 [.int .i64 C]] => some (x, y, (a, b, c, d), A, B, C)
  | _ => none
@[reducible] def nKqf (m : Int × Int × Q × Fn2) : List AV := [iv m.1, iv m.2.1, cq m.2.2.1.1 m.2.2.1.2.1 m.2.2.1.2.2.1 m.2.2.1.2.2.2, .cbox 0 [.fn m.2.2.2]]
def dKqf : List AV → Option (Int × Int × Q × Fn2)
  | [.rv (.sc (.int .i64 x)), .rv (.sc (.int .i64 y)), .cbox 27 [.int .i64 a, .int .i64 b, .int .i64 c, .int .i64 d], .cbox 0 [.fn F]] => some (x, y, (a, b, c, d), F)
  | _ => none
section
variable {us : List AV}
theorem hI {a} (h : dI us = some a) : us = nI a := by unfold dI at h; split at h <;> cases h; rfl
theorem hII {a} (h : dII us = some a) : us = nII a := by unfold dII at h; split at h <;> cases h; rfl
theorem hIII {a} (h : dIII us = some a) : us = nIII a := by unfold dIII at h; split at h <;> cases h; rfl
theorem hQ {a} (h : dQ us = some a) : us = nQ a := by unfold dQ at h; split at h <;> cases h; rfl
theorem hQP {a} (h : dQP us = some a) : us = nQP a := by unfold dQP at h; split at h <;> cases h; rfl
theorem hQQ {a} (h : dQQ us = some a) : us = nQQ a := by unfold dQQ at h; split at h <;> cases h; rfl
theorem hhM {a} (h : dM us = some a) : us = nM a := by unfold dM at h; split at h <;> cases h; rfl
theorem hMM {a} (h : dMM us = some a) : us = nMM a := by unfold dMM at h; split at h <;> cases h; rfl
theorem hMI {a} (h : dMI us = some a) : us = nMI a := by unfold dMI at h; split at h <;> cases h; rfl
theorem hMII {a} (h : dMII us = some a) : us = nMII a := by unfold dMII at h; split at h <;> cases h; rfl
theorem hMMI {a} (h : dMMI us = some a) : us = nMMI a := by unfold dMMI at h; split at h <;> cases h; rfl
theorem hMIM {a} (h : dMIM us = some a) : us = nMIM a := by unfold dMIM at h; split at h <;> cases h; rfl
theorem hMQ {a} (h : dMQ us = some a) : us = nMQ a := by unfold dMQ at h; split at h <;> cases h; rfl
theorem hIIQ {a} (h : dIIQ us = some a) : us = nIIQ a := by unfold dIIQ at h; split at h <;> cases h; rfl
theorem hIIF {a} (h : dIIF us = some a) : us = nIIF a := by unfold dIIF at h; split at h <;> cases h; rfl
theorem hKmq {a} (h : dKmq us = some a) : us = nKmq a := by unfold dKmq at h; split at h <;> cases h; rfl
theorem hKm {a} (h : dKm us = some a) : us = nKm a := by unfold dKm at h; split at h <;> cases h; rfl
theorem hKq {a} (h : dKq us = some a) : us = nKq a := by unfold dKq at h; split at h <;> cases h; rfl
theorem hKi {a} (h : dKi us = some a) : us = nKi a := by unfold dKi at h; split at h <;> cases h; rfl
theorem hKell {a} (h : dKell us = some a) : us = nKell a := by unfold dKell at h; split at h <;> cases h; rfl
theorem hKqf {a} (h : dKqf us = some a) : us = nKqf a := by unfold dKqf at h; split at h <;> cases h; rfl
end

/-! ### What the functions are -/
def okSize (m : Mk) : Bool := decide (0 ≤ m.1 ∧ m.1 ≤ 256 ∧ 0 ≤ m.2.1 ∧ m.2.1 ≤ 256 ∧ (m.2.2.length : Int) = m.1 * m.2.1)
def inM (m : Mk) (x y : Int) : Bool := decide (0 ≤ x ∧ x < m.1 ∧ 0 ≤ y ∧ y < m.2.1)
def getM (m : Mk) (x y : Int) : Int := if inM m x y = true then m.2.2.getD (y * m.1 + x).toNat 0 else 0
def allU : List Int → Bool
  | [] => true
  | v :: l => decide (0 ≤ v ∧ v ≤ 65535) && allU l
def checkM (m : Mk) : Int := if okSize m = true ∧ (m.1 = 0 ↔ m.2.1 = 0) then (if allU m.2.2 = true then 0 else 2) else 15
def rowG (g : Int → Int → Int) (y : Int) : Nat → Int → List Int
  | 0, _ => []
  | k + 1, x => g x y :: rowG g y k (x + 1)
def rowsG (g : Int → Int → Int) (w : Nat) : Nat → Int → List Int
  | 0, _ => []
  | k + 1, y => rowG g y w 0 ++ rowsG g w k (y + 1)
/-- The values at all places, row by row. -/
def gridL (g : Int → Int → Int) (w h : Int) : List Int := rowsG g w.toNat h.toNat 0
def sizeE (w h : Int) : Int := if 1 ≤ w ∧ w ≤ 256 ∧ 1 ≤ h ∧ h ≤ 256 then 0 else 15
end Go.Proofs.Ytbgfgadekmemeaa.Ev
