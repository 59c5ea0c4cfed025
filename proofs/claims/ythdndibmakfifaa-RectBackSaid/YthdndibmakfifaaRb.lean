/- Shapes of contracts for this program: what a contract asks and answers, by the kinds of arguments. Conditions: none. -/
import Derived.Test.YthdndibmakfifaaRa
namespace Go.Proofs.Ythdndibmakfifaa.Ev
open Go.Proofs
set_option linter.unusedVariables false

abbrev Q := Int × Int × Int × Int
abbrev Pt := Int × Int
@[reducible] def qv (r : Q) : AV := .rv (.agg [.int .i64 r.1, .int .i64 r.2.1, .int .i64 r.2.2.1, .int .i64 r.2.2.2])
@[reducible] def pv (p : Pt) : AV := .rv (.agg [.int .i64 p.1, .int .i64 p.2])
@[reducible] def iv (n : Int) : AV := .rv (.sc (.int .i64 n))
@[reducible] def qsv (l : List Q) : AV := .rv (.sc (.sl none (.quads l)))
@[reducible] def psv (l : List Pt) : AV := .rv (.sc (.sl none (.pts l)))

def s0 (f : AV) : Spec
  | [] => some (f, [])
  | _ => none
def sI (f : Int → AV) : Spec
  | [.rv (.sc (.int .i64 a))] => some (f a, [])
  | _ => none
def sII (f : Int → Int → AV) : Spec
  | [.rv (.sc (.int .i64 a)), .rv (.sc (.int .i64 b))] => some (f a b, [])
  | _ => none
def sIIII (f : Int → Int → Int → Int → AV) : Spec
  | [.rv (.sc (.int .i64 a)), .rv (.sc (.int .i64 b)), .rv (.sc (.int .i64 c)), .rv (.sc (.int .i64 d))] => some (f a b c d, [])
  | _ => none
def sR (f : Q → AV) : Spec
  | [.rv (.agg [.int .i64 a, .int .i64 b, .int .i64 c, .int .i64 d])] => some (f (a, b, c, d), [])
  | _ => none
def sRI (f : Q → Int → AV) : Spec
  | [.rv (.agg [.int .i64 a, .int .i64 b, .int .i64 c, .int .i64 d]), .rv (.sc (.int .i64 n))] => some (f (a, b, c, d) n, [])
  | _ => none
def sP (f : Pt → AV) : Spec
  | [.rv (.agg [.int .i64 a, .int .i64 b])] => some (f (a, b), [])
  | _ => none
def sRP (f : Q → Pt → AV) : Spec
  | [.rv (.agg [.int .i64 a, .int .i64 b, .int .i64 c, .int .i64 d]), .rv (.agg [.int .i64 x, .int .i64 y])] => some (f (a, b, c, d) (x, y), [])
  | _ => none
def sRR (f : Q → Q → AV) : Spec
  | [.rv (.agg [.int .i64 a, .int .i64 b, .int .i64 c, .int .i64 d]), .rv (.agg [.int .i64 a', .int .i64 b', .int .i64 c', .int .i64 d'])] => some (f (a, b, c, d) (a', b', c', d'), [])
  | _ => none
def sQQ (f : List Q → List Q → AV) : Spec
  | [.rv (.sc (.sl none (.quads l))), .rv (.sc (.sl none (.quads m)))] => bif decide (l.length < 4611686018427387904) then some (f l m, []) else none
  | _ => none
def sPP (f : List Pt → List Pt → AV) : Spec
  | [.rv (.sc (.sl none (.pts l))), .rv (.sc (.sl none (.pts m)))] => bif decide (l.length < 4611686018427387904) then some (f l m, []) else none
  | _ => none

section
variable {e : Env} {n : FuncId} {fn : Func}
/-- What is asked of a function ahead of its evaluation. -/
structure Ready (e : Env) (n : FuncId) (fn : Func) (k : Nat) : Prop where
  hT : ∀ t, TyOk Try.prog t (e.T t)
  hσ : ∀ f, Meets Try.prog f (e.sp f)
  hf : Try.prog.funcs[n]? = some fn
  hn : (fn.name == "runtime.NumGoroutine") = false
  hk : k ≤ fn.ntmps
  hl : ∀ p ∈ loopsOf fn, LoopOk e p.1 p.2

theorem Ready.meets {k : Nat} (r : Ready e n fn k) {Sp : Spec} (h : ∀ us x fin, Sp us = some (x, fin) → (∀ xs, AV.ms xs ∉ us) ∧ us.length ≤ k ∧ evalF e fn us = some (x, fin)) : Meets Try.prog n Sp :=
  meets_of_eval r.hT r.hσ hM r.hf r.hn r.hl fun us x fin hs => let ⟨h1, h2, h3⟩ := h us x fin hs; ⟨h1, Nat.le_trans h2 r.hk, h3⟩

theorem m0 {f : AV} (r : Ready e n fn 0) (h : evalF e fn [] = some (f, [])) : Meets Try.prog n (s0 f) :=
  r.meets fun us x fin hs => by
    unfold s0 at hs
    split at hs
    · cases hs; exact ⟨by simp, Nat.le_refl _, h⟩
    · cases hs
theorem mI {f : Int → AV} (r : Ready e n fn 1) (h : ∀ a, evalF e fn [iv a] = some (f a, [])) : Meets Try.prog n (sI f) :=
  r.meets fun us x fin hs => by
    unfold sI at hs
    split at hs
    · cases hs; exact ⟨by simp, Nat.le_refl _, h _⟩
    · cases hs
theorem mII {f : Int → Int → AV} (r : Ready e n fn 2) (h : ∀ a b, evalF e fn [iv a, iv b] = some (f a b, [])) : Meets Try.prog n (sII f) :=
  r.meets fun us x fin hs => by
    unfold sII at hs
    split at hs
    · cases hs; exact ⟨by simp, Nat.le_refl _, h _ _⟩
    · cases hs
theorem mIIII {f : Int → Int → Int → Int → AV} (r : Ready e n fn 4) (h : ∀ a b c d, evalF e fn [iv a, iv b, iv c, iv d] = some (f a b c d, [])) : Meets Try.prog n (sIIII f) :=
  r.meets fun us x fin hs => by
    unfold sIIII at hs
    split at hs
    · cases hs; exact ⟨by simp, Nat.le_refl _, h _ _ _ _⟩
    · cases hs
theorem mR {f : Q → AV} (r : Ready e n fn 1) (h : ∀ a b c d, evalF e fn [q4 a b c d] = some (f (a, b, c, d), [])) : Meets Try.prog n (sR f) :=
  r.meets fun us x fin hs => by
    unfold sR at hs
    split at hs
    · cases hs; exact ⟨by simp, Nat.le_refl _, h _ _ _ _⟩
    · cases hs
theorem mRI {f : Q → Int → AV} (r : Ready e n fn 2) (h : ∀ a b c d m, evalF e fn [q4 a b c d, iv m] = some (f (a, b, c, d) m, [])) : Meets Try.prog n (sRI f) :=
  r.meets fun us x fin hs => by
    unfold sRI at hs
    split at hs
    · cases hs; exact ⟨by simp, Nat.le_refl _, h _ _ _ _ _⟩
    · cases hs
theorem mP {f : Pt → AV} (r : Ready e n fn 1) (h : ∀ a b, evalF e fn [p2 a b] = some (f (a, b), [])) : Meets Try.prog n (sP f) :=
  r.meets fun us x fin hs => by
    unfold sP at hs
    split at hs
    · cases hs; exact ⟨by simp, Nat.le_refl _, h _ _⟩
    · cases hs
theorem mRP {f : Q → Pt → AV} (r : Ready e n fn 2) (h : ∀ a b c d x y, evalF e fn [q4 a b c d, p2 x y] = some (f (a, b, c, d) (x, y), [])) : Meets Try.prog n (sRP f) :=
  r.meets fun us x fin hs => by
    unfold sRP at hs
    split at hs
    · cases hs; exact ⟨by simp, Nat.le_refl _, h _ _ _ _ _ _⟩
    · cases hs
theorem mRR {f : Q → Q → AV} (r : Ready e n fn 2) (h : ∀ a b c d a' b' c' d', evalF e fn [q4 a b c d, q4 a' b' c' d'] = some (f (a, b, c, d) (a', b', c', d'), [])) : Meets Try.prog n (sRR f) :=
  r.meets fun us x fin hs => by
    unfold sRR at hs
    split at hs
    · cases hs; exact ⟨by simp, Nat.le_refl _, h _ _ _ _ _ _ _ _⟩
    · cases hs
theorem mQQ {f : List Q → List Q → AV} (r : Ready e n fn 2) (h : ∀ l m, l.length < 4611686018427387904 → evalF e fn [qsv l, qsv m] = some (f l m, [])) : Meets Try.prog n (sQQ f) :=
  r.meets fun us x fin hs => by
    unfold sQQ at hs
    split at hs
    · rename_i l m
      cases hb : decide (l.length < 4611686018427387904)
      · rw [hb] at hs; cases hs
      · rw [hb] at hs; cases hs; exact ⟨by simp, Nat.le_refl _, h _ _ (of_decide_eq_true hb)⟩
    · cases hs
theorem mPP {f : List Pt → List Pt → AV} (r : Ready e n fn 2) (h : ∀ l m, l.length < 4611686018427387904 → evalF e fn [psv l, psv m] = some (f l m, [])) : Meets Try.prog n (sPP f) :=
  r.meets fun us x fin hs => by
    unfold sPP at hs
    split at hs
    · rename_i l m
      cases hb : decide (l.length < 4611686018427387904)
      · rw [hb] at hs; cases hs
      · rw [hb] at hs; cases hs; exact ⟨by simp, Nat.le_refl _, h _ _ (of_decide_eq_true hb)⟩
    · cases hs
end

/-! ### What the functions are -/
def spn (a n : Int) : Bool := decide (-1048576 ≤ a ∧ a ≤ 1048576 ∧ 0 ≤ n ∧ n ≤ 1048576 - a)
def valid (r : Q) : Bool := spn r.1 r.2.2.1 && spn r.2.1 r.2.2.2
def known (r : Q) : Q := if valid r = true then r else (0, 0, 0, 0)
def empty (r : Q) : Bool := ((known r).2.2.1 == 0) || ((known r).2.2.2 == 0)
def has (r : Q) (p : Pt) : Bool := decide ((known r).1 ≤ p.1 ∧ p.1 < (known r).1 + (known r).2.2.1 ∧ (known r).2.1 ≤ p.2 ∧ p.2 < (known r).2.1 + (known r).2.2.2)
def within (a b : Q) : Bool := empty a || decide ((known b).1 ≤ a.1 ∧ (known b).2.1 ≤ a.2.1 ∧ a.1 + a.2.2.1 ≤ (known b).1 + (known b).2.2.1 ∧ a.2.1 + a.2.2.2 ≤ (known b).2.1 + (known b).2.2.2)
def area (r : Q) : Int := (known r).2.2.1 * (known r).2.2.2
/-- The rectangle from one corner up to the other; its sides may be wrapped round. -/
def between (x0 y0 x1 y1 : Int) : Q := if x0 < x1 ∧ y0 < y1 then (x0, y0, IntKind.i64.wrap (x1 - x0), IntKind.i64.wrap (y1 - y0)) else (0, 0, 0, 0)
def mx (a b : Int) : Int := if b > a then b else a
def mn (a b : Int) : Int := if b < a then b else a
def meet (a b : Q) : Q := between (mx a.1 b.1) (mx a.2.1 b.2.1) (mn (IntKind.i64.wrap (a.1 + a.2.2.1)) (IntKind.i64.wrap (b.1 + b.2.2.1))) (mn (IntKind.i64.wrap (a.2.1 + a.2.2.2)) (IntKind.i64.wrap (b.2.1 + b.2.2.2)))
def meetR (a b : Q) : Q := meet (known a) (known b)
def join (a b : Q) : Q := if empty a = true then (if empty b = true then (0, 0, 0, 0) else b) else if empty b = true then a else
  between (mn a.1 b.1) (mn a.2.1 b.2.1) (mx (a.1 + a.2.2.1) (b.1 + b.2.2.1)) (mx (a.2.1 + a.2.2.2) (b.2.1 + b.2.2.2))
def limit (n : Int) : Int := mn (mx n (-4194304)) 4194304
def worldQ : Q := (-1048576, -1048576, 2097152, 2097152)
def move (r : Q) (d : Pt) : Q := if empty r = true then (0, 0, 0, 0) else meet (r.1 + limit d.1, r.2.1 + limit d.2, r.2.2.1, r.2.2.2) worldQ
def grow (r : Q) (n : Int) : Q := if empty r = true ∨ r.2.2.1 + 2 * limit n ≤ 0 ∨ r.2.2.2 + 2 * limit n ≤ 0 then (0, 0, 0, 0) else
  meet (r.1 - limit n, r.2.1 - limit n, r.2.2.1 + 2 * limit n, r.2.2.2 + 2 * limit n) worldQ
def ofTile (t : Pt) : Q := if -65536 ≤ t.1 ∧ t.1 < 65536 ∧ -65536 ≤ t.2 ∧ t.2 < 65536 then (t.1 * 16, t.2 * 16, 16, 16) else (0, 0, 0, 0)
end Go.Proofs.Ythdndibmakfifaa.Ev
