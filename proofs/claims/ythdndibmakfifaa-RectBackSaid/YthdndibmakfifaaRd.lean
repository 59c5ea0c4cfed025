/- What the functions without loops come to: the evaluator's answers, and that they are the plain functions. Conditions: none. -/
import Derived.Test.YthdndibmakfifaaRc
namespace Go.Proofs.Ythdndibmakfifaa.Ev
open Go.Proofs
set_option linter.unusedVariables false
set_option maxRecDepth 100000

@[reducible] def ob (b : Bool) : Option (AV × List AV) := some (bw b, [])
@[reducible] def oi (n : Int) : Option (AV × List AV) := some (iv n, [])
@[reducible] def oq (r : Q) : Option (AV × List AV) := some (qv r, [])
@[reducible] def ot (a b : Int) : Option (AV × List AV) := some (tv a b, [])
@[reducible] def W (n : Int) : Int := IntKind.i64.wrap n
def zero : Q := (0, 0, 0, 0)

/-! ### Bounds -/
theorem valid_iff (a b c d : Int) : valid (a, b, c, d) = true ↔ (-1048576 ≤ a ∧ a ≤ 1048576 ∧ 0 ≤ c ∧ c ≤ 1048576 - a) ∧ (-1048576 ≤ b ∧ b ≤ 1048576 ∧ 0 ≤ d ∧ d ≤ 1048576 - b) := by
  simp only [valid, spn, Bool.and_eq_true, decide_eq_true_eq]
theorem known_cases (a b c d : Int) : (valid (a, b, c, d) = true ∧ known (a, b, c, d) = (a, b, c, d)) ∨ (valid (a, b, c, d) = false ∧ known (a, b, c, d) = (0, 0, 0, 0)) := by
  unfold known
  cases h : valid (a, b, c, d)
  · exact .inr ⟨rfl, rfl⟩
  · exact .inl ⟨rfl, rfl⟩
theorem empty_iff (a b c d : Int) : empty (a, b, c, d) = true ↔ ¬ valid (a, b, c, d) = true ∨ c = 0 ∨ d = 0 := by
  unfold empty
  rcases known_cases a b c d with ⟨h, e⟩ | ⟨h, e⟩ <;> rw [e, h] <;> simp [beq_iff_eq]
theorem nonempty_iff (a b c d : Int) : empty (a, b, c, d) = false ↔ valid (a, b, c, d) = true ∧ 0 < c ∧ 0 < d := by
  have := empty_iff a b c d
  have hv := valid_iff a b c d
  cases h : empty (a, b, c, d)
  · rw [h] at this
    simp only [Bool.false_eq_true, false_iff, not_or, Classical.not_not] at this
    refine ⟨fun _ => ⟨this.1, ?_, ?_⟩, fun _ => rfl⟩
    · have := hv.mp this.1; omega
    · have := hv.mp this.1; omega
  · rw [h] at this
    simp only [true_iff] at this
    refine ⟨fun h => (nomatch h), fun ⟨h1, h2, h3⟩ => ?_⟩
    rcases this with h | h | h
    · exact absurd h1 h
    · omega
    · omega

/-! ### The answers -/
theorem t39 (a b : Int) : evalF (E L0) Try.f39 [iv a, iv b] = bif decide (a ≥ -1048576) then bif decide (a ≤ 1048576) then bif decide (b ≥ 0) then ob (decide (b ≤ W (1048576 - a))) else ob false else ob false else ob false := by kernel_rfl
theorem t13 (a b c d : Int) : evalF (E L1) Try.f13 [q4 a b c d] = bif spn a c then ob (spn b d) else ob false := by kernel_rfl
theorem t14 (a b c d : Int) : evalF (E L0) Try.f14 [q4 a b c d] = bif decide (a < -1048576) then ob false else bif decide (a > 1048576) then ob false else bif decide (b < -1048576) then ob false else bif decide (b > 1048576) then ob false else bif decide (c ≥ 0) then bif decide (d ≥ 0) then bif decide (c ≤ W (1048576 - a)) then ob (decide (d ≤ W (1048576 - b))) else ob false else ob false else ob false := by kernel_rfl
theorem t40 (a b c d : Int) : evalF (E L2) Try.f40 [q4 a b c d] = bif !valid (a, b, c, d) then oq (0, 0, 0, 0) else oq (a, b, c, d) := by kernel_rfl
theorem t15 (a b c d : Int) : evalF (E L3) Try.f15 [q4 a b c d] = bif (known (a, b, c, d)).2.2.1 == 0 then ob true else ob ((known (a, b, c, d)).2.2.2 == 0) := by kernel_rfl
theorem t16 (a b c d : Int) : evalF (E L2) Try.f16 [q4 a b c d] = bif !valid (a, b, c, d) then ob true else bif c == 0 then ob true else ob (d == 0) := by kernel_rfl
theorem t17 (a b c d x y : Int) : evalF (E L3) Try.f17 [q4 a b c d, p2 x y] = bif decide (x ≥ (known (a, b, c, d)).1) then bif decide (x < W ((known (a, b, c, d)).1 + (known (a, b, c, d)).2.2.1)) then bif decide (y ≥ (known (a, b, c, d)).2.1) then ob (decide (y < W ((known (a, b, c, d)).2.1 + (known (a, b, c, d)).2.2.2))) else ob false else ob false else ob false := by kernel_rfl
theorem t18 (a b c d x y : Int) : evalF (E L3) Try.f18 [q4 a b c d, p2 x y] = bif decide (x ≥ rlo (a, b, c, d) 0) then bif decide (x ≤ rhi (a, b, c, d) 0) then bif decide (y ≥ rlo (a, b, c, d) 1) then ob (decide (y ≤ rhi (a, b, c, d) 1)) else ob false else ob false else ob false := by kernel_rfl
theorem t19 (a b c d : Int) : evalF (E L3) Try.f19 [q4 a b c d] = oi (W ((known (a, b, c, d)).2.2.1 * (known (a, b, c, d)).2.2.2)) := by kernel_rfl
theorem t20 (a b c d : Int) : evalF (E L3) Try.f20 [q4 a b c d] = bif empty (a, b, c, d) then oi 0 else oi (W (c * d)) := by kernel_rfl
theorem t21 (a b c d a' b' c' d' : Int) : evalF (E L4) Try.f21 [q4 a b c d, q4 a' b' c' d'] = bif empty (a, b, c, d) then ob true else bif decide (a ≥ (known (a', b', c', d')).1) then bif decide (b ≥ (known (a', b', c', d')).2.1) then bif decide (W (a + c) ≤ W ((known (a', b', c', d')).1 + (known (a', b', c', d')).2.2.1)) then ob (decide (W (b + d) ≤ W ((known (a', b', c', d')).2.1 + (known (a', b', c', d')).2.2.2))) else ob false else ob false else ob false := by kernel_rfl
theorem t22 (a b c d a' b' c' d' : Int) : evalF (E L4) Try.f22 [q4 a b c d, q4 a' b' c' d'] = bif empty (a, b, c, d) then ob true else bif has (a', b', c', d') (rlo (a, b, c, d) 0, rlo (a, b, c, d) 1) then ob (has (a', b', c', d') (rhi (a, b, c, d) 0, rhi (a, b, c, d) 1)) else ob false := by kernel_rfl
theorem t44 (a b c d : Int) : evalF (E L0) Try.f44 [iv a, iv b, iv c, iv d] = bif decide (a ≥ c) then oq (0, 0, 0, 0) else bif decide (b ≥ d) then oq (0, 0, 0, 0) else oq (a, b, W (c - a), W (d - b)) := by kernel_rfl
theorem t42 (a b c d a' b' c' d' : Int) : evalF (E L3) Try.f42 [q4 a b c d, q4 a' b' c' d'] = oq (meet (a, b, c, d) (a', b', c', d')) := by kernel_rfl
theorem t23 (a b c d a' b' c' d' : Int) : evalF (E L4) Try.f23 [q4 a b c d, q4 a' b' c' d'] = oq (meetR (a, b, c, d) (a', b', c', d')) := by kernel_rfl
def meetF (a b : Q) : Q := ofQ (mx (rlo a 0) (rlo b 0)) (mn (rhi a 0) (rhi b 0)) (mx (rlo a 1) (rlo b 1)) (mn (rhi a 1) (rhi b 1))
theorem t24 (a b c d a' b' c' d' : Int) : evalF (E L4) Try.f24 [q4 a b c d, q4 a' b' c' d'] = bif empty (a, b, c, d) then oq (0, 0, 0, 0) else bif empty (a', b', c', d') then oq (0, 0, 0, 0) else oq (meetF (a, b, c, d) (a', b', c', d')) := by kernel_rfl
def joinP (a b : Q) : Q := between (mn a.1 b.1) (mn a.2.1 b.2.1) (mx (W (a.1 + a.2.2.1)) (W (b.1 + b.2.2.1))) (mx (W (a.2.1 + a.2.2.2)) (W (b.2.1 + b.2.2.2)))
def joinF (a b : Q) : Q := ofQ (mn (rlo a 0) (rlo b 0)) (mx (rhi a 0) (rhi b 0)) (mn (rlo a 1) (rlo b 1)) (mx (rhi a 1) (rhi b 1))
theorem t25 (a b c d a' b' c' d' : Int) : evalF (E L4) Try.f25 [q4 a b c d, q4 a' b' c' d'] =
    bif empty (a, b, c, d) then bif empty (a', b', c', d') then oq (0, 0, 0, 0) else bif empty (a, b, c, d) then oq (a', b', c', d') else bif empty (a', b', c', d') then oq (a, b, c, d) else oq (joinP (a, b, c, d) (a', b', c', d'))
    else bif empty (a, b, c, d) then oq (a', b', c', d') else bif empty (a', b', c', d') then oq (a, b, c, d) else oq (joinP (a, b, c, d) (a', b', c', d')) := by kernel_rfl
theorem t26 (a b c d a' b' c' d' : Int) : evalF (E L4) Try.f26 [q4 a b c d, q4 a' b' c' d'] =
    bif empty (a, b, c, d) then bif empty (a', b', c', d') then oq (0, 0, 0, 0) else bif empty (a, b, c, d) then oq (a', b', c', d') else bif empty (a', b', c', d') then oq (a, b, c, d) else oq (joinF (a, b, c, d) (a', b', c', d'))
    else bif empty (a, b, c, d) then oq (a', b', c', d') else bif empty (a', b', c', d') then oq (a, b, c, d) else oq (joinF (a, b, c, d) (a', b', c', d')) := by kernel_rfl
theorem t41 (a b c d n : Int) : evalF (E L2) Try.f41 [q4 a b c d, iv n] = bif !valid (a, b, c, d) then ot 0 (-1) else bif c == 0 then ot 0 (-1) else bif d == 0 then ot 0 (-1) else bif n == 0 then ot a (W (W (a + c) - 1)) else ot b (W (W (b + d) - 1)) := by kernel_rfl
theorem t43 (a b c d : Int) : evalF (E L0) Try.f43 [iv a, iv b, iv c, iv d] = bif decide (b < a) then oq (0, 0, 0, 0) else bif decide (d < c) then oq (0, 0, 0, 0) else oq (a, c, W (W (b - a) + 1), W (W (d - c) + 1)) := by kernel_rfl
theorem t45 (a : Int) : evalF (E L0) Try.f45 [iv a] = oi (limit a) := by kernel_rfl
theorem t46 : evalF (E L0) Try.f46 [] = oq worldQ := by kernel_rfl
theorem t27 (a b c d x y : Int) : evalF (E L4) Try.f27 [q4 a b c d, p2 x y] = bif empty (a, b, c, d) then oq (0, 0, 0, 0) else oq (meet (W (a + limit x), W (b + limit y), c, d) worldQ) := by kernel_rfl
theorem t28 (a b c d x y : Int) : evalF (E L4) Try.f28 [q4 a b c d, p2 x y] = bif empty (a, b, c, d) then oq (0, 0, 0, 0) else oq (worldR (W (rlo (a, b, c, d) 0 + lim3 x)) (W (rhi (a, b, c, d) 0 + lim3 x)) (W (rlo (a, b, c, d) 1 + lim3 y)) (W (rhi (a, b, c, d) 1 + lim3 y))) := by kernel_rfl
theorem t29 (a b c d n : Int) : evalF (E L4) Try.f29 [q4 a b c d, iv n] = bif empty (a, b, c, d) then oq (0, 0, 0, 0) else bif decide (W (c + W (2 * limit n)) ≤ 0) then oq (0, 0, 0, 0) else bif decide (W (d + W (2 * limit n)) ≤ 0) then oq (0, 0, 0, 0) else oq (meet (W (a - limit n), W (b - limit n), W (c + W (2 * limit n)), W (d + W (2 * limit n))) worldQ) := by kernel_rfl
theorem t30 (a b c d n : Int) : evalF (E L4) Try.f30 [q4 a b c d, iv n] = bif empty (a, b, c, d) then oq (0, 0, 0, 0) else oq (worldR (W (rlo (a, b, c, d) 0 - lim3 n)) (W (rhi (a, b, c, d) 0 + lim3 n)) (W (rlo (a, b, c, d) 1 - lim3 n)) (W (rhi (a, b, c, d) 1 + lim3 n))) := by kernel_rfl
theorem t47 (a b c d : Int) : evalF (E L3) Try.f47 [iv a, iv b, iv c, iv d] = oq (worldR a b c d) := by kernel_rfl
theorem t48 (a : Int) : evalF (E L0) Try.f48 [iv a] = oi (lim3 a) := by kernel_rfl
theorem t49 (a : Int) : evalF (E L0) Try.f49 [iv a] = oi (W (W (Int.tdiv (W (a + 1048576)) 16) - 65536)) := by kernel_rfl
theorem t34 (x y : Int) : evalF (E L0) Try.f34 [p2 x y] = bif decide (x < -65536) then oq (0, 0, 0, 0) else bif decide (x ≥ 65536) then oq (0, 0, 0, 0) else bif decide (y < -65536) then oq (0, 0, 0, 0) else bif decide (y ≥ 65536) then oq (0, 0, 0, 0) else oq (W (x * 16), W (y * 16), 16, 16) := by kernel_rfl
theorem t35 (x y : Int) : evalF (E L0) Try.f35 [p2 x y] = bif decide (x < W (0 - 65536)) then oq (0, 0, 0, 0) else bif decide (x ≥ 65536) then oq (0, 0, 0, 0) else bif decide (y < W (0 - 65536)) then oq (0, 0, 0, 0) else bif decide (y ≥ 65536) then oq (0, 0, 0, 0) else oq (W (x * 16), W (y * 16), 16, 16) := by kernel_rfl
theorem t12 : evalF (E L6) Try.f12 [] = ob true := by kernel_rfl
end Go.Proofs.Ythdndibmakfifaa.Ev
