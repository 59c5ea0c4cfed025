/- That the answers are the plain functions, of the program's own and of the reference's alike. Conditions: none. -/
import Derived.Test.YthdndibmakfifaaRd
namespace Go.Proofs.Ythdndibmakfifaa.Ev
open Go.Proofs
set_option linter.unusedVariables false
set_option maxRecDepth 100000
set_option maxHeartbeats 1000000

theorem cb (p x y : Bool) : (bif p then ob x else ob y) = ob (bif p then x else y) := by cases p <;> rfl
theorem ci (p : Bool) (x y : Int) : (bif p then oi x else oi y) = oi (bif p then x else y) := by cases p <;> rfl
theorem cq (p : Bool) (x y : Q) : (bif p then oq x else oq y) = oq (bif p then x else y) := by cases p <;> rfl
theorem ct (p : Bool) (x y x' y' : Int) : (bif p then ot x y else ot x' y') = ot (bif p then x else x') (bif p then y else y') := by cases p <;> rfl
theorem W_small {n : Int} (h1 : -9223372036854775808 ≤ n) (h2 : n < 9223372036854775808) : W n = n := by
  unfold W
  rw [IntKind.wrap_i64]
  omega

theorem cand (p x : Bool) : (bif p then x else false) = (p && x) := by cases p <;> rfl
theorem cnot (p x : Bool) : (bif p then false else x) = (!p && x) := by cases p <;> rfl
theorem cor (p x : Bool) : (bif p then true else x) = (p || x) := by cases p <;> rfl

theorem e39 (a b : Int) : evalF (E L0) Try.f39 [iv a, iv b] = ob (spn a b) := by
  rw [t39]; simp only [cb]; refine congrArg ob ?_
  rw [Bool.eq_iff_iff]
  simp only [cand, spn, W, IntKind.wrap_i64, Bool.and_eq_true, decide_eq_true_eq]
  omega
theorem e13 (a b c d : Int) : evalF (E L1) Try.f13 [q4 a b c d] = ob (valid (a, b, c, d)) := by
  rw [t13]; simp only [cb]; refine congrArg ob ?_
  cases h : spn a c <;> simp [valid, h]
theorem e14 (a b c d : Int) : evalF (E L0) Try.f14 [q4 a b c d] = ob (valid (a, b, c, d)) := by
  rw [t14]; simp only [cb]; refine congrArg ob ?_
  rw [Bool.eq_iff_iff, valid_iff]
  simp only [cand, cnot, W, IntKind.wrap_i64, Bool.and_eq_true, Bool.not_eq_true', decide_eq_true_eq, decide_eq_false_iff_not]
  omega
theorem e40 (a b c d : Int) : evalF (E L2) Try.f40 [q4 a b c d] = oq (known (a, b, c, d)) := by
  rw [t40]; simp only [cq]; refine congrArg oq ?_
  unfold known
  cases valid (a, b, c, d) <;> rfl
theorem e15 (a b c d : Int) : evalF (E L3) Try.f15 [q4 a b c d] = ob (empty (a, b, c, d)) := by
  rw [t15]; simp only [cb]; refine congrArg ob ?_
  unfold empty
  cases ((known (a, b, c, d)).2.2.1 == 0) <;> rfl
theorem e16 (a b c d : Int) : evalF (E L2) Try.f16 [q4 a b c d] = ob (empty (a, b, c, d)) := by
  rw [t16]; simp only [cb]; refine congrArg ob ?_
  rw [Bool.eq_iff_iff, empty_iff]
  cases valid (a, b, c, d) <;> simp [cond_eq_ite]
theorem e17 (a b c d x y : Int) : evalF (E L3) Try.f17 [q4 a b c d, p2 x y] = ob (has (a, b, c, d) (x, y)) := by
  rw [t17]; simp only [cb]; refine congrArg ob ?_
  rw [Bool.eq_iff_iff]
  unfold has
  have hv := valid_iff a b c d
  rcases known_cases a b c d with ⟨h, e⟩ | ⟨h, e⟩ <;> rw [e] <;> simp only [cand, W, IntKind.wrap_i64, Bool.and_eq_true, decide_eq_true_eq]
  · have hv := hv.mp h
    omega
  · omega
theorem e18 (a b c d x y : Int) : evalF (E L3) Try.f18 [q4 a b c d, p2 x y] = ob (has (a, b, c, d) (x, y)) := by
  rw [t18]; simp only [cb]; refine congrArg ob ?_
  rw [Bool.eq_iff_iff]
  unfold has
  have hv := valid_iff a b c d
  have he := empty_iff a b c d
  unfold rlo rhi
  rcases known_cases a b c d with ⟨h, e⟩ | ⟨h, e⟩ <;> rw [e] <;> rw [h] at hv he <;> simp only [cand, Bool.and_eq_true, decide_eq_true_eq]
  · simp only [true_iff] at hv
    simp only [not_true_eq_false, false_or] at he
    cases h2 : empty (a, b, c, d) <;> rw [h2] at he <;> simp only [Bool.false_eq_true, if_false, if_pos, false_iff, true_iff, Int.one_ne_zero] at he ⊢
    all_goals omega
  · simp only [Bool.false_eq_true, not_false_eq_true, true_or, iff_true] at he
    simp only [he, if_true]
    omega
theorem area_small {c d : Int} (h1 : 0 ≤ c) (h2 : c ≤ 2097152) (h3 : 0 ≤ d) (h4 : d ≤ 2097152) : 0 ≤ c * d ∧ c * d ≤ 4398046511104 := by
  refine ⟨Int.mul_nonneg h1 h3, ?_⟩
  calc c * d ≤ 2097152 * d := Int.mul_le_mul_of_nonneg_right h2 h3
    _ ≤ 2097152 * 2097152 := Int.mul_le_mul_of_nonneg_left h4 (by omega)
    _ = 4398046511104 := by decide
theorem e19 (a b c d : Int) : evalF (E L3) Try.f19 [q4 a b c d] = oi (area (a, b, c, d)) := by
  rw [t19]; refine congrArg oi ?_
  unfold area
  rcases known_cases a b c d with ⟨h, e⟩ | ⟨h, e⟩ <;> rw [e]
  · have hv := (valid_iff a b c d).mp h
    have := area_small (c := c) (d := d) (by omega) (by omega) (by omega) (by omega)
    exact W_small (by show (_:Int) ≤ c * d; omega) (by show c * d < _; omega)
  · decide
theorem e20 (a b c d : Int) : evalF (E L3) Try.f20 [q4 a b c d] = oi (area (a, b, c, d)) := by
  rw [t20]; simp only [ci]; refine congrArg oi ?_
  unfold area
  have he := empty_iff a b c d
  rcases known_cases a b c d with ⟨h, e⟩ | ⟨h, e⟩ <;> rw [e] <;> rw [h] at he
  · have hv := (valid_iff a b c d).mp h
    simp only [not_true_eq_false, false_or] at he
    have := area_small (c := c) (d := d) (by omega) (by omega) (by omega) (by omega)
    cases h2 : empty (a, b, c, d) <;> rw [h2] at he
    · exact W_small (by show (_:Int) ≤ c * d; omega) (by show c * d < _; omega)
    · rcases he.mp rfl with h | h <;> rw [h] <;> simp
  · simp only [Bool.false_eq_true, not_false_eq_true, true_or, iff_true] at he
    rw [he]; rfl
theorem e21 (a b c d a' b' c' d' : Int) : evalF (E L4) Try.f21 [q4 a b c d, q4 a' b' c' d'] = ob (within (a, b, c, d) (a', b', c', d')) := by
  rw [t21]; simp only [cb]; refine congrArg ob ?_
  unfold within
  cases h2 : empty (a, b, c, d)
  · have hv := (valid_iff a b c d).mp ((nonempty_iff a b c d).mp h2).1
    rw [Bool.eq_iff_iff]
    simp only [cand, cond_false, Bool.false_or, W, IntKind.wrap_i64, Bool.and_eq_true, decide_eq_true_eq]
    rcases known_cases a' b' c' d' with ⟨h, e⟩ | ⟨h, e⟩ <;> rw [e]
    · have hv' := (valid_iff a' b' c' d').mp h
      simp only; omega
    · simp only; omega
  · rfl
theorem e22 (a b c d a' b' c' d' : Int) : evalF (E L4) Try.f22 [q4 a b c d, q4 a' b' c' d'] = ob (within (a, b, c, d) (a', b', c', d')) := by
  rw [t22]; simp only [cb]; refine congrArg ob ?_
  unfold within
  cases h2 : empty (a, b, c, d)
  · have h3 := (nonempty_iff a b c d).mp h2
    have hv := (valid_iff a b c d).mp h3.1
    rw [Bool.eq_iff_iff]
    simp only [cand, cond_false, Bool.false_or, has, rlo, rhi, h2, Bool.and_eq_true, decide_eq_true_eq, Bool.false_eq_true, if_false, if_true, Int.one_ne_zero]
    rcases known_cases a' b' c' d' with ⟨h, e⟩ | ⟨h, e⟩ <;> rw [e]
    · have hv' := (valid_iff a' b' c' d').mp h
      simp only; omega
    · simp only; omega
  · rfl
theorem e44 (a b c d : Int) : evalF (E L0) Try.f44 [iv a, iv b, iv c, iv d] = oq (between a b c d) := by
  rw [t44]; simp only [cq]; refine congrArg oq ?_
  unfold between
  simp only [cond_eq_ite, decide_eq_true_eq]
  repeat' split
  all_goals first | rfl | omega
theorem e43 (a b c d : Int) : evalF (E L0) Try.f43 [iv a, iv b, iv c, iv d] = oq (ofQ a b c d) := by
  rw [t43]; simp only [cq]; refine congrArg oq ?_
  unfold ofQ
  simp only [cond_eq_ite, decide_eq_true_eq]
  repeat' split
  all_goals first | rfl | omega
theorem e41 (a b c d n : Int) : evalF (E L2) Try.f41 [q4 a b c d, iv n] = ot (rlo (a, b, c, d) n) (rhi (a, b, c, d) n) := by
  rw [t41]; unfold rlo rhi
  cases h2 : empty (a, b, c, d)
  · have h3 := (nonempty_iff a b c d).mp h2
    have hv := (valid_iff a b c d).mp h3.1
    have e1 : W (W (a + c) - 1) = a + c - 1 := by unfold W; simp only [IntKind.wrap_i64]; omega
    have e2 : W (W (b + d) - 1) = b + d - 1 := by unfold W; simp only [IntKind.wrap_i64]; omega
    have e3 : (c == 0) = false := by rw [beq_eq_false_iff_ne]; omega
    have e4 : (d == 0) = false := by rw [beq_eq_false_iff_ne]; omega
    rw [e1, e2, e3, e4, h3.1]
    by_cases hn : n = 0
    · subst hn; rfl
    · rw [beq_eq_false_iff_ne.mpr hn, if_neg hn, if_neg hn]; rfl
  · have h3 := (empty_iff a b c d).mp h2
    by_cases hv : valid (a, b, c, d) = true
    · rw [hv]
      by_cases hc : c = 0
      · subst hc; rfl
      · have hd : d = 0 := by simp only [hv, not_true_eq_false, false_or] at h3; omega
        rw [beq_eq_false_iff_ne.mpr hc]; subst hd; rfl
    · rw [Bool.not_eq_true] at hv; rw [hv]; rfl
theorem e49 (a : Int) : evalF (E L0) Try.f49 [iv a] = oi (tileR a) := t49 a
theorem e34 (x y : Int) : evalF (E L0) Try.f34 [p2 x y] = oq (ofTile (x, y)) := by
  rw [t34]; simp only [cq]; refine congrArg oq ?_
  unfold ofTile W
  simp only [cond_eq_ite, decide_eq_true_eq, IntKind.wrap_i64]
  repeat' split
  all_goals first | rfl | omega | (simp only [Prod.mk.injEq, and_true]; omega)
theorem e35 (x y : Int) : evalF (E L0) Try.f35 [p2 x y] = oq (ofTile (x, y)) := by
  rw [t35]; simp only [cq]; refine congrArg oq ?_
  unfold ofTile W
  simp only [cond_eq_ite, decide_eq_true_eq, IntKind.wrap_i64]
  repeat' split
  all_goals first | rfl | omega | (simp only [Prod.mk.injEq, and_true]; omega)
end Go.Proofs.Ythdndibmakfifaa.Ev
