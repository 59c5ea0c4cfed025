/- Rounded quotients, and the samples of an ellipse. Conditions: none. Printed by gen.py of this session. -/
import Derived.Test.YtbgfgadekmemeaaKd
namespace Go.Proofs.Ytbgfgadekmemeaa.Ev
open Go.Proofs
set_option linter.unusedVariables false
set_option linter.unusedSimpArgs false
set_option maxRecDepth 100000
set_option maxHeartbeats 1000000

abbrev pD : List AV → Bool := ps dII fun a => decide (0 ≤ a.1 ∧ a.1 ≤ 4503599627370496 ∧ 1 ≤ a.2 ∧ a.2 ≤ 1099511627776)
def divP (a b : Int) : Int := (2 * a + b) / (2 * b)
theorem t45 (a b : Int) : evalF (EG []) Try.f45 [iv a, iv b] = bif b == 0 then oi 0 else bif b == -1 then bif a == -9223372036854775808 then oi 9223372036854775807 else oi (W (0 - a)) else bif decide (b = 0) then none else bif decide (b = 0) then none else
    bif a.tmod b != 0 then bif decide (a < 0) != decide (b < 0) then oi (W (W (a.tdiv b) - 1)) else oi (W (a.tdiv b)) else oi (W (a.tdiv b)) := by kernel_rfl
theorem m45 : Meets Try.prog 45 (gate pD (sp dII fun a => iv (a.1 / a.2))) := mG (rdE eg_nil (fn := Try.f45) (k := 2) (by kernel_rfl) (by kernel_rfl) (of_decide_eq_true (by kernel_rfl)) (by kernel_rfl)) (fun _ _ => hII) (fun _ => ⟨rfl, Nat.le_refl _⟩)
  fun ⟨a, b⟩ hp => by
    have hp := of_decide_eq_true hp
    simp only at hp
    refine (t45 a b).trans ?_
    have e1 : a.tdiv b = a / b := Int.tdiv_eq_ediv_of_nonneg (by omega)
    have h0 : 0 ≤ a / b := Int.ediv_nonneg (by omega) (by omega)
    have h1 : a / b ≤ a := Int.ediv_le_self _ (by omega)
    rw [beq_eq_false_iff_ne.mpr (by omega : b ≠ 0), beq_eq_false_iff_ne.mpr (by omega : b ≠ -1), decide_eq_false (by omega : ¬ b = 0), decide_eq_false (by omega : ¬ a < 0), decide_eq_false (by omega : ¬ b < 0), e1, W_small (n := a / b) (by omega) (by omega)]
    cases a.tmod b != 0 <;> rfl
def L25 : List Entry := [(45, pD, sp dII fun a => iv (a.1 / a.2))]
theorem g25 : ∀ f, Meets Try.prog f ((EG L25).sp f) := eg_cons m45 eg_nil
def tail66 (fl : Int) (a b : Int) : Option (AV × List AV) := bif b == 0 then oi fl else bif b == -1 then oi fl else
  bif decide (b > 0) then bif decide (W (a - W (fl * b)) ≥ W (b - W (a - W (fl * b)))) then oi (W (fl + 1)) else
    bif decide (b < 0) then bif decide (W (a - W (fl * b)) ≤ W (b - W (a - W (fl * b)))) then oi (W (fl + 1)) else oi fl else oi fl
  else bif decide (b < 0) then bif decide (W (a - W (fl * b)) ≤ W (b - W (a - W (fl * b)))) then oi (W (fl + 1)) else oi fl else oi fl
theorem t25 (a b : Int) : evalF (EG L25) Try.f25 [iv a, iv b] = bif decide (0 ≤ a ∧ a ≤ 4503599627370496 ∧ 1 ≤ b ∧ b ≤ 1099511627776) then tail66 (a / b) a b else none := by kernel_rfl
theorem divP_eq {a b : Int} (hb : 1 ≤ b) : divP a b = if 2 * (a % b) ≥ b then a / b + 1 else a / b := by
  unfold divP
  have h1 := Int.mul_ediv_add_emod a b
  have h2 := Int.emod_nonneg a (by omega : b ≠ 0)
  have h3 := Int.emod_lt_of_pos a (by omega : 0 < b)
  have e : 2 * a + b = 2 * (a % b) + b + (a / b) * (2 * b) := by
    have : a / b * (2 * b) = 2 * (b * (a / b)) := by rw [Int.mul_comm (a / b), Int.mul_assoc]
    omega
  rw [e, Int.add_mul_ediv_right _ _ (by omega : 2 * b ≠ 0)]
  split
  · have : (2 * (a % b) + b) / (2 * b) = 1 := by
      rw [show 2 * (a % b) + b = 2 * (a % b) - b + 1 * (2 * b) by omega, Int.add_mul_ediv_right _ _ (by omega : 2 * b ≠ 0), Int.ediv_eq_zero_of_lt (by omega) (by omega)]
      rfl
    rw [this, Int.add_comm]
  · rw [Int.ediv_eq_zero_of_lt (by omega) (by omega), Int.zero_add]
theorem m25 : Meets Try.prog 25 (gate pD (sp dII fun a => iv (divP a.1 a.2))) := mG (rdE g25 (fn := Try.f25) (k := 2) (by kernel_rfl) (by kernel_rfl) (of_decide_eq_true (by kernel_rfl)) (by kernel_rfl)) (fun _ _ => hII) (fun _ => ⟨rfl, Nat.le_refl _⟩)
  fun ⟨a, b⟩ hp => by
    have hp' := of_decide_eq_true hp
    simp only at hp'
    refine (t25 a b).trans ?_
    rw [decide_eq_true hp']
    have h1 := Int.mul_ediv_add_emod a b
    have h2 := Int.emod_nonneg a (by omega : b ≠ 0)
    have h3 := Int.emod_lt_of_pos a (by omega : 0 < b)
    have h4 : 0 ≤ a / b := Int.ediv_nonneg (by omega) (by omega)
    have h5 : a / b ≤ a := Int.ediv_le_self _ (by omega)
    have h6 : 0 ≤ b * (a / b) := Int.mul_nonneg (by omega) h4
    show tail66 (a / b) a b = oi (divP a b)
    unfold tail66
    rw [divP_eq (by omega), Int.mul_comm (a / b) b, W_small (n := b * (a / b)) (by omega) (by omega), W_small (n := a - b * (a / b)) (by omega) (by omega), show a - b * (a / b) = a % b by omega, W_small (n := b - a % b) (by omega) (by omega), W_small (n := a / b + 1) (by omega) (by omega),
      beq_eq_false_iff_ne.mpr (by omega : b ≠ 0), beq_eq_false_iff_ne.mpr (by omega : b ≠ -1), decide_eq_true (by omega : b > 0), decide_eq_false (by omega : ¬ b < 0)]
    by_cases c : 2 * (a % b) ≥ b
    · rw [decide_eq_true (by omega), if_pos c]; rfl
    · rw [decide_eq_false (by omega), if_neg c]; rfl

end Go.Proofs.Ytbgfgadekmemeaa.Ev
