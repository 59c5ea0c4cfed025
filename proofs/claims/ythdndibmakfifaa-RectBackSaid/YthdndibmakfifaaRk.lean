/- What the parts of a difference are. Conditions: none. -/
import Derived.Test.YthdndibmakfifaaRj
namespace Go.Proofs.Ythdndibmakfifaa.Ev
open Go.Proofs
set_option linter.unusedVariables false
set_option maxHeartbeats 1000000

/-- What two rectangles share lies in both. -/
theorem meetR_sub {a b c d a' b' c' d' : Int} (h : empty (meetR (a, b, c, d) (a', b', c', d')) = false) : ∃ m1 m2 m3 m4 : Int, meetR (a, b, c, d) (a', b', c', d') = (m1, m2, m3, m4) ∧ empty (a, b, c, d) = false ∧ empty (a', b', c', d') = false ∧ 0 < m3 ∧ 0 < m4 ∧
    m1 = mx a a' ∧ m2 = mx b b' ∧ m1 + m3 = mn (a + c) (a' + c') ∧ m2 + m4 = mn (b + d) (b' + d') := by
  cases ha : empty (a, b, c, d)
  · cases hb : empty (a', b', c', d')
    · have e := meetR_ne ha hb
      have h1 := (nonempty_iff a b c d).mp ha
      have hv := (valid_iff a b c d).mp h1.1
      have h1' := (nonempty_iff a' b' c' d').mp hb
      have hv' := (valid_iff a' b' c' d').mp h1'.1
      rw [e] at h ⊢
      have l1 : mx a a' ≤ 1048576 := mx_le (by omega) (by omega)
      have l2 : -1048576 ≤ mx a a' := le_mx (by omega) (by omega)
      have l3 : mx b b' ≤ 1048576 := mx_le (by omega) (by omega)
      have l4 : -1048576 ≤ mx b b' := le_mx (by omega) (by omega)
      have l5 : mn (a + c) (a' + c') ≤ 1048576 := mn_le (by omega) (by omega)
      have l6 : -1048576 ≤ mn (a + c) (a' + c') := le_mn (by omega) (by omega)
      have l7 : mn (b + d) (b' + d') ≤ 1048576 := mn_le (by omega) (by omega)
      have l8 : -1048576 ≤ mn (b + d) (b' + d') := le_mn (by omega) (by omega)
      unfold between at h ⊢
      by_cases hc : mx a a' < mn (a + c) (a' + c') ∧ mx b b' < mn (b + d) (b' + d')
      · rw [if_pos hc]
        rw [W_eq (n := mn (a + c) (a' + c') - mx a a') (by omega) (by omega), W_eq (n := mn (b + d) (b' + d') - mx b b') (by omega) (by omega)]
        exact ⟨_, _, _, _, rfl, rfl, rfl, by omega, by omega, rfl, rfl, by omega, by omega⟩
      · rw [if_neg hc] at h
        exact absurd h (by decide)
    · rw [meetR_zero_r hb] at h
      exact absurd h (by decide)
  · rw [meetR_zero_l ha] at h
    exact absurd h (by decide)
theorem between_empty {x0 y0 x1 y1 : Int} (h0 : -1048576 ≤ x0) (h1 : x1 ≤ 1048576) (h2 : -1048576 ≤ y0) (h3 : y1 ≤ 1048576) : empty (between x0 y0 x1 y1) = zq (between x0 y0 x1 y1) := by
  unfold between
  by_cases h : x0 < x1 ∧ y0 < y1
  · rw [if_pos h, W_eq (n := x1 - x0) (by omega) (by omega), W_eq (n := y1 - y0) (by omega) (by omega)]
    have e1 : empty (x0, y0, x1 - x0, y1 - y0) = false := (nonempty_iff ..).mpr ⟨(valid_iff ..).mpr (by omega), by omega, by omega⟩
    have e2 : zq (x0, y0, x1 - x0, y1 - y0) = false := by
      rw [← Bool.not_eq_true]
      simp only [zq, Bool.and_eq_true, beq_iff_eq]
      omega
    rw [e1, e2]
  · rw [if_neg h]
    decide
theorem parts_all {a b c d a' b' c' d' : Int} (h : empty (meetR (a, b, c, d) (a', b', c', d')) = false) :
    partsP (a, b, c, d) (meetR (a, b, c, d) (a', b', c', d')) = parts (a, b, c, d) (meetR (a, b, c, d) (a', b', c', d')) ∧
    partsF (a, b, c, d) (meetR (a, b, c, d) (a', b', c', d')) = parts (a, b, c, d) (meetR (a, b, c, d) (a', b', c', d')) ∧
    ne (parts (a, b, c, d) (meetR (a, b, c, d) (a', b', c', d'))) = nz (parts (a, b, c, d) (meetR (a, b, c, d) (a', b', c', d'))) := by
  obtain ⟨m1, m2, m3, m4, em, ha, hb, q3, q4, f1, f2, f3, f4⟩ := meetR_sub h
  rw [em] at h ⊢
  have h1 := (nonempty_iff a b c d).mp ha
  have hv := (valid_iff a b c d).mp h1.1
  have k1 : a ≤ m1 := by rw [f1]; unfold mx; split <;> omega
  have k2 : b ≤ m2 := by rw [f2]; unfold mx; split <;> omega
  have k3 : m1 + m3 ≤ a + c := by rw [f3]; unfold mn; split <;> omega
  have k4 : m2 + m4 ≤ b + d := by rw [f4]; unfold mn; split <;> omega
  refine ⟨?_, ?_, ?_⟩
  · unfold partsP parts W
    simp only
    rw [W_eq (n := a + c) (by omega) (by omega), W_eq (n := b + d) (by omega) (by omega), W_eq (n := m1 + m3) (by omega) (by omega), W_eq (n := m2 + m4) (by omega) (by omega)]
  · have r := rlo_ne ha
    have r' := rlo_ne h
    unfold partsF parts W
    simp only [r.1, r.2.1, r.2.2.1, r.2.2.2, r'.1, r'.2.1, r'.2.2.1, r'.2.2.2]
    rw [W_eq (n := m2 - 1) (by omega) (by omega), W_eq (n := m1 - 1) (by omega) (by omega), W_eq (n := m1 + m3 - 1 + 1) (by omega) (by omega), W_eq (n := m2 + m4 - 1 + 1) (by omega) (by omega), Int.sub_add_cancel, Int.sub_add_cancel,
      between_ofQ (by omega) (by omega) (by omega) (by omega) (by omega) (by omega) (by omega) (by omega),
      between_ofQ (by omega) (by omega) (by omega) (by omega) (by omega) (by omega) (by omega) (by omega),
      between_ofQ (by omega) (by omega) (by omega) (by omega) (by omega) (by omega) (by omega) (by omega),
      between_ofQ (by omega) (by omega) (by omega) (by omega) (by omega) (by omega) (by omega) (by omega)]
  · unfold parts
    simp only [ne, nz]
    rw [between_empty (by omega) (by omega) (by omega) (by omega), between_empty (by omega) (by omega) (by omega) (by omega), between_empty (by omega) (by omega) (by omega) (by omega), between_empty (by omega) (by omega) (by omega) (by omega)]
theorem e32 (a b c d a' b' c' d' : Int) : evalF E32 Try.f32 [q4 a b c d, q4 a' b' c' d'] = some (qsv (minus (a, b, c, d) (a', b', c', d')), []) := by
  rw [t32]
  unfold minus
  cases ha : empty (a, b, c, d)
  · cases hm : empty (meetR (a, b, c, d) (a', b', c', d'))
    · rw [(parts_all hm).1]; rfl
    · rfl
  · rfl
theorem e33 (a b c d a' b' c' d' : Int) : evalF E33 Try.f33 [q4 a b c d, q4 a' b' c' d'] = some (qsv (minus (a, b, c, d) (a', b', c', d')), []) := by
  rw [t33]
  unfold minus
  cases ha : empty (a, b, c, d)
  · cases hm : empty (meetR (a, b, c, d) (a', b', c', d'))
    · rw [(parts_all hm).2.1, (parts_all hm).2.2]; rfl
    · rfl
  · rfl
end Go.Proofs.Ythdndibmakfifaa.Ev
