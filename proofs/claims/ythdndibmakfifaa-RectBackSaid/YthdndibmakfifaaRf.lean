/- That meeting, joining, moving and growing are the plain functions, of the program's own and of the reference's alike. Conditions: none. -/
import Derived.Test.YthdndibmakfifaaRe
namespace Go.Proofs.Ythdndibmakfifaa.Ev
open Go.Proofs
set_option linter.unusedVariables false
set_option maxRecDepth 100000
set_option maxHeartbeats 4000000

theorem rlo_ne {a b c d : Int} (h : empty (a, b, c, d) = false) : rlo (a, b, c, d) 0 = a ∧ rlo (a, b, c, d) 1 = b ∧ rhi (a, b, c, d) 0 = a + c - 1 ∧ rhi (a, b, c, d) 1 = b + d - 1 := by
  unfold rlo rhi
  rw [h]
  exact ⟨rfl, rfl, rfl, rfl⟩
/-- A rectangle between corners, told twice. -/
theorem between_ofQ {x0 y0 x1 y1 : Int} (h0 : -100000000 ≤ x0) (h1 : x0 ≤ 100000000) (h2 : -100000000 ≤ x1) (h3 : x1 ≤ 100000000)
    (h4 : -100000000 ≤ y0) (h5 : y0 ≤ 100000000) (h6 : -100000000 ≤ y1) (h7 : y1 ≤ 100000000) : ofQ x0 (x1 - 1) y0 (y1 - 1) = between x0 y0 x1 y1 := by
  unfold ofQ between
  simp only [IntKind.wrap_i64]
  by_cases h : x0 < x1 ∧ y0 < y1
  · rw [if_neg (by omega), if_pos h]
    simp only [Prod.mk.injEq, true_and]
    omega
  · rw [if_pos (by omega), if_neg h]
theorem W_eq {n : Int} (h1 : -1000000000 ≤ n) (h2 : n ≤ 1000000000) : IntKind.i64.wrap n = n := W_small (by omega) (by omega)
theorem mx_le {a b m : Int} (h1 : a ≤ m) (h2 : b ≤ m) : mx a b ≤ m := by unfold mx; split <;> assumption
theorem le_mx {a b m : Int} (h1 : m ≤ a) (h2 : m ≤ b) : m ≤ mx a b := by unfold mx; split <;> assumption
theorem mn_le {a b m : Int} (h1 : a ≤ m) (h2 : b ≤ m) : mn a b ≤ m := by unfold mn; split <;> assumption
theorem le_mn {a b m : Int} (h1 : m ≤ a) (h2 : m ≤ b) : m ≤ mn a b := by unfold mn; split <;> assumption
theorem mn_sub (a b : Int) : mn (a - 1) (b - 1) = mn a b - 1 := by unfold mn; split <;> split <;> omega
theorem mx_sub (a b : Int) : mx (a - 1) (b - 1) = mx a b - 1 := by unfold mx; split <;> split <;> omega
theorem limit_le (n : Int) : -4194304 ≤ limit n ∧ limit n ≤ 4194304 := by unfold limit mx mn; repeat' split
                                                                          all_goals omega
theorem lim3_le (n : Int) : -3145728 ≤ lim3 n ∧ lim3 n ≤ 3145728 := by unfold lim3 mx mn; repeat' split
                                                                       all_goals omega
theorem lim_or (n : Int) : (limit n = n ∧ -4194304 ≤ n ∧ n ≤ 4194304 ∨ limit n = 4194304 ∧ n > 4194304 ∨ limit n = -4194304 ∧ n < -4194304) ∧
    (lim3 n = n ∧ -3145728 ≤ n ∧ n ≤ 3145728 ∨ lim3 n = 3145728 ∧ n > 3145728 ∨ lim3 n = -3145728 ∧ n < -3145728) := by
  unfold limit lim3 mx mn
  constructor
  · repeat' split
    all_goals omega
  · repeat' split
    all_goals omega
/-- Meeting, in plain words. -/
theorem meet_plain {a b c d a' b' c' d' : Int} (ha : -100000000 ≤ a ∧ a ≤ 100000000 ∧ -100000000 ≤ b ∧ b ≤ 100000000 ∧ -100000000 ≤ c ∧ c ≤ 100000000 ∧ -100000000 ≤ d ∧ d ≤ 100000000)
    (hb : -100000000 ≤ a' ∧ a' ≤ 100000000 ∧ -100000000 ≤ b' ∧ b' ≤ 100000000 ∧ -100000000 ≤ c' ∧ c' ≤ 100000000 ∧ -100000000 ≤ d' ∧ d' ≤ 100000000) :
    meet (a, b, c, d) (a', b', c', d') = between (mx a a') (mx b b') (mn (a + c) (a' + c')) (mn (b + d) (b' + d')) := by
  unfold meet
  simp only
  rw [W_eq (n := a + c) (by omega) (by omega), W_eq (n := b + d) (by omega) (by omega), W_eq (n := a' + c') (by omega) (by omega), W_eq (n := b' + d') (by omega) (by omega)]
theorem meet_zero_l {a b c d : Int} (h : valid (a, b, c, d) = true) (he : ¬ (0 < c ∧ 0 < d)) (a' b' c' d' : Int) (hv' : valid (a', b', c', d') = true) :
    meet (a, b, c, d) (a', b', c', d') = (0, 0, 0, 0) := by
  have hv := (valid_iff a b c d).mp h
  have hv' := (valid_iff a' b' c' d').mp hv'
  rw [meet_plain (by omega) (by omega)]
  unfold between
  rw [if_neg]
  unfold mx mn
  repeat' split
  all_goals omega
theorem meet_zero_r {a b c d : Int} (h : valid (a, b, c, d) = true) (he : ¬ (0 < c ∧ 0 < d)) (a' b' c' d' : Int) (hv' : valid (a', b', c', d') = true) :
    meet (a', b', c', d') (a, b, c, d) = (0, 0, 0, 0) := by
  have hv := (valid_iff a b c d).mp h
  have hv' := (valid_iff a' b' c' d').mp hv'
  rw [meet_plain (by omega) (by omega)]
  unfold between
  rw [if_neg]
  unfold mx mn
  repeat' split
  all_goals omega
theorem known_valid (r : Q) : valid (known r) = true := by
  unfold known
  split
  · assumption
  · decide
theorem known_of {r : Q} (h : valid r = true) : known r = r := by unfold known; rw [if_pos h]
theorem empty_known {a b c d : Int} (h : empty (a, b, c, d) = true) : ∃ a' b' c' d', known (a, b, c, d) = (a', b', c', d') ∧ valid (a', b', c', d') = true ∧ ¬ (0 < c' ∧ 0 < d') := by
  rcases known_cases a b c d with ⟨h1, e⟩ | ⟨h1, e⟩
  · refine ⟨a, b, c, d, e, h1, ?_⟩
    have := (empty_iff a b c d).mp h
    rw [h1] at this
    simp only [not_true_eq_false, false_or] at this
    omega
  · exact ⟨0, 0, 0, 0, e, by decide, by omega⟩
theorem meetR_zero_l {a b c d : Int} (h : empty (a, b, c, d) = true) (s : Q) : meetR (a, b, c, d) s = (0, 0, 0, 0) := by
  obtain ⟨a', b', c', d', e, h1, h2⟩ := empty_known h
  unfold meetR
  rw [e]
  exact meet_zero_l h1 h2 _ _ _ _ (known_valid s)
theorem meetR_zero_r {a b c d : Int} (h : empty (a, b, c, d) = true) (s : Q) : meetR s (a, b, c, d) = (0, 0, 0, 0) := by
  obtain ⟨a', b', c', d', e, h1, h2⟩ := empty_known h
  unfold meetR
  rw [e]
  exact meet_zero_r h1 h2 _ _ _ _ (known_valid s)
/-- Meeting, of two rectangles with pixels. -/
theorem meetR_ne {a b c d a' b' c' d' : Int} (h : empty (a, b, c, d) = false) (h' : empty (a', b', c', d') = false) :
    meetR (a, b, c, d) (a', b', c', d') = between (mx a a') (mx b b') (mn (a + c) (a' + c')) (mn (b + d) (b' + d')) := by
  have h1 := (nonempty_iff a b c d).mp h
  have hv := (valid_iff a b c d).mp h1.1
  have h1' := (nonempty_iff a' b' c' d').mp h'
  have hv' := (valid_iff a' b' c' d').mp h1'.1
  unfold meetR
  rw [known_of h1.1, known_of h1'.1]
  exact meet_plain (by omega) (by omega)
theorem meetF_ne {a b c d a' b' c' d' : Int} (h : empty (a, b, c, d) = false) (h' : empty (a', b', c', d') = false) : meetF (a, b, c, d) (a', b', c', d') = meetR (a, b, c, d) (a', b', c', d') := by
  have h1 := (nonempty_iff a b c d).mp h
  have hv := (valid_iff a b c d).mp h1.1
  have h1' := (nonempty_iff a' b' c' d').mp h'
  have hv' := (valid_iff a' b' c' d').mp h1'.1
  rw [meetR_ne h h']
  unfold meetF
  have r := rlo_ne h
  have r' := rlo_ne h'
  rw [r.1, r.2.1, r.2.2.1, r.2.2.2, r'.1, r'.2.1, r'.2.2.1, r'.2.2.2, mn_sub, mn_sub]
  exact between_ofQ (le_mx (by omega) (by omega)) (mx_le (by omega) (by omega)) (le_mn (by omega) (by omega)) (mn_le (by omega) (by omega)) (le_mx (by omega) (by omega)) (mx_le (by omega) (by omega)) (le_mn (by omega) (by omega)) (mn_le (by omega) (by omega))
theorem e23 (a b c d a' b' c' d' : Int) : evalF (E L4) Try.f23 [q4 a b c d, q4 a' b' c' d'] = oq (meetR (a, b, c, d) (a', b', c', d')) := t23 ..
theorem e24 (a b c d a' b' c' d' : Int) : evalF (E L4) Try.f24 [q4 a b c d, q4 a' b' c' d'] = oq (meetR (a, b, c, d) (a', b', c', d')) := by
  rw [t24]
  cases h : empty (a, b, c, d)
  · cases h' : empty (a', b', c', d')
    · rw [cond_false, cond_false, meetF_ne h h']
    · rw [cond_false, cond_true, meetR_zero_r h']
  · rw [cond_true, meetR_zero_l h]
theorem e25 (a b c d a' b' c' d' : Int) : evalF (E L4) Try.f25 [q4 a b c d, q4 a' b' c' d'] = oq (join (a, b, c, d) (a', b', c', d')) := by
  rw [t25]
  unfold join
  cases h : empty (a, b, c, d)
  · cases h' : empty (a', b', c', d')
    · have h1 := (nonempty_iff a b c d).mp h
      have hv := (valid_iff a b c d).mp h1.1
      have h1' := (nonempty_iff a' b' c' d').mp h'
      have hv' := (valid_iff a' b' c' d').mp h1'.1
      simp only [cond_false, joinP, W, Bool.false_eq_true, if_false]
      rw [W_eq (n := a + c) (by omega) (by omega), W_eq (n := b + d) (by omega) (by omega), W_eq (n := a' + c') (by omega) (by omega), W_eq (n := b' + d') (by omega) (by omega)]
    · rfl
  · cases h' : empty (a', b', c', d') <;> rfl
theorem e26 (a b c d a' b' c' d' : Int) : evalF (E L4) Try.f26 [q4 a b c d, q4 a' b' c' d'] = oq (join (a, b, c, d) (a', b', c', d')) := by
  rw [t26]
  unfold join
  cases h : empty (a, b, c, d)
  · cases h' : empty (a', b', c', d')
    · have h1 := (nonempty_iff a b c d).mp h
      have hv := (valid_iff a b c d).mp h1.1
      have h1' := (nonempty_iff a' b' c' d').mp h'
      have hv' := (valid_iff a' b' c' d').mp h1'.1
      have r := rlo_ne h
      have r' := rlo_ne h'
      have e : joinF (a, b, c, d) (a', b', c', d') = between (mn a a') (mn b b') (mx (a + c) (a' + c')) (mx (b + d) (b' + d')) := by
        unfold joinF
        rw [r.1, r.2.1, r.2.2.1, r.2.2.2, r'.1, r'.2.1, r'.2.2.1, r'.2.2.2, mx_sub, mx_sub]
        exact between_ofQ (le_mn (by omega) (by omega)) (mn_le (by omega) (by omega)) (le_mx (by omega) (by omega)) (mx_le (by omega) (by omega)) (le_mn (by omega) (by omega)) (mn_le (by omega) (by omega)) (le_mx (by omega) (by omega)) (mx_le (by omega) (by omega))
      rw [e]
      rfl
    · rfl
  · cases h' : empty (a', b', c', d') <;> rfl
theorem e27 (a b c d x y : Int) : evalF (E L4) Try.f27 [q4 a b c d, p2 x y] = oq (move (a, b, c, d) (x, y)) := by
  rw [t27]
  unfold move
  cases h : empty (a, b, c, d)
  · have h1 := (nonempty_iff a b c d).mp h
    have hv := (valid_iff a b c d).mp h1.1
    have l1 := limit_le x
    have l2 := limit_le y
    simp only [cond_false, W, Bool.false_eq_true, if_false]
    rw [W_eq (n := a + limit x) (by omega) (by omega), W_eq (n := b + limit y) (by omega) (by omega)]
  · rfl
/-- What is between corners, cut to the world. -/
theorem worldR_eq {x0 x1 y0 y1 : Int} (h0 : -10000000 ≤ x0) (h1 : x0 ≤ 10000000) (h2 : -10000000 ≤ x1) (h3 : x1 ≤ 10000000)
    (h4 : -10000000 ≤ y0) (h5 : y0 ≤ 10000000) (h6 : -10000000 ≤ y1) (h7 : y1 ≤ 10000000) :
    worldR x0 (x1 - 1) y0 (y1 - 1) = between (mx x0 (-1048576)) (mx y0 (-1048576)) (mn x1 1048576) (mn y1 1048576) := by
  unfold worldR
  rw [show (1048575 : Int) = 1048576 - 1 from rfl, mn_sub, mn_sub]
  exact between_ofQ (le_mx (by omega) (by omega)) (mx_le (by omega) (by omega)) (le_mn (by omega) (by omega)) (mn_le (by omega) (by omega)) (le_mx (by omega) (by omega)) (mx_le (by omega) (by omega)) (le_mn (by omega) (by omega)) (mn_le (by omega) (by omega))
theorem between_congr {x0 y0 x1 y1 x0' y0' x1' y1' : Int} (h : (x0 < x1 ∧ y0 < y1) ↔ (x0' < x1' ∧ y0' < y1')) (h' : x0 < x1 → y0 < y1 → x0 = x0' ∧ y0 = y0' ∧ x1 = x1' ∧ y1 = y1') :
    between x0 y0 x1 y1 = between x0' y0' x1' y1' := by
  unfold between
  by_cases hc : x0 < x1 ∧ y0 < y1
  · obtain ⟨e1, e2, e3, e4⟩ := h' hc.1 hc.2
    rw [if_pos hc, if_pos (h.mp hc), e1, e2, e3, e4]
  · rw [if_neg hc, if_neg (fun hh => hc (h.mpr hh))]
theorem e28 (a b c d x y : Int) : evalF (E L4) Try.f28 [q4 a b c d, p2 x y] = oq (move (a, b, c, d) (x, y)) := by
  rw [t28]
  unfold move
  cases h : empty (a, b, c, d)
  · have h1 := (nonempty_iff a b c d).mp h
    have hv := (valid_iff a b c d).mp h1.1
    have l1 := limit_le x
    have l2 := limit_le y
    have l3 := lim3_le x
    have l4 := lim3_le y
    obtain ⟨o1, o2⟩ := lim_or x
    obtain ⟨o3, o4⟩ := lim_or y
    have r := rlo_ne h
    simp only [cond_false, W, Bool.false_eq_true, if_false, r.1, r.2.1, r.2.2.1, r.2.2.2, worldQ]
    rw [W_eq (by omega) (by omega), W_eq (by omega) (by omega), W_eq (by omega) (by omega), W_eq (by omega) (by omega),
      show a + c - 1 + lim3 x = (a + lim3 x + c) - 1 by omega, show b + d - 1 + lim3 y = (b + lim3 y + d) - 1 by omega,
      worldR_eq (by omega) (by omega) (by omega) (by omega) (by omega) (by omega) (by omega) (by omega), meet_plain (by omega) (by omega)]
    refine congrArg oq (between_congr ?_ ?_)
    · unfold mx mn; repeat' split
      all_goals omega
    · unfold mx mn; repeat' split
      all_goals omega
  · rfl
theorem e29 (a b c d n : Int) : evalF (E L4) Try.f29 [q4 a b c d, iv n] = oq (grow (a, b, c, d) n) := by
  rw [t29]
  unfold grow
  cases h : empty (a, b, c, d)
  · have h1 := (nonempty_iff a b c d).mp h
    have hv := (valid_iff a b c d).mp h1.1
    have l1 := limit_le n
    have w1 : W (2 * limit n) = 2 * limit n := W_eq (by omega) (by omega)
    have w2 : W (c + 2 * limit n) = c + 2 * limit n := W_eq (by omega) (by omega)
    have w3 : W (d + 2 * limit n) = d + 2 * limit n := W_eq (by omega) (by omega)
    have w4 : W (a - limit n) = a - limit n := W_eq (by omega) (by omega)
    have w5 : W (b - limit n) = b - limit n := W_eq (by omega) (by omega)
    simp only [cond_false, w1, w2, w3, w4, w5, Bool.false_eq_true, false_or]
    by_cases p1 : c + 2 * limit n ≤ 0
    · rw [if_pos (.inl p1), decide_eq_true p1]; rfl
    · by_cases p2 : d + 2 * limit n ≤ 0
      · rw [if_pos (.inr p2), decide_eq_false p1, decide_eq_true p2]; rfl
      · rw [if_neg (by omega), decide_eq_false p1, decide_eq_false p2]; rfl
  · rfl
theorem e30 (a b c d n : Int) : evalF (E L4) Try.f30 [q4 a b c d, iv n] = oq (grow (a, b, c, d) n) := by
  rw [t30]
  unfold grow
  cases h : empty (a, b, c, d)
  · have h1 := (nonempty_iff a b c d).mp h
    have hv := (valid_iff a b c d).mp h1.1
    have l1 := limit_le n
    have l3 := lim3_le n
    obtain ⟨o1, o2⟩ := lim_or n
    have r := rlo_ne h
    simp only [cond_false, W, Bool.false_eq_true, false_or, r.1, r.2.1, r.2.2.1, r.2.2.2, worldQ]
    rw [W_eq (by omega) (by omega), W_eq (by omega) (by omega), W_eq (by omega) (by omega), W_eq (by omega) (by omega),
      show a + c - 1 + lim3 n = (a + c + lim3 n) - 1 by omega, show b + d - 1 + lim3 n = (b + d + lim3 n) - 1 by omega,
      worldR_eq (by omega) (by omega) (by omega) (by omega) (by omega) (by omega) (by omega) (by omega), meet_plain (by omega) (by omega)]
    by_cases p : c + 2 * limit n ≤ 0 ∨ d + 2 * limit n ≤ 0
    · rw [if_pos p]
      unfold between
      rw [if_neg]
      unfold mx mn; repeat' split
      all_goals omega
    · rw [if_neg p]
      refine congrArg oq (between_congr ?_ ?_)
      · unfold mx mn; repeat' split
        all_goals omega
      · unfold mx mn; repeat' split
        all_goals omega
  · rfl
end Go.Proofs.Ythdndibmakfifaa.Ev
