/- Meeting: commutative, associative, idempotent, and absorbed by the bounding box. Conditions: none. -/
import Derived.Test.YthdndibmakfifaaRk
namespace Go.Proofs.Ythdndibmakfifaa.Ev
open Go.Proofs
set_option linter.unusedVariables false
set_option maxHeartbeats 1000000

theorem mx_comm (a b : Int) : mx a b = mx b a := by unfold mx; split <;> split <;> omega
theorem mn_comm (a b : Int) : mn a b = mn b a := by unfold mn; split <;> split <;> omega
theorem mx_assoc (a b c : Int) : mx (mx a b) c = mx a (mx b c) := by unfold mx; repeat' split
                                                                     all_goals omega
theorem mn_assoc (a b c : Int) : mn (mn a b) c = mn a (mn b c) := by unfold mn; repeat' split
                                                                     all_goals omega
theorem mx_self (a : Int) : mx a a = a := by unfold mx; split <;> rfl
theorem mn_self (a : Int) : mn a a = a := by unfold mn; split <;> rfl
theorem mx_left (a b : Int) : a ≤ mx a b := by unfold mx; split <;> omega
theorem mn_left (a b : Int) : mn a b ≤ a := by unfold mn; split <;> omega
theorem empty_zero : empty (0, 0, 0, 0) = true := by decide
theorem between_no {x0 y0 x1 y1 : Int} (h : x0 < x1 → ¬ y0 < y1) : between x0 y0 x1 y1 = (0, 0, 0, 0) := by
  unfold between
  rw [if_neg fun h2 => h h2.1 h2.2]
theorem meetR_comm (a b : Q) : meetR a b = meetR b a := by
  obtain ⟨a, a2, a3, a4⟩ := a
  obtain ⟨b, b2, b3, b4⟩ := b
  cases ha : empty (a, a2, a3, a4)
  · cases hb : empty (b, b2, b3, b4)
    · rw [meetR_ne ha hb, meetR_ne hb ha, mx_comm a b, mx_comm a2 b2, mn_comm (a + a3), mn_comm (a2 + a4)]
    · rw [meetR_zero_r hb, meetR_zero_l hb]
  · rw [meetR_zero_l ha, meetR_zero_r ha]
/-- The corners' bounds of a rectangle with pixels. -/
theorem ne_bounds {a b c d : Int} (h : empty (a, b, c, d) = false) : -1048576 ≤ a ∧ a < a + c ∧ a + c ≤ 1048576 ∧ -1048576 ≤ b ∧ b < b + d ∧ b + d ≤ 1048576 := by
  have h1 := (nonempty_iff a b c d).mp h
  have hv := (valid_iff a b c d).mp h1.1
  omega
theorem between_zero {x0 y0 x1 y1 : Int} (h0 : -1048576 ≤ x0) (h1 : x1 ≤ 1048576) (h2 : -1048576 ≤ y0) (h3 : y1 ≤ 1048576) (h : empty (between x0 y0 x1 y1) = true) : x0 < x1 → ¬ y0 < y1 := by
  intro hx hy
  unfold between at h
  rw [if_pos ⟨hx, hy⟩, W_eq (n := x1 - x0) (by omega) (by omega), W_eq (n := y1 - y0) (by omega) (by omega), (nonempty_iff ..).mpr ⟨(valid_iff ..).mpr (by omega), by omega, by omega⟩] at h
  cases h
theorem meetR_bounds {a b c d a' b' c' d' : Int} (ha : empty (a, b, c, d) = false) (hb : empty (a', b', c', d') = false) :
    -1048576 ≤ mx a a' ∧ mn (a + c) (a' + c') ≤ 1048576 ∧ -1048576 ≤ mx b b' ∧ mn (b + d) (b' + d') ≤ 1048576 := by
  have h := ne_bounds ha
  have h' := ne_bounds hb
  have := mx_left a a'
  have := mx_left b b'
  have := mn_left (a + c) (a' + c')
  have := mn_left (b + d) (b' + d')
  omega
theorem meetR_empty {a b : Q} (h : empty (meetR a b) = true) : meetR a b = (0, 0, 0, 0) := by
  obtain ⟨a, a2, a3, a4⟩ := a
  obtain ⟨b, b2, b3, b4⟩ := b
  cases ha : empty (a, a2, a3, a4)
  · cases hb : empty (b, b2, b3, b4)
    · rw [meetR_ne ha hb] at h ⊢
      have hh := meetR_bounds ha hb
      exact between_no (between_zero hh.1 hh.2.1 hh.2.2.1 hh.2.2.2 h)
    · exact meetR_zero_r hb _
  · exact meetR_zero_l ha _
theorem meetR_three {a b c d a' b' c' d' x y z w : Int} (ha : empty (a, b, c, d) = false) (hb : empty (a', b', c', d') = false) (hc : empty (x, y, z, w) = false) :
    meetR (meetR (a, b, c, d) (a', b', c', d')) (x, y, z, w) = between (mx (mx a a') x) (mx (mx b b') y) (mn (mn (a + c) (a' + c')) (x + z)) (mn (mn (b + d) (b' + d')) (y + w)) := by
  cases h : empty (meetR (a, b, c, d) (a', b', c', d'))
  · obtain ⟨m1, m2, m3, m4, em, -, -, q3, q4, f1, f2, f3, f4⟩ := meetR_sub h
    rw [em] at h ⊢
    rw [meetR_ne h hc, f3, f4, f1, f2]
  · rw [meetR_empty h, meetR_zero_l empty_zero]
    have hh := meetR_bounds ha hb
    rw [meetR_ne ha hb] at h
    have hz := between_zero hh.1 hh.2.1 hh.2.2.1 hh.2.2.2 h
    refine (between_no fun h1 h2 => ?_).symm
    have := mx_left (mx a a') x
    have := mx_left (mx b b') y
    have := mn_left (mn (a + c) (a' + c')) (x + z)
    have := mn_left (mn (b + d) (b' + d')) (y + w)
    exact hz (by omega) (by omega)
theorem meetR_assoc (a b c : Q) : meetR (meetR a b) c = meetR a (meetR b c) := by
  obtain ⟨a, a2, a3, a4⟩ := a
  obtain ⟨b, b2, b3, b4⟩ := b
  obtain ⟨c, c2, c3, c4⟩ := c
  cases ha : empty (a, a2, a3, a4)
  · cases hb : empty (b, b2, b3, b4)
    · cases hc : empty (c, c2, c3, c4)
      · rw [meetR_comm (a, a2, a3, a4) (meetR _ _), meetR_three ha hb hc, meetR_three hb hc ha]
        simp only [mx_assoc, mn_assoc]
        rw [mx_comm a, mx_comm a2, mn_comm (a + a3), mn_comm (a2 + a4)]
        simp only [mx_assoc, mn_assoc]
      · rw [meetR_zero_r hc, meetR_zero_r hc, meetR_zero_r empty_zero]
    · rw [meetR_zero_r hb, meetR_zero_l hb, meetR_zero_l empty_zero, meetR_zero_r empty_zero]
  · rw [meetR_zero_l ha, meetR_zero_l ha, meetR_zero_l empty_zero]
theorem between_self {a b c d : Int} (h : empty (a, b, c, d) = false) : between a b (a + c) (b + d) = (a, b, c, d) := by
  have hh := ne_bounds h
  unfold between
  rw [if_pos (by omega), W_eq (n := a + c - a) (by omega) (by omega), W_eq (n := b + d - b) (by omega) (by omega), show a + c - a = c by omega, show b + d - b = d by omega]
theorem meetR_self {a : Q} (h : empty a = false) : meetR a a = a := by
  obtain ⟨a, a2, a3, a4⟩ := a
  rw [meetR_ne h h, mx_self, mx_self, mn_self, mn_self, between_self h]
theorem meetR_idem (a b : Q) : meetR (meetR a b) (meetR a b) = meetR a b := by
  cases h : empty (meetR a b)
  · exact meetR_self h
  · rw [meetR_empty h]; exact meetR_zero_l empty_zero _
theorem within_l (a b : Q) : within (meetR a b) a = true := by
  obtain ⟨a, a2, a3, a4⟩ := a
  obtain ⟨b, b2, b3, b4⟩ := b
  cases h : empty (meetR (a, a2, a3, a4) (b, b2, b3, b4))
  · obtain ⟨m1, m2, m3, m4, em, ha, hb, q3, q4, f1, f2, f3, f4⟩ := meetR_sub h
    rw [em]
    unfold within
    rw [known_of ((nonempty_iff ..).mp ha).1]
    have := mx_left a b
    have := mx_left a2 b2
    have := mn_left (a + a3) (b + b3)
    have := mn_left (a2 + a4) (b2 + b4)
    rw [decide_eq_true (by simp only; omega), Bool.or_true]
  · unfold within
    rw [h]; rfl
theorem within_r (a b : Q) : within (meetR a b) b = true := by
  rw [meetR_comm]; exact within_l b a
theorem meetR_join {a : Q} (b : Q) (h : empty a = false) : meetR a (join a b) = a := by
  obtain ⟨a, a2, a3, a4⟩ := a
  obtain ⟨b, b2, b3, b4⟩ := b
  unfold join
  rw [h, if_neg (by decide)]
  cases hb : empty (b, b2, b3, b4)
  · rw [if_neg (by decide)]
    have k := ne_bounds h
    have k' := ne_bounds hb
    simp only
    generalize e1 : mn a b = p
    generalize e2 : mn a2 b2 = q
    generalize e3 : mx (a + a3) (b + b3) = r
    generalize e4 : mx (a2 + a4) (b2 + b4) = s
    have r1 : p ≤ a := by rw [← e1]; exact mn_left ..
    have r2 : q ≤ a2 := by rw [← e2]; exact mn_left ..
    have r3 : a + a3 ≤ r := by rw [← e3]; exact mx_left ..
    have r4 : a2 + a4 ≤ s := by rw [← e4]; exact mx_left ..
    have l1 : -1048576 ≤ p := by rw [← e1]; exact le_mn (by omega) (by omega)
    have l2 : -1048576 ≤ q := by rw [← e2]; exact le_mn (by omega) (by omega)
    have l3 : r ≤ 1048576 := by rw [← e3]; exact mx_le (by omega) (by omega)
    have l4 : s ≤ 1048576 := by rw [← e4]; exact mx_le (by omega) (by omega)
    unfold between
    rw [if_pos (by omega), W_eq (n := r - p) (by omega) (by omega), W_eq (n := s - q) (by omega) (by omega)]
    have hn : empty (p, q, r - p, s - q) = false := (nonempty_iff ..).mpr ⟨(valid_iff ..).mpr (by omega), by omega, by omega⟩
    rw [meetR_ne h hn, show mx a p = a by unfold mx; split <;> omega, show mx a2 q = a2 by unfold mx; split <;> omega,
      show mn (a + a3) (p + (r - p)) = a + a3 by unfold mn; split <;> omega, show mn (a2 + a4) (q + (s - q)) = a2 + a4 by unfold mn; split <;> omega, between_self h]
  · rw [if_pos rfl]; exact meetR_self h
end Go.Proofs.Ythdndibmakfifaa.Ev
