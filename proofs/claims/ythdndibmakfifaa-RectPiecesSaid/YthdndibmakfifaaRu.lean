/- The pieces of a difference: not empty, inside, apart, and complete. Conditions: none. -/
import Derived.Test.YthdndibmakfifaaRs
namespace Go.Proofs.Ythdndibmakfifaa.Ev
open Go.Proofs
set_option linter.unusedVariables false
set_option maxHeartbeats 1000000

/-- A rectangle between corners: none, or one with pixels. -/
theorem between_or {x0 y0 x1 y1 : Int} (h0 : -1048576 ≤ x0) (h1 : x1 ≤ 1048576) (h2 : -1048576 ≤ y0) (h3 : y1 ≤ 1048576) :
    zq (between x0 y0 x1 y1) = true ∨ between x0 y0 x1 y1 = (x0, y0, x1 - x0, y1 - y0) ∧ x0 < x1 ∧ y0 < y1 ∧ empty (x0, y0, x1 - x0, y1 - y0) = false := by
  unfold between
  by_cases h : x0 < x1 ∧ y0 < y1
  · rw [if_pos h, W_eq (n := x1 - x0) (by omega) (by omega), W_eq (n := y1 - y0) (by omega) (by omega)]
    exact .inr ⟨rfl, h.1, h.2, (nonempty_iff ..).mpr ⟨(valid_iff ..).mpr (by omega), by omega, by omega⟩⟩
  · rw [if_neg h]
    exact .inl (by decide)
/-- Rectangles apart have nothing in common. -/
theorem apart {a b c d a' b' c' d' : Int} (h : a + c ≤ a' ∨ a' + c' ≤ a ∨ b + d ≤ b' ∨ b' + d' ≤ b) : meetR (a, b, c, d) (a', b', c', d') = (0, 0, 0, 0) := by
  cases ha : empty (a, b, c, d)
  · cases hb : empty (a', b', c', d')
    · rw [meetR_ne ha hb]
      refine between_no fun h1 h2 => ?_
      have := mx_left a a'
      have := mx_left b b'
      have := mn_left (a + c) (a' + c')
      have := mn_left (b + d) (b' + d')
      have := mx_left a' a
      have := mx_left b' b
      have := mn_left (a' + c') (a + c)
      have := mn_left (b' + d') (b + d)
      rw [mx_comm a' a] at *
      rw [mx_comm b' b] at *
      rw [mn_comm (a' + c') (a + c)] at *
      rw [mn_comm (b' + d') (b + d)] at *
      omega
    · exact meetR_zero_r hb _
  · exact meetR_zero_l ha _
/-- The good pieces of a list. -/
structure Good (a b : Q) (l : List Q) : Prop where
  ne : ∀ x ∈ l, empty x = false ∧ within x a = true ∧ empty (meetR x b) = true
  ap : l.Pairwise fun y x => empty (meetR x y) = true
def sumA : List Q → Int
  | [] => 0
  | x :: l => area x + sumA l
theorem area_nonneg (r : Q) : 0 ≤ area r ∧ area r ≤ 4398046511104 := by
  obtain ⟨a, b, c, d⟩ := r
  unfold area
  rcases known_cases a b c d with ⟨h, e⟩ | ⟨h, e⟩ <;> rw [e]
  · have hv := (valid_iff a b c d).mp h
    exact area_small (c := c) (d := d) (by omega) (by omega) (by omega) (by omega)
  · decide
theorem area_empty {r : Q} (h : empty r = true) : area r = 0 := by
  obtain ⟨a, b, c, d⟩ := r
  unfold area
  have he := (empty_iff a b c d).mp h
  rcases known_cases a b c d with ⟨h2, e⟩ | ⟨h2, e⟩ <;> rw [e]
  · rw [h2] at he
    rcases (show c = 0 ∨ d = 0 by simpa using he) with h | h <;> simp only <;> rw [h]
    · exact Int.zero_mul _
    · exact Int.mul_zero _
  · rfl
theorem zq_empty {r : Q} (h : zq r = true) : area r = 0 := by
  obtain ⟨a, b, c, d⟩ := r
  simp only [zq, Bool.and_eq_true, beq_iff_eq] at h
  obtain ⟨rfl, rfl, rfl, rfl, -⟩ := h
  decide
theorem nz_sub : ∀ l, ∀ x ∈ nz l, x ∈ l ∧ zq x = false
  | [], _, h => nomatch h
  | r :: l, x, h => by
    rw [show nz (r :: l) = if zq r = true then nz l else r :: nz l from rfl] at h
    split at h
    · exact ⟨List.mem_cons_of_mem _ (nz_sub l x h).1, (nz_sub l x h).2⟩
    · rcases List.mem_cons.mp h with h2 | h2
      · subst h2; exact ⟨List.mem_cons_self .., Bool.not_eq_true _ |>.mp ‹_›⟩
      · exact ⟨List.mem_cons_of_mem _ (nz_sub l x h2).1, (nz_sub l x h2).2⟩
theorem nz_apart {P : Q → Q → Prop} : ∀ l : List Q, l.Pairwise (fun y x => zq y = false → zq x = false → P x y) → (nz l).Pairwise (fun y x => P x y)
  | [], _ => .nil
  | r :: l, h => by
    rw [show nz (r :: l) = if zq r = true then nz l else r :: nz l from rfl]
    cases h with
    | cons h1 h2 =>
      split
      · exact nz_apart l h2
      · exact .cons (fun x hx => h1 x (nz_sub l x hx).1 (Bool.not_eq_true _ |>.mp ‹_›) (nz_sub l x hx).2) (nz_apart l h2)
theorem nz_sum : ∀ l, sumA (nz l) = sumA l
  | [] => rfl
  | r :: l => by
    rw [show nz (r :: l) = if zq r = true then nz l else r :: nz l from rfl]
    split
    · rw [nz_sum l, sumA, zq_empty ‹_›, Int.zero_add]
    · rw [sumA, sumA, nz_sum l]
theorem within_self (a : Q) : within a a = true := by
  have := within_l a a
  cases h : empty a
  · rwa [meetR_self h] at this
  · unfold within; rw [h]; rfl
/-- What lies in the first one, apart from what both share, has nothing in common with the second one. -/
theorem apart_of {x a b : Q} (hx : meetR x a = x) (h : meetR x (meetR a b) = (0, 0, 0, 0)) : empty (meetR x b) = true := by
  have : meetR x b = (0, 0, 0, 0) := by rw [← hx, meetR_assoc, h]
  rw [this]; exact empty_zero
theorem meetR_in {x y w z a b c d : Int} (hx : empty (x, y, w, z) = false) (ha : empty (a, b, c, d) = false) (h1 : a ≤ x) (h2 : b ≤ y) (h3 : x + w ≤ a + c) (h4 : y + z ≤ b + d) : meetR (x, y, w, z) (a, b, c, d) = (x, y, w, z) := by
  rw [meetR_ne hx ha, show mx x a = x by unfold mx; split <;> omega, show mx y b = y by unfold mx; split <;> omega, show mn (x + w) (a + c) = x + w by unfold mn; split <;> omega, show mn (y + z) (b + d) = y + z by unfold mn; split <;> omega, between_self hx]
theorem piece_ok {x0 y0 x1 y1 a b c d m1 m2 m3 m4 : Int} {s : Q} (ha : empty (a, b, c, d) = false) (hm : meetR (a, b, c, d) s = (m1, m2, m3, m4)) (h1 : a ≤ x0) (h2 : b ≤ y0) (h3 : x1 ≤ a + c) (h4 : y1 ≤ b + d)
    (hz : zq (between x0 y0 x1 y1) = false) (hp : x1 ≤ m1 ∨ m1 + m3 ≤ x0 ∨ y1 ≤ m2 ∨ m2 + m4 ≤ y0) :
    empty (between x0 y0 x1 y1) = false ∧ within (between x0 y0 x1 y1) (a, b, c, d) = true ∧ empty (meetR (between x0 y0 x1 y1) s) = true := by
  have hh := ne_bounds ha
  rcases between_or (x0 := x0) (y0 := y0) (x1 := x1) (y1 := y1) (by omega) (by omega) (by omega) (by omega) with h | ⟨e, q1, q2, q3⟩
  · rw [h] at hz; cases hz
  · rw [e]
    have hi := meetR_in q3 ha h1 h2 (by omega) (by omega)
    refine ⟨q3, ?_, apart_of hi ?_⟩
    · rw [← hi]; exact within_r _ _
    · rw [hm]; exact apart (by omega)
theorem pieces_apart {x0 y0 x1 y1 x2 y2 x3 y3 : Int} (h0 : -1048576 ≤ x0) (h1 : x1 ≤ 1048576) (h2 : -1048576 ≤ y0) (h3 : y1 ≤ 1048576) (g0 : -1048576 ≤ x2) (g1 : x3 ≤ 1048576) (g2 : -1048576 ≤ y2) (g3 : y3 ≤ 1048576)
    (hs : x3 ≤ x0 ∨ y3 ≤ y0) (z1 : zq (between x2 y2 x3 y3) = false) (z2 : zq (between x0 y0 x1 y1) = false) : empty (meetR (between x0 y0 x1 y1) (between x2 y2 x3 y3)) = true := by
  rcases between_or h0 h1 h2 h3 with h | ⟨e, q1, q2, q3⟩
  · rw [h] at z2; cases z2
  · rcases between_or g0 g1 g2 g3 with h | ⟨e', q1', q2', q3'⟩
    · rw [h] at z1; cases z1
    · rw [e, e', apart (by omega)]; exact empty_zero
theorem minus_good (a b : Q) : Good a b (minus a b) ∧ area (meetR a b) + sumA (minus a b) = area a := by
  unfold minus
  cases ha : empty a
  · rw [if_neg (by decide)]
    cases hm : empty (meetR a b)
    · rw [if_neg (by decide)]
      obtain ⟨a, a2, c, d⟩ := a
      obtain ⟨b, b2, b3, b4⟩ := b
      obtain ⟨m1, m2, m3, m4, em, -, hb, q3, q4, f1, f2, f3, f4⟩ := meetR_sub hm
      have hh := ne_bounds ha
      have k1 : a ≤ m1 := by rw [f1]; exact mx_left ..
      have k2 : a2 ≤ m2 := by rw [f2]; exact mx_left ..
      have k3 : m1 + m3 ≤ a + c := by rw [f3]; exact mn_left ..
      have k4 : m2 + m4 ≤ a2 + d := by rw [f4]; exact mn_left ..
      clear f1 f2 f3 f4
      refine ⟨⟨fun x hx => ?_, ?_⟩, ?_⟩
      · obtain ⟨hx, hz⟩ := nz_sub _ _ hx
        rw [em] at hx
        simp only [parts, List.mem_cons, List.not_mem_nil, or_false] at hx
        rcases hx with rfl | rfl | rfl | rfl
        · exact piece_ok ha em (by omega) (by omega) (by omega) (by omega) hz (by omega)
        · exact piece_ok ha em (by omega) (by omega) (by omega) (by omega) hz (by omega)
        · exact piece_ok ha em (by omega) (by omega) (by omega) (by omega) hz (by omega)
        · exact piece_ok ha em (by omega) (by omega) (by omega) (by omega) hz (by omega)
      · refine nz_apart (P := fun x y => empty (meetR x y) = true) _ ?_
        rw [em]
        simp only [parts, List.pairwise_cons, List.mem_cons, List.not_mem_nil, or_false, false_imp_iff, implies_true, List.Pairwise.nil, and_true]
        refine ⟨fun x hx z1 z2 => ?_, fun x hx z1 z2 => ?_, fun x hx z1 z2 => ?_⟩
        · rcases hx with rfl | rfl | rfl
          · exact pieces_apart (by omega) (by omega) (by omega) (by omega) (by omega) (by omega) (by omega) (by omega) (by omega) z1 z2
          · exact pieces_apart (by omega) (by omega) (by omega) (by omega) (by omega) (by omega) (by omega) (by omega) (by omega) z1 z2
          · exact pieces_apart (by omega) (by omega) (by omega) (by omega) (by omega) (by omega) (by omega) (by omega) (by omega) z1 z2
        · rcases hx with rfl | rfl
          · exact pieces_apart (by omega) (by omega) (by omega) (by omega) (by omega) (by omega) (by omega) (by omega) (by omega) z1 z2
          · exact pieces_apart (by omega) (by omega) (by omega) (by omega) (by omega) (by omega) (by omega) (by omega) (by omega) z1 z2
        · subst hx
          exact pieces_apart (by omega) (by omega) (by omega) (by omega) (by omega) (by omega) (by omega) (by omega) (by omega) z1 z2
      · rw [nz_sum, em]
        simp only [parts, sumA]
        rw [area_between (by omega) (by omega) (by omega) (by omega) (by omega) (by omega), area_between (by omega) (by omega) (by omega) (by omega) (by omega) (by omega),
          area_between (by omega) (by omega) (by omega) (by omega) (by omega) (by omega), area_between (by omega) (by omega) (by omega) (by omega) (by omega) (by omega)]
        have e1 : area (a, a2, c, d) = c * d := by unfold area; rw [known_of ((nonempty_iff ..).mp ha).1]
        have e2 : area (m1, m2, m3, m4) = m3 * m4 := by unfold area; rw [em] at hm; rw [known_of ((nonempty_iff ..).mp hm).1]
        rw [e1, e2]
        grind
    · rw [if_pos rfl]
      refine ⟨⟨fun x hx => ?_, List.pairwise_singleton ..⟩, ?_⟩
      · obtain rfl := List.mem_singleton.mp hx
        exact ⟨ha, within_self _, hm⟩
      · rw [area_empty hm, Int.zero_add, sumA, sumA, Int.add_zero]
  · rw [if_pos rfl]
    refine ⟨⟨fun x hx => (nomatch hx), .nil⟩, ?_⟩
    obtain ⟨a, a2, c, d⟩ := a
    rw [meetR_zero_l ha, area_empty ha]
    decide
end Go.Proofs.Ythdndibmakfifaa.Ev
