/- Sums over the edges of polygons: turned round, begun elsewhere, cut, moved. Conditions: none. -/
import Derived.Test.YtbgfgadekmemeaaDd
namespace Go.Proofs.Ytbgfgadekmemeaa.Ev
open Go.Proofs
set_option linter.unusedVariables false
set_option linter.unusedSimpArgs false
set_option maxRecDepth 100000
set_option maxHeartbeats 1000000

/-! ### Sums along a path -/
section
variable (g : Pt → Pt → Int)
def path : List Pt → Int
  | a :: b :: t => g a b + path (b :: t)
  | _ => 0
/-- The sum over a polygon's edges. -/
def sumG (l : List Pt) : Int := path g (l ++ l.take 1)
def sumK (l : List Pt) : Nat → Nat → Int
  | 0, _ => 0
  | k + 1, i => g (l.getD i (0, 0)) (l.getD (nx l i) (0, 0)) + sumK l k (i + 1)
theorem path_app (m : Pt) (ys : List Pt) : ∀ xs : List Pt, path g (xs ++ m :: ys) = path g (xs ++ [m]) + path g (m :: ys)
  | [] => by simp [path]
  | [a] => by simp only [List.cons_append, List.nil_append, path]; omega
  | a :: b :: t => by
    have := path_app m ys (b :: t)
    simp only [List.cons_append, path] at this ⊢
    omega
theorem path_rev (h : ∀ p q, g q p = -g p q) : ∀ l : List Pt, path g l.reverse = -path g l
  | [] => rfl
  | [a] => rfl
  | a :: b :: t => by
    have := path_rev h (b :: t)
    have e : (a :: b :: t).reverse = t.reverse ++ b :: [a] := by simp
    rw [e, path_app, path, ← List.reverse_cons, this]
    simp only [path]
    rw [h a b]
    omega
theorem sumK_eq (l : List Pt) : ∀ (k i : Nat), i + k = l.length → 0 < k → sumK g l k i = path g (l.drop i ++ l.take 1)
  | 0, _, _, h => absurd h (Nat.lt_irrefl 0)
  | 1, i, hi, _ => by
    have h1 : i < l.length := by omega
    rw [sumK, sumK, List.drop_eq_getElem_cons h1, List.drop_eq_nil_of_le (by omega), getP_at h1]
    unfold nx
    rw [if_pos hi, getP_at (by omega : 0 < l.length)]
    have e : l.take 1 = [l[0]] := by
      cases l with
      | nil => simp at h1
      | cons a t => rfl
    rw [e]
    rfl
  | k + 2, i, hi, _ => by
    have h1 : i < l.length := by omega
    have h2 : i + 1 < l.length := by omega
    have := sumK_eq l (k + 1) (i + 1) (by omega) (by omega)
    rw [sumK, this, List.drop_eq_getElem_cons h1, List.drop_eq_getElem_cons h2, getP_at h1]
    unfold nx
    rw [if_neg (by omega), getP_at h2]
    rfl
theorem sumK_all (l : List Pt) : sumK g l l.length 0 = sumG g l := by
  cases l with
  | nil => rfl
  | cons a t => exact sumK_eq g (a :: t) (a :: t).length 0 (by simp) (by simp)
theorem sumG_rev (h : ∀ p q, g q p = -g p q) (l : List Pt) : sumG g l.reverse = -sumG g l := by
  unfold sumG
  cases l with
  | nil => rfl
  | cons a t =>
    -- the last point
    obtain ⟨s, z, hz⟩ : ∃ s z, a :: t = s ++ [z] := ⟨(a :: t).dropLast, (a :: t).getLast (by simp), (List.dropLast_concat_getLast (by simp)).symm⟩
    have e1 : ((a :: t).reverse).take 1 = [z] := by rw [hz]; simp
    rw [e1]
    have e2 : (a :: t).reverse ++ [z] = (z :: a :: t).reverse := by simp
    rw [e2, path_rev g h]
    congr 1
    have e4 : path g ((a :: t) ++ [a]) = path g (a :: t) + g z a := by
      rw [hz, List.append_assoc]
      show path g (s ++ z :: [a]) = _
      rw [path_app]
      simp only [path]
      omega
    show g z a + path g (a :: t) = path g ((a :: t) ++ [a])
    rw [e4]
    omega
theorem sumG_rot (a : Pt) (t : List Pt) : sumG g (t ++ [a]) = sumG g (a :: t) := by
  unfold sumG
  cases t with
  | nil => rfl
  | cons b t =>
    simp only [List.cons_append, List.take_succ_cons, List.take_zero, path]
    have e : b :: (t ++ [a] ++ [b]) = (b :: t) ++ a :: [b] := by simp
    rw [e, path_app]
    simp only [path, List.cons_append]
    omega
/-- A polygon cut in two. -/
theorem sumG_cut (h : ∀ p q, g q p = -g p q) (l : List Pt) (k : Nat) (hk : k < l.length) : sumG g (l.take (k + 1)) + sumG g (l.drop k ++ l.take 1) = sumG g l := by
  unfold sumG
  obtain ⟨a, t, rfl⟩ : ∃ a t, l = a :: t := by
    cases l with
    | nil => simp at hk
    | cons a t => exact ⟨a, t, rfl⟩
  have hm : (a :: t).drop k = (a :: t)[k] :: (a :: t).drop (k + 1) := List.drop_eq_getElem_cons hk
  have ht : (a :: t).take (k + 1) = (a :: t).take k ++ [(a :: t)[k]] := by rw [List.take_add_one, List.getElem?_eq_getElem hk]; rfl
  have e1 : ((a :: t).take (k + 1)).take 1 = [a] := by simp
  have e2 : ((a :: t).drop k ++ (a :: t).take 1).take 1 = [(a :: t)[k]] := by rw [hm]; rfl
  have e3 : (a :: t).take 1 = [a] := rfl
  rw [e1, e2, e3]
  generalize hmd : (a :: t)[k] = m at *
  have e4 : (a :: t) ++ [a] = (a :: t).take k ++ m :: ((a :: t).drop (k + 1) ++ [a]) := by
    rw [← List.cons_append, ← hm, ← List.append_assoc, List.take_append_drop]
  have e5 : (a :: t).take (k + 1) ++ [a] = (a :: t).take k ++ m :: [a] := by rw [ht]; simp
  have e6 : (a :: t).drop k ++ [a] ++ [m] = (m :: (a :: t).drop (k + 1)) ++ a :: [m] := by rw [hm]; simp
  rw [e4, e5, e6, path_app, path_app g m ((a :: t).drop (k + 1) ++ [a]), path_app g a [m]]
  have e7 : path g (m :: (a :: t).drop (k + 1) ++ [a]) = path g (m :: ((a :: t).drop (k + 1) ++ [a])) := rfl
  rw [e7]
  simp only [path]
  have := h m a
  omega
end
/-! ### Edges at a sample -/
theorem crw_anti (x y : Int) (p q : Pt) : crw q p x y = -crw p q x y := by
  obtain ⟨a, b⟩ := p
  obtain ⟨c, d⟩ := q
  unfold crw lo2 hi2
  simp only
  rcases Int.lt_trichotomy b d with h | h | h
  · rw [crs_swap (a := a) (b := b) (c := c) (d := d) h, if_pos (by omega : b < d), if_neg (by omega : ¬ d < b), if_neg (by omega : ¬ b > d), if_pos (by omega : d > b), decide_eq_true (by omega : d > b), decide_eq_false (by omega : ¬ b > d)]
    cases decide (b > y) <;> cases decide (d ≤ y) <;> cases decide (x < crs (a, b) (c, d) y) <;> rfl
  · subst h
    simp only [gt_iff_lt, Int.lt_irrefl, if_false]
    by_cases c1 : y < b
    · rw [decide_eq_true c1]; rfl
    · rw [decide_eq_false c1, decide_eq_true (by omega : b ≤ y)]; rfl
  · rw [crs_swap (a := c) (b := d) (c := a) (d := b) h, if_neg (by omega : ¬ b < d), if_pos (by omega : d < b), if_pos (by omega : b > d), if_neg (by omega : ¬ d > b), decide_eq_false (by omega : ¬ d > b), decide_eq_true (by omega : b > d)]
    cases decide (d > y) <;> cases decide (b ≤ y) <;> cases decide (x < crs (c, d) (a, b) y) <;> rfl
/-- The turns around a sample, as one sum. -/
def turn (l : List Pt) (x y : Int) : Int := sumG (fun p q => crw p q x y) l
def turns (ps : Ps) (x y : Int) : Int := (ps.map fun l => turn l x y).sum
theorem accL_eq (l : List Pt) (x y : Int) : ∀ (k i : Nat) (n : Int), W n = n → accL l x y k i n = W (n + sumK (fun p q => crw p q x y) l k i)
  | 0, i, n, h => by rw [accL, sumK, Int.add_zero, h]
  | k + 1, i, n, h => by rw [accL, accL_eq l x y k (i + 1) _ (W_idem _), W_add, sumK, Int.add_assoc]
theorem accP_eq (x y : Int) : ∀ (ps : Ps) (n : Int), W n = n → accP x y ps n = W (n + turns ps x y)
  | [], n, h => by rw [accP]; simp [turns, h]
  | l :: ls, n, h => by
    have e : accL l x y l.length 0 n = W (n + turn l x y) := by rw [accL_eq l x y _ _ _ h, sumK_all]; rfl
    rw [accP, e, accP_eq x y ls _ (W_idem _), W_add]
    simp only [turns, List.map_cons, List.sum_cons]
    congr 1; omega
theorem wnd_eq (ps : Ps) (x y : Int) : wnd ps x y = W (turns ps x y) := by
  unfold wnd
  rw [accP_eq x y ps 0 (W_small (by omega) (by omega)), Int.zero_add]
theorem insW_neg (rule n : Int) : insW rule (W (-n)) = insW rule (W n) := by
  have h1 : (W (-n) != 0) = (W n != 0) := by
    rw [Bool.eq_iff_iff, bne_iff_ne, bne_iff_ne]
    unfold W
    rw [IntKind.wrap_i64, IntKind.wrap_i64]
    omega
  have h2 : oddB (W (-n)) = oddB (W n) := by
    rw [oddB_eq, oddB_eq, Bool.eq_iff_iff, bne_iff_ne, bne_iff_ne]
    have k : ∀ w : Int, w.tmod 2 = 0 ↔ w % 2 = 0 := fun w => by rw [← Int.dvd_iff_emod_eq_zero, ← Int.dvd_iff_tmod_eq_zero]
    rw [ne_eq, ne_eq, k, k]
    unfold W
    rw [IntKind.wrap_i64, IntKind.wrap_i64]
    omega
  unfold insW
  rw [h1, h2]
/-! ### Edges moved -/
theorem crs_move (u v : Int) (p q : Pt) (h : p.2 ≠ q.2) (y : Int) : crs (p.1 + u, p.2 + v) (q.1 + u, q.2 + v) (y + v) = crs p q y + u := by
  obtain ⟨a, b⟩ := p
  obtain ⟨c, d⟩ := q
  simp only at h
  have e : nmr (a + u, b + v) (c + u, d + v) (y + v) = nmr (a, b) (c, d) y + u * (2 * (d - b)) := by
    unfold nmr
    simp only
    rw [show d + v - (b + v) = d - b by omega, show c + u - (a + u) = c - a by omega, show 2 * (y + v) + 1 - 2 * (b + v) = 2 * y + 1 - 2 * b by omega, Int.mul_add, Int.add_mul, Int.mul_left_comm u 2 (d - b), Int.mul_assoc 2 u (d - b)]
    omega
  unfold crs
  simp only
  rw [e, decide_eq_decide.mpr (by omega : d + v < b + v ↔ d < b), show b + v - (d + v) = b - d by omega, show d + v - (b + v) = d - b by omega]
  by_cases hb : d < b
  · rw [decide_eq_true hb, cond_true, cond_true]
    have e2 : nmr (a, b) (c, d) y + u * (2 * (d - b)) = nmr (a, b) (c, d) y + (-u) * (2 * (b - d)) := by
      rw [Int.neg_mul, ← Int.mul_neg, show -(2 * (b - d)) = 2 * (d - b) by omega]
    rw [e2, Int.add_mul_ediv_right _ _ (by omega : 2 * (b - d) ≠ 0)]
    omega
  · rw [decide_eq_false hb, cond_false, cond_false]
    have e2 : -(nmr (a, b) (c, d) y + u * (2 * (d - b))) = -nmr (a, b) (c, d) y + (-u) * (2 * (d - b)) := by rw [Int.neg_mul]; omega
    rw [e2, Int.add_mul_ediv_right _ _ (by omega : 2 * (d - b) ≠ 0)]
    omega
theorem crw_move (u v : Int) (p q : Pt) (x y : Int) : crw (p.1 + u, p.2 + v) (q.1 + u, q.2 + v) (x + u) (y + v) = crw p q x y := by
  obtain ⟨a, b⟩ := p
  obtain ⟨c, d⟩ := q
  have e1 : lo2 (b + v) (d + v) = lo2 b d + v := by unfold lo2; split <;> split <;> omega
  have e2 : hi2 (b + v) (d + v) = hi2 b d + v := by unfold hi2; split <;> split <;> omega
  unfold crw
  simp only
  rw [e1, e2]
  have f1 : decide (lo2 b d + v > y + v) = decide (lo2 b d > y) := decide_eq_decide.mpr (by omega)
  have f2 : decide (hi2 b d + v ≤ y + v) = decide (hi2 b d ≤ y) := decide_eq_decide.mpr (by omega)
  have f3 : decide (b + v > d + v) = decide (b > d) := decide_eq_decide.mpr (by omega)
  rw [f1, f2, f3]
  by_cases h : b = d
  · subst h
    have hl : lo2 b b = b := by unfold lo2; split <;> rfl
    have hh : hi2 b b = b := by unfold hi2; split <;> rfl
    rw [hl, hh]
    by_cases c1 : b > y
    · rw [decide_eq_true c1]; rfl
    · rw [decide_eq_false c1, decide_eq_true (by omega : b ≤ y)]; rfl
  · have := crs_move u v (a, b) (c, d) h y
    simp only at this
    have f4 : decide (x + u < crs (a, b) (c, d) y + u) = decide (x < crs (a, b) (c, d) y) := decide_eq_decide.mpr (by omega)
    rw [this, f4]
def mvP (u v : Int) (p : Pt) : Pt := (p.1 + u, p.2 + v)
theorem path_map (g g' : Pt → Pt → Int) (f : Pt → Pt) (h : ∀ p q, g' (f p) (f q) = g p q) : ∀ l : List Pt, path g' (l.map f) = path g l
  | [] => rfl
  | [a] => rfl
  | a :: b :: t => by
    have := path_map g g' f h (b :: t)
    simp only [List.map_cons, path] at this ⊢
    rw [h, this]
theorem turn_move (u v : Int) (l : List Pt) (x y : Int) : turn (l.map (mvP u v)) (x + u) (y + v) = turn l x y := by
  unfold turn sumG
  rw [← List.map_take, ← List.map_append]
  exact path_map _ _ _ (fun p q => crw_move u v p q x y) _
end Go.Proofs.Ytbgfgadekmemeaa.Ev
