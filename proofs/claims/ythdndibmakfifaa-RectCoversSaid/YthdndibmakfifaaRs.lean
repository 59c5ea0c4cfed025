/- The tiles of a rectangle cover it. Conditions: none. -/
import Derived.Test.YthdndibmakfifaaRp
import Derived.Test.YthdndibmakfifaaRq
namespace Go.Proofs.Ythdndibmakfifaa.Ev
open Go.Proofs
set_option linter.unusedVariables false
set_option maxHeartbeats 1000000

/-- What the items of a list weigh together. -/
def tot (f : Pt → Int) : List Pt → Int
  | [] => 0
  | p :: l => f p + tot f l
def allPos (f : Pt → Int) : List Pt → Bool
  | [] => true
  | p :: l => decide (1 ≤ f p) && allPos f l
theorem tot_append (f : Pt → Int) : ∀ l m, tot f (l ++ m) = tot f l + tot f m
  | [], m => (Int.zero_add _).symm
  | p :: l, m => by rw [List.cons_append, tot, tot, tot_append f l m, Int.add_assoc]
theorem allPos_append (f : Pt → Int) : ∀ l m, allPos f l = true → allPos f m = true → allPos f (l ++ m) = true
  | [], m, _, h => h
  | p :: l, m, h, h' => by
    simp only [List.cons_append, allPos, Bool.and_eq_true] at h ⊢
    exact ⟨h.1, allPos_append f l m h.2 h'⟩
theorem tot_nonneg (f : Pt → Int) : ∀ l, allPos f l = true → 0 ≤ tot f l
  | [], _ => Int.le_refl _
  | p :: l, h => by
    simp only [allPos, Bool.and_eq_true, decide_eq_true_eq] at h
    have := tot_nonneg f l h.2
    rw [tot]; omega
/-- The part of a line from p up to q that lies ahead of 16 t. -/
def cutAt (p q t : Int) : Int := mn (mx (16 * t) p) q
theorem area_between {x0 y0 x1 y1 : Int} (h0 : -1048576 ≤ x0) (h1 : x1 ≤ 1048576) (h2 : -1048576 ≤ y0) (h3 : y1 ≤ 1048576) (hx : x0 ≤ x1) (hy : y0 ≤ y1) :
    area (between x0 y0 x1 y1) = (x1 - x0) * (y1 - y0) := by
  unfold between
  by_cases h : x0 < x1 ∧ y0 < y1
  · rw [if_pos h, W_eq (n := x1 - x0) (by omega) (by omega), W_eq (n := y1 - y0) (by omega) (by omega)]
    unfold area
    rw [known_of ((valid_iff ..).mpr (by omega))]
  · rw [if_neg h]
    rcases (show x1 - x0 = 0 ∨ y1 - y0 = 0 by omega) with e | e <;> rw [e]
    · rw [Int.zero_mul]; decide
    · rw [Int.mul_zero]; decide
/-- What a tile has in common with a rectangle. -/
theorem tile_area {a b c d tx ty : Int} (h : empty (a, b, c, d) = false) (hx0 : a / 16 ≤ tx) (hx1 : tx ≤ (a + c - 1) / 16) (hy0 : b / 16 ≤ ty) (hy1 : ty ≤ (b + d - 1) / 16) :
    area (meetR (ofTile (tx, ty)) (a, b, c, d)) = (cutAt a (a + c) (tx + 1) - cutAt a (a + c) tx) * (cutAt b (b + d) (ty + 1) - cutAt b (b + d) ty) ∧
    1 ≤ cutAt a (a + c) (tx + 1) - cutAt a (a + c) tx ∧ 1 ≤ cutAt b (b + d) (ty + 1) - cutAt b (b + d) ty := by
  have hh := ne_bounds h
  have e : ofTile (tx, ty) = (tx * 16, ty * 16, 16, 16) := if_pos (by omega)
  have hn : empty (tx * 16, ty * 16, 16, 16) = false := (nonempty_iff ..).mpr ⟨(valid_iff ..).mpr (by omega), by omega, by omega⟩
  have c1 : cutAt a (a + c) tx = mx (tx * 16) a := by unfold cutAt mx mn; repeat' split
                                                      all_goals omega
  have c2 : cutAt a (a + c) (tx + 1) = mn (tx * 16 + 16) (a + c) := by unfold cutAt mx mn; repeat' split
                                                                       all_goals omega
  have c3 : cutAt b (b + d) ty = mx (ty * 16) b := by unfold cutAt mx mn; repeat' split
                                                      all_goals omega
  have c4 : cutAt b (b + d) (ty + 1) = mn (ty * 16 + 16) (b + d) := by unfold cutAt mx mn; repeat' split
                                                                       all_goals omega
  have l1 : mx (tx * 16) a + 1 ≤ mn (tx * 16 + 16) (a + c) := by unfold mx mn; repeat' split
                                                                 all_goals omega
  have l2 : mx (ty * 16) b + 1 ≤ mn (ty * 16 + 16) (b + d) := by unfold mx mn; repeat' split
                                                                 all_goals omega
  have hb := meetR_bounds hn h
  rw [e, meetR_ne hn h, area_between hb.1 hb.2.1 hb.2.2.1 hb.2.2.2 (by omega) (by omega), c1, c2, c3, c4]
  exact ⟨rfl, by omega, by omega⟩
def tileW (r : Q) (p : Pt) : Int := area (meetR (ofTile p) r)
theorem row_cover {a b c d ty : Int} (h : empty (a, b, c, d) = false) (hy0 : b / 16 ≤ ty) (hy1 : ty ≤ (b + d - 1) / 16) : ∀ (k : Nat) (x : Int), x + k = (a + c - 1) / 16 + 1 → a / 16 ≤ x →
    tot (tileW (a, b, c, d)) (row ty x k) = (a + c - cutAt a (a + c) x) * (cutAt b (b + d) (ty + 1) - cutAt b (b + d) ty) ∧ allPos (tileW (a, b, c, d)) (row ty x k) = true := by
  intro k
  induction k with
  | zero =>
    intro x hx h0
    have : cutAt a (a + c) x = a + c := by unfold cutAt mx mn; repeat' split
                                           all_goals omega
    rw [this, Int.sub_self, Int.zero_mul]
    exact ⟨rfl, rfl⟩
  | succ k ih =>
    intro x hx h0
    have i := ih (x + 1) (by omega) (by omega)
    have t := tile_area h h0 (by omega) hy0 hy1
    have hp := Int.mul_le_mul t.2.1 t.2.2 (by decide) (by omega)
    rw [← t.1] at hp
    refine ⟨?_, ?_⟩
    · rw [row, tot, i.1]
      show tileW (a, b, c, d) (x, ty) + _ = _
      unfold tileW
      rw [t.1, ← Int.add_mul]
      congr 1
      omega
    · rw [row, allPos, i.2, Bool.and_true]
      exact decide_eq_true hp
theorem rows_cover {a b c d : Int} (h : empty (a, b, c, d) = false) {w : Nat} (hw : a / 16 + w = (a + c - 1) / 16 + 1) : ∀ (k : Nat) (y : Int), y + k = (b + d - 1) / 16 + 1 → b / 16 ≤ y →
    tot (tileW (a, b, c, d)) (rows (a / 16) w y k) = c * (b + d - cutAt b (b + d) y) ∧ allPos (tileW (a, b, c, d)) (rows (a / 16) w y k) = true := by
  have hh := ne_bounds h
  intro k
  induction k with
  | zero =>
    intro y hy h0
    have : cutAt b (b + d) y = b + d := by unfold cutAt mx mn; repeat' split
                                           all_goals omega
    rw [this, Int.sub_self, Int.mul_zero]
    exact ⟨rfl, rfl⟩
  | succ k ih =>
    intro y hy h0
    have i := ih (y + 1) (by omega) (by omega)
    have r := row_cover h h0 (by omega) w (a / 16) hw (by omega)
    have e : a + c - cutAt a (a + c) (a / 16) = c := by unfold cutAt mx mn; repeat' split
                                                        all_goals omega
    rw [e] at r
    refine ⟨?_, ?_⟩
    · rw [rows, tot_append, r.1, i.1, ← Int.mul_add]
      congr 1
      omega
    · rw [rows]
      exact allPos_append _ _ _ r.2 i.2
theorem tiles_cover (r : Q) : tiles r = [] ∧ (empty r = true ∨ r.2.2.1 > 100 ∨ r.2.2.2 > 100) ∨ tiles r ≠ [] ∧ tot (tileW r) (tiles r) = area r ∧ allPos (tileW r) (tiles r) = true ∧ area r ≤ 4398046511104 := by
  obtain ⟨a, b, c, d⟩ := r
  unfold tiles
  cases h : empty (a, b, c, d)
  · have hh := ne_bounds h
    rw [if_neg (by decide)]
    simp only
    by_cases hs : ((a + c - 1) / 16 - a / 16 + 1) * ((b + d - 1) / 16 - b / 16 + 1) > 4096
    · rw [if_pos hs]
      refine .inl ⟨rfl, .inr ?_⟩
      refine Classical.byContradiction fun hn => ?_
      have h1 : (a + c - 1) / 16 - a / 16 + 1 ≤ 64 := by omega
      have h2 : (b + d - 1) / 16 - b / 16 + 1 ≤ 64 := by omega
      have := Int.mul_le_mul h1 h2 (by omega) (by decide)
      omega
    · rw [if_neg hs]
      have hk : ((((b + d - 1) / 16 - b / 16 + 1).toNat : Nat) : Int) = (b + d - 1) / 16 - b / 16 + 1 := Int.toNat_of_nonneg (by omega)
      have hw : ((((a + c - 1) / 16 - a / 16 + 1).toNat : Nat) : Int) = (a + c - 1) / 16 - a / 16 + 1 := Int.toNat_of_nonneg (by omega)
      have rc := rows_cover h (w := ((a + c - 1) / 16 - a / 16 + 1).toNat) (by omega) ((b + d - 1) / 16 - b / 16 + 1).toNat (b / 16) (by omega) (Int.le_refl _)
      have e : b + d - cutAt b (b + d) (b / 16) = d := by unfold cutAt mx mn; repeat' split
                                                          all_goals omega
      rw [e] at rc
      have ea : area (a, b, c, d) = c * d := by unfold area; rw [known_of ((nonempty_iff ..).mp h).1]
      refine .inr ⟨fun hn => ?_, by rw [rc.1, ea], rc.2, by rw [ea]; exact (area_small (by omega) (by omega) (by omega) (by omega)).2⟩
      have hl := rows_len (a / 16) ((a + c - 1) / 16 - a / 16 + 1).toNat ((b + d - 1) / 16 - b / 16 + 1).toNat (b / 16)
      rw [hn] at hl
      have := Nat.mul_le_mul (show 1 ≤ ((a + c - 1) / 16 - a / 16 + 1).toNat by omega) (show 1 ≤ ((b + d - 1) / 16 - b / 16 + 1).toNat by omega)
      rw [← hl] at this
      exact absurd this (by decide)
  · rw [if_pos rfl]
    exact .inl ⟨rfl, .inl rfl⟩
end Go.Proofs.Ythdndibmakfifaa.Ev
