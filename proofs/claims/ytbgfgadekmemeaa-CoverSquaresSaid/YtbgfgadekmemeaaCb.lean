/- Where an edge crosses a row of samples: the program's own, and the reference's count. Conditions: none. -/
import Derived.Test.YtbgfgadekmemeaaCa
namespace Go.Proofs.Ytbgfgadekmemeaa.Ev
open Go.Proofs
set_option linter.unusedVariables false
set_option linter.unusedSimpArgs false
set_option maxRecDepth 100000
set_option maxHeartbeats 1000000

@[reducible] def nPPI (a : Pt × Pt × Int) : List AV := [pv a.1, pv a.2.1, iv a.2.2]
def dPPI : List AV → Option (Pt × Pt × Int)
  | [.rv (.agg [.int .i64 a, .int .i64 b]), .rv (.agg [.int .i64 c, .int .i64 d]), .rv (.sc (.int .i64 x))] => some ((a, b), (c, d), x)
  | _ => none
theorem hPPI {us : List AV} {a} (h : dPPI us = some a) : us = nPPI a := by unfold dPPI at h; split at h <;> cases h; rfl
@[reducible] def nPPII (a : Pt × Pt × Int × Int) : List AV := [pv a.1, pv a.2.1, iv a.2.2.1, iv a.2.2.2]
def dPPII : List AV → Option (Pt × Pt × Int × Int)
  | [.rv (.agg [.int .i64 a, .int .i64 b]), .rv (.agg [.int .i64 c, .int .i64 d]), .rv (.sc (.int .i64 x)), .rv (.sc (.int .i64 y))] => some ((a, b), (c, d), x, y)
  | _ => none
theorem hPPII {us : List AV} {a} (h : dPPII us = some a) : us = nPPII a := by unfold dPPII at h; split at h <;> cases h; rfl

/-- A point of valid polygons. -/
def okP (p : Pt) : Bool := decide (-16777216 ≤ p.1 ∧ p.1 ≤ 16777216 ∧ -16777216 ≤ p.2 ∧ p.2 ≤ 16777216)
theorem okP_iff (a b : Int) : okP (a, b) = true ↔ -16777216 ≤ a ∧ a ≤ 16777216 ∧ -16777216 ≤ b ∧ b ≤ 16777216 := by simp only [okP, decide_eq_true_eq]
theorem mul_abs {x y X Y : Int} (h1 : -X ≤ x) (h2 : x ≤ X) (h3 : -Y ≤ y) (h4 : y ≤ Y) : -(X * Y) ≤ x * y ∧ x * y ≤ X * Y := by
  have hX : 0 ≤ X := by omega
  have hY : 0 ≤ Y := by omega
  have e1 : 0 ≤ (X - x) * (Y + y) := Int.mul_nonneg (by omega) (by omega)
  have e2 : 0 ≤ (X + x) * (Y - y) := Int.mul_nonneg (by omega) (by omega)
  have e3 : 0 ≤ (X - x) * (Y - y) := Int.mul_nonneg (by omega) (by omega)
  have e4 : 0 ≤ (X + x) * (Y + y) := Int.mul_nonneg (by omega) (by omega)
  simp only [Int.sub_mul, Int.add_mul, Int.mul_sub, Int.mul_add] at e1 e2 e3 e4
  omega
/-- Twice the numerator. -/
def nmr (p q : Pt) (s : Int) : Int := 2 * p.1 * (q.2 - p.2) + (2 * s + 1 - 2 * p.2) * (q.1 - p.1) - (q.2 - p.2)
/-- The least column that is not to the left of an edge. -/
def crs (p q : Pt) (s : Int) : Int := bif decide (q.2 < p.2) then -(nmr p q s / (2 * (p.2 - q.2))) else -(-nmr p q s / (2 * (q.2 - p.2)))
abbrev pCr : List AV → Bool := ps dPPI fun a => okP a.1 && okP a.2.1 && decide (-67108864 ≤ a.2.2 ∧ a.2.2 ≤ 67108864 ∧ a.1.2 ≠ a.2.1.2)
abbrev sCr : Spec := sp dPPI fun a => iv (crs a.1 a.2.1 a.2.2)
def wN (a b c d s : Int) : Int := W (W (W (W (2 * a) * W (d - b)) + W (W (W (W (2 * s) + 1) - W (2 * b)) * W (c - a))) - W (d - b))
theorem tCr (a b c d s : Int) : evalF (EG [(45, pFl, sFl)]) Try.f60 [p2 a b, p2 c d, iv s] = bif decide (W (2 * W (d - b)) < 0) then
    gFl (W (0 - W (0 - wN a b c d s))) (W (0 - W (2 * W (d - b)))) (oi (W (0 - W (0 - W (0 - wN a b c d s)) / W (0 - W (2 * W (d - b))))))
    else gFl (W (0 - wN a b c d s)) (W (2 * W (d - b))) (oi (W (0 - W (0 - wN a b c d s) / W (2 * W (d - b))))) := by kernel_rfl
theorem nmr_le {p q : Pt} {s : Int} (hp : okP p = true) (hq : okP q = true) (h1 : -67108864 ≤ s) (h2 : s ≤ 67108864) : -18014398509481984 ≤ nmr p q s ∧ nmr p q s ≤ 18014398509481984 ∧
    wN p.1 p.2 q.1 q.2 s = nmr p q s := by
  obtain ⟨a, b⟩ := p
  obtain ⟨c, d⟩ := q
  rw [okP_iff] at hp hq
  obtain ⟨e1, e2⟩ := mul_abs (x := 2 * a) (y := d - b) (X := 33554432) (Y := 33554432) (by omega) (by omega) (by omega) (by omega)
  obtain ⟨e3, e4⟩ := mul_abs (x := 2 * s + 1 - 2 * b) (y := c - a) (X := 268435456) (Y := 33554432) (by omega) (by omega) (by omega) (by omega)
  unfold nmr wN
  simp only
  rw [W_small (n := 2 * a) (by omega) (by omega), W_small (n := d - b) (by omega) (by omega), W_small (n := 2 * s) (by omega) (by omega), W_small (n := 2 * s + 1) (by omega) (by omega), W_small (n := 2 * b) (by omega) (by omega), W_small (n := 2 * s + 1 - 2 * b) (by omega) (by omega), W_small (n := c - a) (by omega) (by omega),
    W_small (n := 2 * a * (d - b)) (by omega) (by omega), W_small (n := (2 * s + 1 - 2 * b) * (c - a)) (by omega) (by omega), W_small (n := 2 * a * (d - b) + (2 * s + 1 - 2 * b) * (c - a)) (by omega) (by omega), W_small (by omega) (by omega)]
  omega
theorem crs_le {p q : Pt} {s : Int} (hp : okP p = true) (hq : okP q = true) (h1 : -67108864 ≤ s) (h2 : s ≤ 67108864) (hne : p.2 ≠ q.2) : -18014398509481985 ≤ crs p q s ∧ crs p q s ≤ 18014398509481985 := by
  obtain ⟨e1, e2, _⟩ := nmr_le hp hq h1 h2
  unfold crs
  by_cases h : q.2 < p.2
  · have := ediv_abs (a := nmr p q s) (b := 2 * (p.2 - q.2)) (M := 18014398509481984) (by omega) (by omega) (by omega) (by omega)
    rw [decide_eq_true h, cond_true]; omega
  · have := ediv_abs (a := -nmr p q s) (b := 2 * (q.2 - p.2)) (M := 18014398509481984) (by omega) (by omega) (by omega) (by omega)
    rw [decide_eq_false h, cond_false]; omega
theorem mCr : Meets Try.prog 60 (gate pCr sCr) := mG (rdE (eg_cons mFloor eg_nil) (fn := Try.f60) (k := 3) (by kernel_rfl) (by kernel_rfl) (of_decide_eq_true (by kernel_rfl)) (by kernel_rfl)) (fun _ _ => hPPI) (fun _ => ⟨rfl, Nat.le_refl _⟩)
  fun ⟨⟨a, b⟩, ⟨c, d⟩, s⟩ hp => by
    simp only [Bool.and_eq_true, decide_eq_true_eq] at hp
    obtain ⟨⟨hp, hq⟩, h1, h2, hne⟩ := hp
    obtain ⟨e1, e2, e3⟩ := nmr_le hp hq h1 h2
    obtain ⟨e4, e5⟩ := crs_le hp hq h1 h2 hne
    rw [okP_iff] at hp hq
    refine (tCr a b c d s).trans ?_
    simp only at e3
    rw [e3, W_small (n := d - b) (by omega) (by omega), W_small (n := 2 * (d - b)) (by omega) (by omega), W_small (n := 0 - 2 * (d - b)) (by omega) (by omega), W_small (n := 0 - nmr (a, b) (c, d) s) (by omega) (by omega), W_small (n := 0 - (0 - nmr (a, b) (c, d) s)) (by omega) (by omega)]
    unfold gFl
    unfold crs at e4 e5 ⊢
    simp only at e4 e5 ⊢
    by_cases h : d < b
    · rw [decide_eq_true h, cond_true] at e4 e5
      rw [decide_eq_true (by omega : 2 * (d - b) < 0), decide_eq_true h, cond_true, cond_true, decide_eq_true (by omega), cond_true, show 0 - (0 - nmr (a, b) (c, d) s) = nmr (a, b) (c, d) s by omega, show 0 - 2 * (d - b) = 2 * (b - d) by omega, Int.zero_sub, W_small (by omega) (by omega)]
    · rw [decide_eq_false h, cond_false] at e4 e5
      rw [decide_eq_false (by omega : ¬ 2 * (d - b) < 0), decide_eq_false h, cond_false, cond_false, decide_eq_true (by omega), cond_true, show 0 - nmr (a, b) (c, d) s = -nmr (a, b) (c, d) s by omega, Int.zero_sub, W_small (by omega) (by omega)]
end Go.Proofs.Ytbgfgadekmemeaa.Ev
