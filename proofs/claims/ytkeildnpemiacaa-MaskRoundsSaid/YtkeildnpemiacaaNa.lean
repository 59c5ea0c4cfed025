/- Sums over the samples of an ellipse. Conditions: none. -/
import Derived.Test.YtkeildnpemiacaaMp
namespace Go.Proofs.Ytkeildnpemiacaa.Ev
open Go.Proofs
set_option linter.unusedVariables false
set_option linter.unusedSimpArgs false
set_option maxRecDepth 100000
set_option maxHeartbeats 1000000

/-! ### Sums -/
def H (f : Nat → Int) : Nat → Nat → Int
  | 0, _ => 0
  | k + 1, i => f i + H f k (i + 1)
theorem H_congr {f g : Nat → Int} : ∀ (k i : Nat), (∀ t, i ≤ t → t < i + k → f t = g t) → H f k i = H g k i
  | 0, _, _ => rfl
  | k + 1, i, h => by rw [H, H, h i (Nat.le_refl _) (by omega), H_congr k (i + 1) fun t a b => h t (by omega) (by omega)]
theorem H_append (f : Nat → Int) : ∀ (a b i : Nat), H f (a + b) i = H f a i + H f b (i + a)
  | 0, b, i => by rw [Nat.zero_add, H, Int.zero_add]; rfl
  | a + 1, b, i => by rw [Nat.succ_add, H, H, H_append f a b (i + 1), show i + 1 + a = i + (a + 1) by omega, Int.add_assoc]
theorem H_shift (f : Nat → Int) (s : Nat) : ∀ (k i : Nat), H f k (i + s) = H (fun t => f (t + s)) k i
  | 0, _ => rfl
  | k + 1, i => by rw [H, H, show i + s + 1 = i + 1 + s by omega, H_shift f s k (i + 1)]
theorem H_add (f g : Nat → Int) : ∀ (k i : Nat), H (fun t => f t + g t) k i = H f k i + H g k i
  | 0, _ => rfl
  | k + 1, i => by rw [H, H, H, H_add f g k (i + 1)]; omega
theorem H_zero : ∀ (k i : Nat), H (fun _ => 0) k i = 0
  | 0, _ => rfl
  | k + 1, i => by rw [H, H_zero k (i + 1)]; rfl
theorem H_swap (f : Nat → Nat → Int) (n b : Nat) : ∀ (m a : Nat), H (fun x => H (fun j => f x j) n b) m a = H (fun j => H (fun x => f x j) m a) n b
  | 0, a => (H_zero n b).symm
  | m + 1, a => by
    rw [H, H_swap f n b m (a + 1), ← H_add]
    rfl
theorem H_grid (f : Nat → Int) (w : Nat) : ∀ (k y : Nat), H f (w * k) (y * w) = H (fun y => H (fun x => f (y * w + x)) w 0) k y
  | 0, _ => rfl
  | k + 1, y => by
    rw [Nat.mul_succ, Nat.add_comm, H_append, H, show y * w + w = (y + 1) * w by rw [Nat.succ_mul], H_grid f w k (y + 1)]
    have := H_shift f (y * w) w 0
    rw [Nat.zero_add] at this
    rw [this]
    congr 1
    exact H_congr _ _ fun t _ _ => by rw [Nat.add_comm]
theorem H_ge {f : Nat → Int} {c : Int} : ∀ (k i : Nat), (∀ t, i ≤ t → t < i + k → c ≤ f t) → c * k ≤ H f k i
  | 0, i, _ => by rw [H]; omega
  | k + 1, i, h => by
    have := H_ge (f := f) (c := c) k (i + 1) fun t a b => h t (by omega) (by omega)
    have := h i (Nat.le_refl _) (by omega)
    rw [H, show ((k + 1 : Nat) : Int) = k + 1 from rfl, Int.mul_add, Int.mul_one]
    omega
theorem H_ge_at {f : Nat → Int} {c d : Int} (s : Nat) (hs : c + d ≤ f s) : ∀ (k i : Nat), (∀ t, i ≤ t → t < i + k → c ≤ f t) → i ≤ s → s < i + k → c * k + d ≤ H f k i
  | 0, i, _, _, _ => by omega
  | k + 1, i, h, h1, h2 => by
    rw [H, show ((k + 1 : Nat) : Int) = k + 1 from rfl, Int.mul_add, Int.mul_one]
    by_cases e : s = i
    · have := H_ge (f := f) (c := c) k (i + 1) fun t a b => h t (by omega) (by omega)
      subst e
      omega
    · have := H_ge_at (f := f) s hs k (i + 1) (fun t a b => h t (by omega) (by omega)) (by omega) (by omega)
      have := h i (Nat.le_refl _) (by omega)
      omega
theorem H_neg (f : Nat → Int) : ∀ (k i : Nat), H (fun t => - f t) k i = - H f k i
  | 0, _ => rfl
  | k + 1, i => by rw [H, H, H_neg f k (i + 1)]; omega
theorem H_le {f : Nat → Int} {c : Int} (k i : Nat) (h : ∀ t, i ≤ t → t < i + k → f t ≤ c) : H f k i ≤ c * k := by
  have := H_ge (f := fun t => - f t) (c := -c) k i fun t a b => by have := h t a b; omega
  rw [H_neg, Int.neg_mul] at this
  omega
theorem H_le_at {f : Nat → Int} {c d : Int} (s : Nat) (hs : f s + d ≤ c) (k i : Nat) (h : ∀ t, i ≤ t → t < i + k → f t ≤ c) (h1 : i ≤ s) (h2 : s < i + k) : H f k i + d ≤ c * k := by
  have := H_ge_at (f := fun t => - f t) (c := -c) (d := d) s (by omega) k i (fun t a b => by have := h t a b; omega) h1 h2
  rw [H_neg, Int.neg_mul] at this
  omega
theorem H_lin {c v : Nat → Int} : ∀ (k i : Nat), (∀ t, i ≤ t → t < i + k → 131070 * c t - 256 ≤ 512 * v t) → 131070 * H c k i - 256 * k ≤ 512 * H v k i
  | 0, _, _ => by rw [H, H]; omega
  | k + 1, i, h => by
    have := H_lin (c := c) (v := v) k (i + 1) fun t a b => h t (by omega) (by omega)
    have := h i (Nat.le_refl _) (by omega)
    rw [H, H]
    omega
theorem H_rev16 (f : Nat → Int) : H (fun t => f (15 - t)) 16 0 = H f 16 0 := by
  simp only [H]
  show f 15 + (f 14 + (f 13 + (f 12 + (f 11 + (f 10 + (f 9 + (f 8 + (f 7 + (f 6 + (f 5 + (f 4 + (f 3 + (f 2 + (f 1 + (f 0 + 0))))))))))))))) = f 0 + (f 1 + (f 2 + (f 3 + (f 4 + (f 5 + (f 6 + (f 7 + (f 8 + (f 9 + (f 10 + (f 11 + (f 12 + (f 13 + (f 14 + (f 15 + 0)))))))))))))))
  omega
/-! ### Samples -/
theorem mul_abs {p q P Q : Int} (hp : -P ≤ p ∧ p ≤ P) (hq : -Q ≤ q ∧ q ≤ Q) : -(P * Q) ≤ p * q ∧ p * q ≤ P * Q := by
  have e := Int.natAbs_mul p q
  have l : p.natAbs * q.natAbs ≤ P.toNat * Q.toNat := Nat.mul_le_mul (by omega) (by omega)
  have c : ((P.toNat * Q.toNat : Nat) : Int) = P * Q := by rw [Int.natCast_mul, Int.toNat_of_nonneg (by omega), Int.toNat_of_nonneg (by omega)]
  omega
def pp (A B u : Nat) : Int := (2 * (u : Int) + 1 - 16 * A) * (16 * B)
def ell (A B u v : Nat) : Bool := decide (pp A B u * pp A B u + pp B A v * pp B A v ≤ (16 * (A : Int)) * (16 * B) * ((16 * A) * (16 * B)))
theorem rnd_ell {A B u v : Nat} (hA : 1 ≤ A ∧ A ≤ 24) (hB : 1 ≤ B ∧ B ≤ 24) (hu : u < 16 * A) (hv : v < 16 * B) : rnd (0, 0, (A : Int), (B : Int)) u v = ell A B u v := by
  unfold rnd inEll ell pp
  simp only
  rw [W_small (n := 2 * (u : Int)) (by omega) (by omega), W_small (n := 2 * (v : Int)) (by omega) (by omega), W_small (n := 2 * (u : Int) + 1) (by omega) (by omega), W_small (n := 2 * (v : Int) + 1) (by omega) (by omega),
    W_small (n := 2 * 0) (by omega) (by omega), Int.mul_zero, Int.zero_add, Int.zero_add, W_small (n := (A : Int)) (by omega) (by omega), W_small (n := (B : Int)) (by omega) (by omega), W_small (n := 16 * (A : Int)) (by omega) (by omega), W_small (n := 16 * (B : Int)) (by omega) (by omega),
    W_small (n := 2 * (u : Int) + 1 - 16 * A) (by omega) (by omega), W_small (n := 2 * (v : Int) + 1 - 16 * B) (by omega) (by omega), W_small (n := 0 - 16 * (A : Int)) (by omega) (by omega), W_small (n := 0 - 16 * (B : Int)) (by omega) (by omega)]
  rw [decide_eq_false (by omega), decide_eq_false (by omega), decide_eq_false (by omega), decide_eq_false (by omega)]
  simp only [cond_false]
  generalize hU : 2 * (u : Int) + 1 - 16 * A = U
  generalize hV : 2 * (v : Int) + 1 - 16 * B = V
  generalize hX : 16 * (A : Int) = X
  generalize hY : 16 * (B : Int) = Y
  have bU : -384 ≤ U ∧ U ≤ 384 := by omega
  have bV : -384 ≤ V ∧ V ≤ 384 := by omega
  have bX : -384 ≤ X ∧ X ≤ 384 := by omega
  have bY : -384 ≤ Y ∧ Y ≤ 384 := by omega
  have p1 := mul_abs bU bY
  have p2 := mul_abs p1 bU
  have p3 := mul_abs p2 bY
  have q1 := mul_abs bV bX
  have q2 := mul_abs q1 bV
  have q3 := mul_abs q2 bX
  have r1 := mul_abs bX bY
  have r2 := mul_abs r1 bX
  have r3 := mul_abs r2 bY
  rw [W_small (n := U * Y) (by omega) (by omega), W_small (n := V * X) (by omega) (by omega), W_small (n := X * Y) (by omega) (by omega), W_small (n := U * Y * U) (by omega) (by omega), W_small (n := V * X * V) (by omega) (by omega), W_small (n := X * Y * X) (by omega) (by omega),
    W_small (n := U * Y * U * Y) (by omega) (by omega), W_small (n := V * X * V * X) (by omega) (by omega), W_small (n := X * Y * X * Y) (by omega) (by omega), W_small (n := U * Y * U * Y + V * X * V * X) (by omega) (by omega),
    Int.mul_assoc (U * Y), Int.mul_assoc (V * X), Int.mul_assoc (X * Y)]
def ind (A B u v : Nat) : Int := if ell A B u v = true then 1 else 0
theorem ind_01 (A B u v : Nat) : 0 ≤ ind A B u v ∧ ind A B u v ≤ 1 := by unfold ind; split <;> omega
/-- The number of the samples of a pixel. -/
def cN (A B x y : Nat) : Int := H (fun j => H (fun i => ind A B (16 * x + i) (16 * y + j)) 16 0) 16 0
theorem cntS_H (F : Fn2) (x y j : Int) : ∀ (k i : Nat), cntS F x y j k i = H (fun t => if valBool (smp F x y t j) = true then 1 else 0) k i
  | 0, _ => rfl
  | k + 1, i => by rw [cntS, H, show (i : Int) + 1 = ((i + 1 : Nat) : Int) from rfl, cntS_H F x y j k (i + 1)]
theorem cntSs_H (F : Fn2) (x y : Int) : ∀ (k j : Nat), cntSs F x y k j = H (fun s => H (fun t => if valBool (smp F x y t s) = true then 1 else 0) 16 0) k j
  | 0, _ => rfl
  | k + 1, j => by
    have := cntS_H F x y j 16 0
    rw [cntSs, H, show (j : Int) + 1 = ((j + 1 : Nat) : Int) from rfl, cntSs_H F x y k (j + 1)]
    exact congrArg (· + _) this
theorem cnt_cN {A B x y : Nat} (hA : 1 ≤ A ∧ A ≤ 24) (hB : 1 ≤ B ∧ B ≤ 24) (hx : x < A) (hy : y < B) : cntSs (fE (0, 0, (A : Int), (B : Int))) x y 16 0 = cN A B x y := by
  refine (cntSs_H (fE (0, 0, (A : Int), (B : Int))) x y 16 0).trans ?_
  unfold cN
  refine H_congr _ _ fun j _ hj => H_congr _ _ fun i _ hi => ?_
  have e : valBool (smp (fE (0, 0, (A : Int), (B : Int))) x y i j) = ell A B (16 * x + i) (16 * y + j) := by
    show rnd (0, 0, (A : Int), (B : Int)) (W (W (16 * (x : Int)) + i)) (W (W (16 * (y : Int)) + j)) = _
    rw [W_small (n := 16 * (x : Int)) (by omega) (by omega), W_small (n := 16 * (y : Int)) (by omega) (by omega), W_small (n := 16 * (x : Int) + i) (by omega) (by omega), W_small (n := 16 * (y : Int) + j) (by omega) (by omega),
      show 16 * (x : Int) + i = ((16 * x + i : Nat) : Int) by omega, show 16 * (y : Int) + j = ((16 * y + j : Nat) : Int) by omega]
    exact rnd_ell hA hB (by omega) (by omega)
  show (if valBool (smp (fE (0, 0, (A : Int), (B : Int))) x y i j) = true then (1 : Int) else 0) = ind A B (16 * x + i) (16 * y + j)
  rw [e]
  rfl
theorem pp_neg {A B u : Nat} (hu : u < 16 * A) : pp A B (16 * A - 1 - u) = - pp A B u := by
  unfold pp
  rw [← Int.neg_mul]
  congr 1
  omega
theorem ell_mx {A B u v : Nat} (hu : u < 16 * A) : ell A B (16 * A - 1 - u) v = ell A B u v := by
  unfold ell
  rw [pp_neg hu, Int.neg_mul_neg]
theorem ell_my {A B u v : Nat} (hv : v < 16 * B) : ell A B u (16 * B - 1 - v) = ell A B u v := by
  unfold ell
  rw [pp_neg hv, Int.neg_mul_neg]
theorem cN_mx {A B x y : Nat} (hx : x < A) : cN A B (A - 1 - x) y = cN A B x y := by
  unfold cN
  refine H_congr _ _ fun j _ hj => ?_
  rw [← H_rev16 fun i => ind A B (16 * x + i) (16 * y + j)]
  refine H_congr _ _ fun i _ hi => ?_
  unfold ind
  rw [show 16 * (A - 1 - x) + i = 16 * A - 1 - (16 * x + (15 - i)) by omega, ell_mx (by omega)]
theorem cN_my {A B x y : Nat} (hy : y < B) : cN A B x (B - 1 - y) = cN A B x y := by
  unfold cN
  rw [← H_rev16 fun j => H (fun i => ind A B (16 * x + i) (16 * y + j)) 16 0]
  refine H_congr _ _ fun j _ hj => H_congr _ _ fun i _ hi => ?_
  unfold ind
  rw [show 16 * (B - 1 - y) + j = 16 * B - 1 - (16 * y + (15 - j)) by omega, ell_my (by omega)]
/-! ### Less than all -/
theorem sq_le {p q : Int} (h0 : 0 ≤ p) (h : p ≤ q) : p * p ≤ q * q := Int.mul_le_mul h h h0 (by omega)
theorem corner {A B : Nat} (hA : 1 ≤ A) (hB : 1 ≤ B) : ell A B 0 0 = false := by
  unfold ell
  refine decide_eq_false ?_
  have key : ∀ a b : Nat, 1 ≤ a → 1 ≤ b → pp a b 0 * pp a b 0 * 256 ≥ 225 * (16 * (a : Int) * (16 * b) * (16 * a * (16 * b))) := fun a b ha hb => by
    have e : - pp a b 0 * 16 ≥ 15 * (16 * (a : Int) * (16 * b)) := by
      unfold pp
      rw [← Int.neg_mul, Int.mul_assoc, Int.mul_comm (16 * (b : Int)) 16, ← Int.mul_assoc, ← Int.mul_assoc 15]
      exact Int.mul_le_mul_of_nonneg_right (by omega) (by omega)
    have pos : 0 ≤ 16 * (a : Int) * (16 * b) := Int.mul_nonneg (by omega) (by omega)
    have s := sq_le (p := 15 * (16 * (a : Int) * (16 * b))) (by omega) e
    generalize 16 * (a : Int) * (16 * b) = R at s pos ⊢
    generalize pp a b 0 = p at s ⊢
    rw [show 15 * R * (15 * R) = 225 * (R * R) by rw [Int.mul_assoc, Int.mul_left_comm R 15 R, ← Int.mul_assoc]; rfl, show - p * 16 * (- p * 16) = p * p * 256 by rw [Int.mul_assoc, Int.mul_left_comm 16 (-p), ← Int.mul_assoc, Int.neg_mul_neg]; rfl] at s
    exact s
  have k1 := key A B hA hB
  have k2 := key B A hB hA
  rw [Int.mul_comm (16 * (B : Int)) (16 * A)] at k2
  have pos : 1 ≤ 16 * (A : Int) * (16 * B) := by
    have := Int.mul_le_mul (a := 1) (b := 1) (c := 16 * (A : Int)) (d := 16 * (B : Int)) (by omega) (by omega) (by decide) (by omega)
    omega
  have pos2 := sq_le (p := 1) (by decide) pos
  omega
theorem cN_le (A B x y : Nat) : 0 ≤ cN A B x y ∧ cN A B x y ≤ 256 := by
  unfold cN
  have h1 := H_le (f := fun j => H (fun i => ind A B (16 * x + i) (16 * y + j)) 16 0) (c := 16) 16 0 fun j _ _ => H_le (c := 1) 16 0 fun i _ _ => (ind_01 A B _ _).2
  have h2 := H_ge (f := fun j => H (fun i => ind A B (16 * x + i) (16 * y + j)) 16 0) (c := 0) 16 0 fun j _ _ => H_ge (c := 0) 16 0 fun i _ _ => (ind_01 A B _ _).1
  omega
theorem cN_corner {A B : Nat} (hA : 1 ≤ A) (hB : 1 ≤ B) : cN A B 0 0 ≤ 255 := by
  unfold cN
  have := H_le_at (f := fun j => H (fun i => ind A B (16 * 0 + i) (16 * 0 + j)) 16 0) (c := 16) (d := 1) 0 (by
    have := H_le_at (f := fun i => ind A B (16 * 0 + i) (16 * 0 + 0)) (c := 1) (d := 1) 0 (by
      show ind A B 0 0 + 1 ≤ 1
      unfold ind
      rw [corner hA hB]
      decide) 16 0 (fun i _ _ => (ind_01 A B _ _).2) (Nat.le_refl _) (by omega)
    show H (fun i => ind A B (16 * 0 + i) (16 * 0 + 0)) 16 0 + 1 ≤ 16
    omega) 16 0 (fun j _ _ => H_le (c := 1) 16 0 fun i _ _ => (ind_01 A B _ _).2) (Nat.le_refl _) (by omega)
  omega
/-! ### More than half -/
theorem quarter {p q R : Int} (hp : 0 ≤ p) (hq : 0 ≤ q) (h : p + q ≤ R) : p * p + q * q ≤ R * R := by
  have s := sq_le (p := p + q) (by omega) h
  rw [Int.add_mul, Int.mul_add, Int.mul_add] at s
  have := Int.mul_nonneg hp hq
  have := Int.mul_nonneg hq hp
  omega
theorem pp_half {A B u : Nat} (hu : u < 8 * A) : pp A B u ≤ 0 ∧ pp A B (u + 8 * A) = pp A B u + 16 * (A : Int) * (16 * B) ∧ 0 ≤ pp A B (u + 8 * A) := by
  unfold pp
  refine ⟨?_, ?_, ?_⟩
  · have := Int.mul_nonneg (a := 16 * (A : Int) - 2 * u - 1) (b := 16 * B) (by omega) (by omega)
    rw [show 2 * (u : Int) + 1 - 16 * A = -(16 * (A : Int) - 2 * u - 1) by omega, Int.neg_mul]
    omega
  · rw [← Int.add_mul]
    congr 1
    omega
  · exact Int.mul_nonneg (by omega) (by omega)
theorem ell_quarter {A B u v : Nat} {p q : Int} (h1 : pp A B u * pp A B u = p * p) (h2 : pp B A v * pp B A v = q * q) (hp : 0 ≤ p) (hq : 0 ≤ q) (h : p + q ≤ 16 * (A : Int) * (16 * B)) : ell A B u v = true := by
  unfold ell
  rw [h1, h2]
  exact decide_eq_true (quarter hp hq h)
theorem ell_mid {A B u v : Nat} {p q : Int} (h1 : pp A B u * pp A B u = p * p) (h2 : pp B A v * pp B A v = q * q) (hp : 0 ≤ p) (hq : 0 ≤ q) (h3 : 16 * p ≤ 9 * (16 * (A : Int) * (16 * B))) (h4 : 16 * q ≤ 9 * (16 * (A : Int) * (16 * B))) : ell A B u v = true := by
  unfold ell
  rw [h1, h2]
  refine decide_eq_true ?_
  generalize 16 * (A : Int) * (16 * B) = R at h3 h4 ⊢
  have s1 := sq_le (by omega) h3
  have s2 := sq_le (by omega) h4
  rw [show 16 * p * (16 * p) = 256 * (p * p) by rw [Int.mul_assoc, Int.mul_left_comm p 16 p, ← Int.mul_assoc]; rfl, show 9 * R * (9 * R) = 81 * (R * R) by rw [Int.mul_assoc, Int.mul_left_comm R 9 R, ← Int.mul_assoc]; rfl] at s1
  rw [show 16 * q * (16 * q) = 256 * (q * q) by rw [Int.mul_assoc, Int.mul_left_comm q 16 q, ← Int.mul_assoc]; rfl, show 9 * R * (9 * R) = 81 * (R * R) by rw [Int.mul_assoc, Int.mul_left_comm R 9 R, ← Int.mul_assoc]; rfl] at s2
  have := Int.mul_nonneg (a := R) (b := R) (by omega) (by omega)
  omega
theorem ind_t {A B u v : Nat} (h : ell A B u v = true) : ind A B u v = 1 := if_pos h
def q4s (A B u v : Nat) : Int := (ind A B u v + ind A B (u + 8 * A) v) + (ind A B u (v + 8 * B) + ind A B (u + 8 * A) (v + 8 * B))
theorem q4s_ge {A B u v : Nat} (hu : u < 8 * A) (hv : v < 8 * B) : 2 ≤ q4s A B u v := by
  obtain ⟨a1, a2, a3⟩ := pp_half (B := B) hu
  obtain ⟨b1, b2, b3⟩ := pp_half (A := B) (B := A) hv
  rw [Int.mul_comm (16 * (B : Int)) (16 * A)] at b2
  have n1 : pp A B u * pp A B u = -pp A B u * -pp A B u := (Int.neg_mul_neg _ _).symm
  have n2 : pp B A v * pp B A v = -pp B A v * -pp B A v := (Int.neg_mul_neg _ _).symm
  have i1 := ind_01 A B u v
  have i2 := ind_01 A B (u + 8 * A) v
  have i3 := ind_01 A B u (v + 8 * B)
  have i4 := ind_01 A B (u + 8 * A) (v + 8 * B)
  have x1 : 1 ≤ ind A B u v + ind A B (u + 8 * A) (v + 8 * B) := by
    by_cases c : -pp A B u + -pp B A v ≤ 16 * (A : Int) * (16 * B)
    · rw [ind_t (ell_quarter n1 n2 (by omega) (by omega) c)]; omega
    · rw [ind_t (u := u + 8 * A) (ell_quarter rfl rfl a3 b3 (by omega))]; omega
  have x2 : 1 ≤ ind A B (u + 8 * A) v + ind A B u (v + 8 * B) := by
    by_cases c : pp A B (u + 8 * A) + -pp B A v ≤ 16 * (A : Int) * (16 * B)
    · rw [ind_t (u := u + 8 * A) (v := v) (ell_quarter rfl n2 a3 (by omega) c)]; omega
    · rw [ind_t (u := u) (v := v + 8 * B) (ell_quarter n1 rfl (by omega) b3 (by omega))]; omega
  unfold q4s
  omega
theorem pp_mid {A B : Nat} (hA : 1 ≤ A) : (0 ≤ -pp A B (4 * A) ∧ 16 * -pp A B (4 * A) ≤ 9 * (16 * (A : Int) * (16 * B))) ∧ (0 ≤ pp A B (4 * A + 8 * A) ∧ 16 * pp A B (4 * A + 8 * A) ≤ 9 * (16 * (A : Int) * (16 * B))) := by
  have m : ∀ c : Int, c ≤ 8 * (A : Int) + 1 → 16 * (c * (16 * B)) ≤ 9 * (16 * (A : Int) * (16 * B)) := fun c hc => by
    rw [← Int.mul_assoc, ← Int.mul_assoc 9]
    exact Int.mul_le_mul_of_nonneg_right (by omega) (by omega)
  have e1 : -pp A B (4 * A) = (8 * (A : Int) - 1) * (16 * B) := by unfold pp; rw [← Int.neg_mul]; congr 1; omega
  have e2 : pp A B (4 * A + 8 * A) = (8 * (A : Int) + 1) * (16 * B) := by unfold pp; congr 1; omega
  rw [e1, e2]
  exact ⟨⟨Int.mul_nonneg (by omega) (by omega), m _ (by omega)⟩, Int.mul_nonneg (by omega) (by omega), m _ (by omega)⟩
theorem q4s_mid {A B : Nat} (hA : 1 ≤ A) (hB : 1 ≤ B) : q4s A B (4 * A) (4 * B) = 4 := by
  obtain ⟨⟨a1, a2⟩, a3, a4⟩ := pp_mid (B := B) hA
  obtain ⟨⟨b1, b2⟩, b3, b4⟩ := pp_mid (B := A) hB
  rw [Int.mul_comm (16 * (B : Int)) (16 * A)] at b2 b4
  have n1 : pp A B (4 * A) * pp A B (4 * A) = -pp A B (4 * A) * -pp A B (4 * A) := (Int.neg_mul_neg _ _).symm
  have n2 : pp B A (4 * B) * pp B A (4 * B) = -pp B A (4 * B) * -pp B A (4 * B) := (Int.neg_mul_neg _ _).symm
  unfold q4s
  rw [ind_t (ell_mid n1 n2 a1 b1 a2 b2), ind_t (ell_mid rfl n2 a3 b1 a4 b2), ind_t (ell_mid n1 rfl a1 b3 a2 b4), ind_t (ell_mid rfl rfl a3 b3 a4 b4)]
  rfl
theorem H_half (f : Nat → Int) (n : Nat) : H f (16 * n) 0 = H (fun u => f u + f (u + 8 * n)) (8 * n) 0 := by
  have := H_shift f (8 * n) (8 * n) 0
  rw [H_add, show 16 * n = 8 * n + 8 * n by omega, H_append, this]
/-- The number of all samples inside. -/
def tN (A B : Nat) : Int := H (fun v => H (fun u => ind A B u v) (16 * A) 0) (16 * B) 0
theorem tN_ge {A B : Nat} (hA : 1 ≤ A) (hB : 1 ≤ B) : 128 * ((A : Int) * B) + 2 ≤ tN A B := by
  have e : tN A B = H (fun v => H (fun u => q4s A B u v) (8 * A) 0) (8 * B) 0 := by
    unfold tN
    rw [H_half]
    refine H_congr _ _ fun v _ _ => ?_
    rw [H_half, H_half, ← H_add]
    rfl
  have g := H_ge_at (f := fun v => H (fun u => q4s A B u v) (8 * A) 0) (c := 2 * ((8 * A : Nat) : Int)) (d := 2) (4 * B) (by
    exact H_ge_at (f := fun u => q4s A B u (4 * B)) (c := 2) (d := 2) (4 * A) (by show 2 + 2 ≤ q4s A B (4 * A) (4 * B); rw [q4s_mid hA hB]; decide) (8 * A) 0 (fun u _ hu => q4s_ge (by omega) (by omega)) (by omega) (by omega)) (8 * B) 0
    (fun v _ hv => H_ge (c := 2) (8 * A) 0 fun u _ hu => q4s_ge (by omega) (by omega)) (by omega) (by omega)
  rw [e]
  have c : 2 * ((8 * A : Nat) : Int) * ((8 * B : Nat) : Int) = 128 * ((A : Int) * B) := by
    rw [Int.natCast_mul, Int.natCast_mul, show 2 * (((8 : Nat) : Int) * (A : Int)) = 16 * A by omega, Int.mul_assoc, Int.mul_left_comm (A : Int) ((8 : Nat) : Int), ← Int.mul_assoc]
    rfl
  omega
theorem cN_sum {A B : Nat} (hA : 1 ≤ A) : H (fun k => cN A B (k % A) (k / A)) (A * B) 0 = tN A B := by
  have g := H_grid (fun k => cN A B (k % A) (k / A)) A B 0
  rw [Nat.zero_mul] at g
  rw [g]
  have gB := H_grid (fun v => H (fun u => ind A B u v) (16 * A) 0) 16 B 0
  rw [Nat.zero_mul] at gB
  unfold tN
  rw [gB]
  refine H_congr _ _ fun y _ hy => ?_
  have e : H (fun x => cN A B ((y * A + x) % A) ((y * A + x) / A)) A 0 = H (fun x => cN A B x y) A 0 := H_congr _ _ fun x _ hx => by
    rw [show (y * A + x) % A = x by rw [Nat.mul_comm, Nat.mul_add_mod, Nat.mod_eq_of_lt (by omega)], show (y * A + x) / A = y by rw [Nat.mul_comm, Nat.mul_add_div (by omega), Nat.div_eq_of_lt (by omega), Nat.add_zero]]
  rw [e]
  show H (fun x => H (fun j => H (fun i => ind A B (16 * x + i) (16 * y + j)) 16 0) 16 0) A 0 = _
  rw [H_swap]
  refine H_congr _ _ fun j _ hj => ?_
  have gA := H_grid (fun u => ind A B u (y * 16 + j)) 16 A 0
  rw [Nat.zero_mul] at gA
  rw [gA]
  refine H_congr _ _ fun x _ hx => H_congr _ _ fun i _ hi => ?_
  rw [Nat.mul_comm 16 x, Nat.mul_comm 16 y]
end Go.Proofs.Ytkeildnpemiacaa.Ev
