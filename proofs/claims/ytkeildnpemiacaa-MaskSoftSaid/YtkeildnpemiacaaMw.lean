/- Growing and shrinking, the reference's. Conditions: none. Printed by gen.py of this session. -/
import Derived.Test.YtkeildnpemiacaaMv
namespace Go.Proofs.Ytkeildnpemiacaa.Ev
open Go.Proofs
set_option linter.unusedVariables false
set_option linter.unusedSimpArgs false
set_option maxRecDepth 100000
set_option maxHeartbeats 1000000

def outR (m : Mk) (n x y j i : Int) : Bool := decide (i * i + j * j > n * n ∨ x + i < 0 ∨ x + i ≥ m.1 ∨ y + j < 0 ∨ y + j ≥ m.2.1)
def stepR (m : Mk) (n x y j i v : Int) : Int := if outR m n x y j i = true then v else if n > 0 then mx v (getM m (x + i) (y + j)) else mn v (getM m (x + i) (y + j))
def rowR (m : Mk) (n x y j : Int) : Nat → Int → Int → Int
  | 0, _, v => v
  | k + 1, i, v => rowR m n x y j k (i + 1) (stepR m n x y j i v)
def side (far : Int) : Nat := (2 * far + 1).toNat
def rowsR (m : Mk) (n far x y : Int) : Nat → Int → Int → Int
  | 0, _, v => v
  | k + 1, j, v => rowsR m n far x y k (j + 1) (rowR m n x y j (side far) (0 - far) v)
def refV (m : Mk) (far n x y : Int) : Int := rowsR m n far x y (side far) (0 - far) (getM m x y)
/-! ### The same values -/
theorem rowR_append (m : Mk) (n x y j : Int) : ∀ (a b : Nat) (i v : Int), rowR m n x y j (a + b) i v = rowR m n x y j b (i + a) (rowR m n x y j a i v)
  | 0, b, i, v => by rw [Nat.zero_add, show i + ((0 : Nat) : Int) = i by omega]; rfl
  | a + 1, b, i, v => by rw [Nat.succ_add, rowR, rowR, rowR_append m n x y j a b (i + 1), show i + 1 + (a : Int) = i + ((a + 1 : Nat) : Int) by omega]
theorem rowsR_append (m : Mk) (n far x y : Int) : ∀ (a b : Nat) (j v : Int), rowsR m n far x y (a + b) j v = rowsR m n far x y b (j + a) (rowsR m n far x y a j v)
  | 0, b, j, v => by rw [Nat.zero_add, show j + ((0 : Nat) : Int) = j by omega]; rfl
  | a + 1, b, j, v => by rw [Nat.succ_add, rowsR, rowsR, rowsR_append m n far x y a b (j + 1), show j + 1 + (a : Int) = j + ((a + 1 : Nat) : Int) by omega]
theorem rowR_skip {m : Mk} {n x y j : Int} : ∀ (k : Nat) (i v : Int), (∀ i', i ≤ i' → i' < i + k → outR m n x y j i' = true) → rowR m n x y j k i v = v
  | 0, _, _, _ => rfl
  | k + 1, i, v, h => by
    rw [rowR, stepR, if_pos (h i (Int.le_refl _) (by omega))]
    exact rowR_skip k (i + 1) v fun i' h1 h2 => h i' (by omega) (by omega)
theorem rowsR_skip {m : Mk} {n far x y : Int} : ∀ (k : Nat) (j v : Int), (∀ j' i', j ≤ j' → j' < j + k → outR m n x y j' i' = true) → rowsR m n far x y k j v = v
  | 0, _, _, _ => rfl
  | k + 1, j, v, h => by
    rw [rowsR, rowR_skip (side far) (0 - far) v fun i' _ _ => h j i' (Int.le_refl _) (by omega)]
    exact rowsR_skip k (j + 1) v fun j' i' h1 h2 => h j' i' (by omega) (by omega)
theorem rowR_in {m : Mk} {n x y j : Int} (hn : n ≠ 0) (hj : 0 ≤ y + j ∧ y + j < m.2.1) : ∀ (k : Nat) (i v : Int), 0 ≤ x + i → x + i + k ≤ m.1 → rowR m n x y j k i v = rowW m n x y j k i v
  | 0, _, _, _, _ => rfl
  | k + 1, i, v, h0, h1 => by
    have e : stepR m n x y j i v = stepW m n x y j i v := by
      unfold stepR stepW
      by_cases c : i * i + j * j > n * n
      · rw [if_pos (show outR m n x y j i = true from decide_eq_true (.inl c)), if_pos c]
      · rw [if_neg (by unfold outR; rw [decide_eq_true_eq]; omega), if_neg c]
        unfold upd mx mn
        split <;> split <;> split <;> omega
    rw [rowR, rowW, e]
    exact rowR_in hn hj k (i + 1) _ (by omega) (by omega)
theorem rowR_eq {m : Mk} {n far x y j : Int} (hf : 0 ≤ far) (hn : n ≠ 0) (hx : 0 ≤ x ∧ x < m.1) (hj : 0 ≤ y + j ∧ y + j < m.2.1) (v : Int) : rowR m n x y j (side far) (0 - far) v = rowW m n x y j (cnt (iLo far x) (iHi far m.1 x)) (iLo far x) v := by
  have l := lo_ge far x
  have h := hi_le far m.1 x
  have q := lo_hi1 hf hx
  have lo : iLo far x = 0 - far ∨ iLo far x = 0 - x := by unfold iLo mx; split <;> omega
  have hi : iHi far m.1 x = far ∨ iHi far m.1 x = m.1 - 1 - x := by unfold iHi mn; split <;> omega
  have e : side far = (iLo far x + far).toNat + (cnt (iLo far x) (iHi far m.1 x) + (far - iHi far m.1 x).toNat) := by unfold side cnt; omega
  rw [e, rowR_append, rowR_append, rowR_skip (iLo far x + far).toNat (0 - far) v fun i' h1 h2 => decide_eq_true (by omega),
    show 0 - far + (((iLo far x + far).toNat : Nat) : Int) = iLo far x by omega, rowR_in hn hj (cnt (iLo far x) (iHi far m.1 x)) (iLo far x) v (by omega) (by unfold cnt; omega)]
  exact rowR_skip _ _ _ fun i' h1 h2 => decide_eq_true (by unfold cnt at h1 h2; omega)
theorem rowsR_in {m : Mk} {n far x y : Int} (hf : 0 ≤ far) (hn : n ≠ 0) (hx : 0 ≤ x ∧ x < m.1) : ∀ (k : Nat) (j v : Int), 0 ≤ y + j → y + j + k ≤ m.2.1 → rowsR m n far x y k j v = rowsW m n far x y k j v
  | 0, _, _, _, _ => rfl
  | k + 1, j, v, h0, h1 => by
    rw [rowsR, rowsW, rowR_eq hf hn hx ⟨h0, by omega⟩]
    exact rowsR_in hf hn hx k (j + 1) _ (by omega) (by omega)
theorem refV_eq {m : Mk} {n x y : Int} (hx : 0 ≤ x ∧ x < m.1) (hy : 0 ≤ y ∧ y < m.2.1) : refV m (mx n (0 - n)) n x y = growV m (mx n (0 - n)) n x y := by
  have hf : 0 ≤ mx n (0 - n) := by unfold mx; split <;> omega
  by_cases hn : n = 0
  · subst hn
    have e0 : mx 0 (0 - 0) = 0 := rfl
    rw [e0]
    unfold growV
    rw [rowsW_zero]
    show rowsR m 0 0 x y 1 (0 - 0) (getM m x y) = getM m x y
    show rowR m 0 x y (0 - 0) 1 (0 - 0) (getM m x y) = getM m x y
    show stepR m 0 x y (0 - 0) (0 - 0) (getM m x y) = getM m x y
    unfold stepR outR
    rw [if_neg (by rw [decide_eq_true_eq]; omega), if_neg (by decide), show x + (0 - 0) = x by omega, show y + (0 - 0) = y by omega]
    unfold mn
    split <;> rfl
  · generalize mx n (0 - n) = far at hf ⊢
    have l := lo_ge far y
    have h := hi_le far m.2.1 y
    have q := lo_hi1 hf hy
    have lo : iLo far y = 0 - far ∨ iLo far y = 0 - y := by unfold iLo mx; split <;> omega
    have hi : iHi far m.2.1 y = far ∨ iHi far m.2.1 y = m.2.1 - 1 - y := by unfold iHi mn; split <;> omega
    have e : side far = (iLo far y + far).toNat + (cnt (iLo far y) (iHi far m.2.1 y) + (far - iHi far m.2.1 y).toNat) := by unfold side cnt; omega
    unfold refV growV
    rw [e, rowsR_append, rowsR_append, rowsR_skip (iLo far y + far).toNat (0 - far) _ fun j' i' h1 h2 => decide_eq_true (by omega),
      show 0 - far + (((iLo far y + far).toNat : Nat) : Int) = iLo far y by omega, rowsR_in hf hn hx (cnt (iLo far y) (iHi far m.2.1 y)) (iLo far y) _ (by omega) (by unfold cnt; omega)]
    exact rowsR_skip _ _ _ fun j' i' h1 h2 => decide_eq_true (by unfold cnt at h1 h2; omega)
/-! ### The code -/
def okF (m : Mk) (far n : Int) : Bool := okSize m && decide (0 ≤ far ∧ far ≤ 16 ∧ -16 ≤ n ∧ n ≤ 16)
def lp35i (st : St) (R : Type) (K : Ex → St → Option R) : Option R := req (decide (st.length = 134)) (gI st 1 fun n => gM st 2 fun m => gB st 4 fun z => gB st 7 fun t => gI st 8 fun far => gI st 9 fun y => gI st 10 fun x => gI st 11 fun v => gI st 12 fun j => gI st 13 fun i =>
  req (okG m far n x y && decide (-16 ≤ j ∧ j ≤ 16) && decide (i = 0 - far)) (K (.exit 6) (mk 134 [(1, iv n), (2, bM m), (4, bB z), (7, bB t), (8, iv far), (9, iv y), (10, iv x), (11, iv (rowR m n x y j (side far) (0 - far) v)), (12, iv j)])))
def lp35j (st : St) (R : Type) (K : Ex → St → Option R) : Option R := req (decide (st.length = 134)) (gI st 1 fun n => gM st 2 fun m => gB st 4 fun z => gB st 7 fun t => gI st 8 fun far => gI st 9 fun y => gI st 10 fun x => gI st 11 fun v => gI st 12 fun j =>
  req (okG m far n x y && decide (j = 0 - far)) (K (.exit 4) (mk 134 [(1, iv n), (2, bM m), (4, bB z), (7, bB t), (8, iv far), (9, iv y), (10, iv x), (11, iv (rowsR m n far x y (side far) (0 - far) v))])))
def lp35x (st : St) (R : Type) (K : Ex → St → Option R) : Option R := req (decide (st.length = 134)) (gI st 1 fun n => gM st 2 fun m => gB st 4 fun z => gB st 7 fun t => gI st 8 fun far => gI st 9 fun y => gI st 10 fun x =>
  req (okF m far n && decide (0 ≤ y ∧ y < 256) && decide (x = 0) && decide (t.2.2.length ≤ 65536)) (K (.exit 2) (mk 134 [(1, iv n), (2, bM m), (4, bB z), (7, bB (t.1, t.2.1, t.2.2 ++ rowG (refV m far n) y m.1.toNat 0)), (8, iv far), (9, iv y)])))
def lp35y (st : St) (R : Type) (K : Ex → St → Option R) : Option R := req (decide (st.length = 134)) (gI st 1 fun n => gM st 2 fun m => gB st 4 fun z => gB st 7 fun t => gI st 8 fun far => gI st 9 fun y =>
  req (okF m far n && decide (y = 0) && decide (t.2.2.length = 0)) (K (.exit 0) (mk 134 [(4, bB z), (7, bB (t.1, t.2.1, rowsG (refV m far n) m.1.toNat m.2.1.toNat 0))])))
def L35 (ck : Mk → Int) : List Entry := [(31, pT dM, sp dM fun m => iv (ck m)), (53, pG, sG)]
def E35 (ck : Mk → Int) : Env := { EG (L35 ck) with
  lv := fun id => match id with | 0 => [1, 2, 4, 7, 8, 9] | 2 => [1, 2, 4, 7, 8, 9, 10] | 4 => [1, 2, 4, 7, 8, 9, 10, 11, 12] | _ => [1, 2, 4, 7, 8, 9, 10, 11, 12, 13],
  lx := fun id => match id with | 0 => [4, 7] | 2 => [1, 2, 4, 7, 8, 9] | 4 => [1, 2, 4, 7, 8, 9, 10, 11] | _ => [1, 2, 4, 7, 8, 9, 10, 11, 12],
  lp := fun id => match id with | 0 => lp35y | 2 => lp35x | 4 => lp35j | _ => lp35i }
def st35y (n : Int) (m z t : Mk) (far y : Int) : St := mk 134 [(1, iv n), (2, bM m), (4, bB z), (7, bB t), (8, iv far), (9, iv y)]
def st35x (n : Int) (m z t : Mk) (far y x : Int) : St := mk 134 [(1, iv n), (2, bM m), (4, bB z), (7, bB t), (8, iv far), (9, iv y), (10, iv x)]
def st35j (n : Int) (m z t : Mk) (far y x v j : Int) : St := mk 134 [(1, iv n), (2, bM m), (4, bB z), (7, bB t), (8, iv far), (9, iv y), (10, iv x), (11, iv v), (12, iv j)]
def st35i (n : Int) (m z t : Mk) (far y x v j i : Int) : St := mk 134 [(1, iv n), (2, bM m), (4, bB z), (7, bB t), (8, iv far), (9, iv y), (10, iv x), (11, iv v), (12, iv j), (13, iv i)]
def nx35 (n : Int) (m z t : Mk) (far y x v j i : Int) : Option (Ex × St) := some (.normal, st35i n m z t far y x v j (W (i + 1)))
theorem b35i (ck : Mk → Int) (n : Int) (m z t : Mk) (far y x v j i : Int) : evalCode (E35 ck) (loopAt Try.f35 3) 6 (st35i n m z t far y x v j i) (kp (E35 ck) 6) = bif decide (i ≤ far) then
    bif decide (W (W (i * i) + W (j * j)) > W (n * n)) then nx35 n m z t far y x v j i else bif decide (W (x + i) < 0) then nx35 n m z t far y x v j i else bif decide (W (x + i) ≥ m.1) then nx35 n m z t far y x v j i else
    bif decide (W (y + j) < 0) then nx35 n m z t far y x v j i else bif decide (W (y + j) ≥ m.2.1) then nx35 n m z t far y x v j i else
    bif decide (n > 0) then bif okSize m then nx35 n m z t far y x (mx v (getM m (W (x + i)) (W (y + j)))) j i else none else bif okSize m then nx35 n m z t far y x (mn v (getM m (W (x + i)) (W (y + j)))) j i else none
    else some (.exit 6, st35j n m z t far y x v j) := by kernel_rfl
theorem b35j (ck : Mk → Int) (n : Int) (m z t : Mk) (far y x v j : Int) : evalCode (E35 ck) (loopAt Try.f35 2) 4 (st35j n m z t far y x v j) (kp (E35 ck) 4) = bif decide (j ≤ far) then
    bif okG m far n x y && decide (-16 ≤ j ∧ j ≤ 16) && decide (W (0 - far) = 0 - far) then some (.normal, st35j n m z t far y x (rowR m n x y j (side far) (0 - far) v) (W (j + 1))) else none
    else some (.exit 4, mk 134 [(1, iv n), (2, bM m), (4, bB z), (7, bB t), (8, iv far), (9, iv y), (10, iv x), (11, iv v)]) := by kernel_rfl
theorem b35x (ck : Mk → Int) (n : Int) (m z t : Mk) (far y x : Int) : evalCode (E35 ck) (loopAt Try.f35 1) 2 (st35x n m z t far y x) (kp (E35 ck) 2) = bif decide (x < m.1) then bif okSize m then
    bif okG m far n x y && decide (W (0 - far) = 0 - far) then bif decide (0 < [refV m far n x y].length) && decide ((t.2.2 ++ [refV m far n x y]).length * 8 ≤ 140737488355328) then
      some (.normal, st35x n m z (t.1, t.2.1, t.2.2 ++ [refV m far n x y]) far y (W (x + 1))) else none else none else none
    else some (.exit 2, st35y n m z t far y) := by kernel_rfl
theorem b35y (ck : Mk → Int) (n : Int) (m z t : Mk) (far y : Int) : evalCode (E35 ck) (loopAt Try.f35 0) 0 (st35y n m z t far y) (kp (E35 ck) 0) = bif decide (y < m.2.1) then
    bif okF m far n && decide (0 ≤ y ∧ y < 256) && decide ((0 : Int) = 0) && decide (t.2.2.length ≤ 65536) then some (.normal, st35y n m z (t.1, t.2.1, t.2.2 ++ rowG (refV m far n) y m.1.toNat 0) far (W (y + 1))) else none
    else some (.exit 0, mk 134 [(4, bB z), (7, bB t)]) := by kernel_rfl
theorem t35 (ck : Mk → Int) (a b : Int) (l : List Int) (n : Int) : evalF (E35 ck) Try.f35 [mk3 a b l, iv n] = bif ck (a, b, l) != 0 then omv (errM (ck (a, b, l))) else bif decide (n < -16) then omv (errM 2) else bif decide (n > 16) then omv (errM 2) else
    bif okF (a, b, l) (mx n (W (0 - n))) n && decide ((0 : Int) = 0) && decide ([].length (α := Int) = 0) then omv ((a, b, rowsG (refV (a, b, l) (mx n (W (0 - n))) n) a.toNat b.toNat 0), 0) else none := by kernel_rfl
theorem runs35i (ck : Mk → Int) (n : Int) (m z t : Mk) (far y x j : Int) (hg : okG m far n x y = true) (hj : -16 ≤ j ∧ j ≤ 16) : ∀ (k : Nat) (i v : Int), i + k = far + 1 → -16 ≤ i →
    Runs (E35 ck) 6 (loopAt Try.f35 3) (st35i n m z t far y x v j i) (.exit 6) (st35j n m z t far y x (rowR m n x y j k i v) j) := by
  obtain ⟨ho, hb, hm⟩ := okG_iff hg
  intro k
  induction k with
  | zero =>
    intro i v hi _
    refine .stop ?_ (by simp)
    rw [b35i, decide_eq_false (by omega), rowR]
    rfl
  | succ k ih =>
    intro i v hi h0
    have hbd := b35i ck n m z t far y x v j i
    have q1 := sqb (i := i) (by omega) (by omega)
    have q2 := sqb (i := j) (by omega) (by omega)
    have q3 := sqb (i := n) (by omega) (by omega)
    have nx : ∀ v, nx35 n m z t far y x v j i = some (.normal, st35i n m z t far y x v j (i + 1)) := fun v => by unfold nx35; rw [W_small (n := i + 1) (by omega) (by omega)]
    rw [decide_eq_true (by omega : i ≤ far), W_small (n := i * i) (by omega) (by omega), W_small (n := j * j) (by omega) (by omega), W_small (n := n * n) (by omega) (by omega), W_small (n := i * i + j * j) (by omega) (by omega),
      W_small (n := x + i) (by omega) (by omega), W_small (n := y + j) (by omega) (by omega), ho, nx, nx, nx] at hbd
    rw [rowR]
    refine .step ?_ (ih (i + 1) _ (by omega) (by omega))
    rw [hbd]
    unfold stepR outR
    by_cases c1 : i * i + j * j > n * n
    · rw [decide_eq_true c1, if_pos (decide_eq_true (.inl c1))]; rfl
    by_cases c2 : x + i < 0
    · rw [decide_eq_false c1, decide_eq_true c2, if_pos (decide_eq_true (.inr (.inl c2)))]; rfl
    by_cases c3 : x + i ≥ m.1
    · rw [decide_eq_false c1, decide_eq_false c2, decide_eq_true c3, if_pos (decide_eq_true (.inr (.inr (.inl c3))))]; rfl
    by_cases c4 : y + j < 0
    · rw [decide_eq_false c1, decide_eq_false c2, decide_eq_false c3, decide_eq_true c4, if_pos (decide_eq_true (.inr (.inr (.inr (.inl c4)))))]; rfl
    by_cases c5 : y + j ≥ m.2.1
    · rw [decide_eq_false c1, decide_eq_false c2, decide_eq_false c3, decide_eq_false c4, decide_eq_true c5, if_pos (decide_eq_true (.inr (.inr (.inr (.inr c5)))))]; rfl
    rw [decide_eq_false c1, decide_eq_false c2, decide_eq_false c3, decide_eq_false c4, decide_eq_false c5, if_neg (by rw [decide_eq_true_eq]; omega)]
    by_cases c6 : n > 0
    · rw [decide_eq_true c6, if_pos c6]; rfl
    · rw [decide_eq_false c6, if_neg c6]; rfl
theorem runs35j (ck : Mk → Int) (n : Int) (m z t : Mk) (far y x : Int) (hg : okG m far n x y = true) : ∀ (k : Nat) (j v : Int), j + k = far + 1 → -16 ≤ j →
    Runs (E35 ck) 4 (loopAt Try.f35 2) (st35j n m z t far y x v j) (.exit 4) (mk 134 [(1, iv n), (2, bM m), (4, bB z), (7, bB t), (8, iv far), (9, iv y), (10, iv x), (11, iv (rowsR m n far x y k j v))]) := by
  obtain ⟨ho, hb, hm⟩ := okG_iff hg
  intro k
  induction k with
  | zero =>
    intro j v hj _
    refine .stop ?_ (by simp)
    rw [b35j, decide_eq_false (by omega), rowsR]
    rfl
  | succ k ih =>
    intro j v hj h0
    have hbd := b35j ck n m z t far y x v j
    rw [decide_eq_true (by omega : j ≤ far), hg, decide_eq_true (by omega : -16 ≤ j ∧ j ≤ 16), decide_eq_true (W_small (n := 0 - far) (by omega) (by omega)), W_small (n := j + 1) (by omega) (by omega)] at hbd
    exact .step hbd (ih (j + 1) _ (by omega) (by omega))
theorem okF_iff {m : Mk} {far n : Int} (h : okF m far n = true) : okSize m = true ∧ (0 ≤ far ∧ far ≤ 16 ∧ -16 ≤ n ∧ n ≤ 16) ∧ (0 ≤ m.1 ∧ m.1 ≤ 256 ∧ 0 ≤ m.2.1 ∧ m.2.1 ≤ 256) := by
  simp only [okF, Bool.and_eq_true, decide_eq_true_eq] at h
  exact ⟨h.1, h.2, okSize_le' h.1⟩
theorem runs35x (ck : Mk → Int) (n : Int) (m z : Mk) (p q far y : Int) (hf : okF m far n = true) (hy : 0 ≤ y ∧ y < 256) : ∀ (k : Nat) (x : Int) (l : List Int), x + k = m.1 → 0 ≤ x → l.length + k ≤ 131072 →
    Runs (E35 ck) 2 (loopAt Try.f35 1) (st35x n m z (p, q, l) far y x) (.exit 2) (st35y n m z (p, q, l ++ rowG (refV m far n) y k x) far y) := by
  obtain ⟨ho, hb, hm⟩ := okF_iff hf
  intro k
  induction k with
  | zero =>
    intro x l hx _ _
    refine .stop ?_ (by simp)
    rw [b35x, decide_eq_false (by omega), rowG, List.append_nil]
    rfl
  | succ k ih =>
    intro x l hx h0 hl
    have hg : okG m far n x y = true := by unfold okG; rw [ho, decide_eq_true (by omega)]; rfl
    have hbd := b35x ck n m z (p, q, l) far y x
    have hlen : (l ++ [refV m far n x y]).length * 8 ≤ 140737488355328 := by rw [List.length_append, List.length_singleton]; omega
    rw [decide_eq_true (by omega : x < m.1), ho, hg, decide_eq_true (W_small (n := 0 - far) (by omega) (by omega)), decide_eq_true hlen, W_small (n := x + 1) (by omega) (by omega)] at hbd
    have := ih (x + 1) (l ++ [refV m far n x y]) (by omega) (by omega) (by rw [List.length_append, List.length_singleton]; omega)
    rw [List.append_assoc] at this
    exact .step hbd this
theorem runs35y (ck : Mk → Int) (n : Int) (m z : Mk) (p q far : Int) (hf : okF m far n = true) : ∀ (k : Nat) (y : Int) (l : List Int), y + k = m.2.1 → 0 ≤ y → l.length + 256 * k ≤ 65536 →
    Runs (E35 ck) 0 (loopAt Try.f35 0) (st35y n m z (p, q, l) far y) (.exit 0) (mk 134 [(4, bB z), (7, bB (p, q, l ++ rowsG (refV m far n) m.1.toNat k y))]) := by
  obtain ⟨ho, hb, hm⟩ := okF_iff hf
  intro k
  induction k with
  | zero =>
    intro y l hx _ _
    refine .stop ?_ (by simp)
    rw [b35y, decide_eq_false (by omega), rowsG, List.append_nil]
    rfl
  | succ k ih =>
    intro y l hx h0 hl
    have hbd := b35y ck n m z (p, q, l) far y
    rw [decide_eq_true (by omega : y < m.2.1), hf, decide_eq_true (by omega : 0 ≤ y ∧ y < 256), decide_eq_true (by simp only; omega : (p, q, l).2.2.length ≤ 65536), W_small (n := y + 1) (by omega) (by omega)] at hbd
    have hl2 : (rowG (refV m far n) y m.1.toNat 0).length ≤ 256 := by rw [rowG_len]; omega
    have := ih (y + 1) (l ++ rowG (refV m far n) y m.1.toNat 0) (by omega) (by omega) (by rw [List.length_append]; omega)
    rw [List.append_assoc] at this
    exact .step hbd this
theorem loop35i (ck : Mk → Int) : LoopOk (E35 ck) 6 (loopAt Try.f35 3) := by
  intro st R K z h
  obtain ⟨hn, h⟩ := req_some h
  obtain ⟨n, e0, h⟩ := gI_some h
  obtain ⟨m, e1, h⟩ := gM_some h
  obtain ⟨z0, e2, h⟩ := gB_some h
  obtain ⟨t, e3, h⟩ := gB_some h
  obtain ⟨far, e4, h⟩ := gI_some h
  obtain ⟨y, e5, h⟩ := gI_some h
  obtain ⟨x, e6, h⟩ := gI_some h
  obtain ⟨v, e7, h⟩ := gI_some h
  obtain ⟨j, e8, h⟩ := gI_some h
  obtain ⟨i, e9, h⟩ := gI_some h
  obtain ⟨hc, h⟩ := req_some h
  simp only [Bool.and_eq_true, decide_eq_true_eq] at hc
  obtain ⟨⟨h1, h2⟩, h3⟩ := hc
  rw [keep_mk (of_decide_eq_true hn)]
  have e := runs35i ck n m z0 t far y x j h1 h2 (side far) (0 - far) v (by have := okG_iff h1; unfold side; omega) (by have := okG_iff h1; omega)
  have es : mk 134 (((E35 ck).lv 6).map fun i => (i, getS (keep ((E35 ck).lv 6) st) i)) = st35i n m z0 t far y x v j (0 - far) := by
    show mk 134 [(1, getS (keep ((E35 ck).lv 6) st) 1), (2, getS (keep ((E35 ck).lv 6) st) 2), (4, getS (keep ((E35 ck).lv 6) st) 4), (7, getS (keep ((E35 ck).lv 6) st) 7), (8, getS (keep ((E35 ck).lv 6) st) 8), (9, getS (keep ((E35 ck).lv 6) st) 9), (10, getS (keep ((E35 ck).lv 6) st) 10), (11, getS (keep ((E35 ck).lv 6) st) 11), (12, getS (keep ((E35 ck).lv 6) st) 12), (13, getS (keep ((E35 ck).lv 6) st) 13)] = _
    rw [e0, e1, e2, e3, e4, e5, e6, e7, e8, e9, h3]
    rfl
  rw [es]
  exact ⟨_, _, e, h⟩
theorem loop35j (ck : Mk → Int) : LoopOk (E35 ck) 4 (loopAt Try.f35 2) := by
  intro st R K z h
  obtain ⟨hn, h⟩ := req_some h
  obtain ⟨n, e0, h⟩ := gI_some h
  obtain ⟨m, e1, h⟩ := gM_some h
  obtain ⟨z0, e2, h⟩ := gB_some h
  obtain ⟨t, e3, h⟩ := gB_some h
  obtain ⟨far, e4, h⟩ := gI_some h
  obtain ⟨y, e5, h⟩ := gI_some h
  obtain ⟨x, e6, h⟩ := gI_some h
  obtain ⟨v, e7, h⟩ := gI_some h
  obtain ⟨j, e8, h⟩ := gI_some h
  obtain ⟨hc, h⟩ := req_some h
  simp only [Bool.and_eq_true, decide_eq_true_eq] at hc
  obtain ⟨h1, h3⟩ := hc
  rw [keep_mk (of_decide_eq_true hn)]
  have e := runs35j ck n m z0 t far y x h1 (side far) (0 - far) v (by have := okG_iff h1; unfold side; omega) (by have := okG_iff h1; omega)
  have es : mk 134 (((E35 ck).lv 4).map fun i => (i, getS (keep ((E35 ck).lv 4) st) i)) = st35j n m z0 t far y x v (0 - far) := by
    show mk 134 [(1, getS (keep ((E35 ck).lv 4) st) 1), (2, getS (keep ((E35 ck).lv 4) st) 2), (4, getS (keep ((E35 ck).lv 4) st) 4), (7, getS (keep ((E35 ck).lv 4) st) 7), (8, getS (keep ((E35 ck).lv 4) st) 8), (9, getS (keep ((E35 ck).lv 4) st) 9), (10, getS (keep ((E35 ck).lv 4) st) 10), (11, getS (keep ((E35 ck).lv 4) st) 11), (12, getS (keep ((E35 ck).lv 4) st) 12)] = _
    rw [e0, e1, e2, e3, e4, e5, e6, e7, e8, h3]
    rfl
  rw [es]
  exact ⟨_, _, e, h⟩
theorem loop35x (ck : Mk → Int) : LoopOk (E35 ck) 2 (loopAt Try.f35 1) := by
  intro st R K z h
  obtain ⟨hn, h⟩ := req_some h
  obtain ⟨n, e0, h⟩ := gI_some h
  obtain ⟨m, e1, h⟩ := gM_some h
  obtain ⟨z0, e2, h⟩ := gB_some h
  obtain ⟨t, e3, h⟩ := gB_some h
  obtain ⟨far, e4, h⟩ := gI_some h
  obtain ⟨y, e5, h⟩ := gI_some h
  obtain ⟨x, e6, h⟩ := gI_some h
  obtain ⟨hc, h⟩ := req_some h
  simp only [Bool.and_eq_true, decide_eq_true_eq] at hc
  obtain ⟨⟨⟨h1, h2⟩, h3⟩, h4⟩ := hc
  rw [keep_mk (of_decide_eq_true hn)]
  have e := runs35x ck n m z0 t.1 t.2.1 far y h1 h2 m.1.toNat 0 t.2.2 (by have := okF_iff h1; omega) (Int.le_refl _) (by have := okF_iff h1; omega)
  have es : mk 134 (((E35 ck).lv 2).map fun i => (i, getS (keep ((E35 ck).lv 2) st) i)) = st35x n m z0 (t.1, t.2.1, t.2.2) far y 0 := by
    show mk 134 [(1, getS (keep ((E35 ck).lv 2) st) 1), (2, getS (keep ((E35 ck).lv 2) st) 2), (4, getS (keep ((E35 ck).lv 2) st) 4), (7, getS (keep ((E35 ck).lv 2) st) 7), (8, getS (keep ((E35 ck).lv 2) st) 8), (9, getS (keep ((E35 ck).lv 2) st) 9), (10, getS (keep ((E35 ck).lv 2) st) 10)] = _
    rw [e0, e1, e2, e3, e4, e5, e6, h3]
    rfl
  rw [es]
  exact ⟨_, _, e, h⟩
theorem loop35y (ck : Mk → Int) : LoopOk (E35 ck) 0 (loopAt Try.f35 0) := by
  intro st R K z h
  obtain ⟨hn, h⟩ := req_some h
  obtain ⟨n, e0, h⟩ := gI_some h
  obtain ⟨m, e1, h⟩ := gM_some h
  obtain ⟨z0, e2, h⟩ := gB_some h
  obtain ⟨t, e3, h⟩ := gB_some h
  obtain ⟨far, e4, h⟩ := gI_some h
  obtain ⟨y, e5, h⟩ := gI_some h
  obtain ⟨hc, h⟩ := req_some h
  simp only [Bool.and_eq_true, decide_eq_true_eq] at hc
  obtain ⟨⟨h1, h2⟩, h3⟩ := hc
  rw [keep_mk (of_decide_eq_true hn)]
  have e := runs35y ck n m z0 t.1 t.2.1 far h1 m.2.1.toNat 0 [] (by have := okF_iff h1; omega) (Int.le_refl _) (by have := okF_iff h1; rw [List.length_nil]; omega)
  have es : mk 134 (((E35 ck).lv 0).map fun i => (i, getS (keep ((E35 ck).lv 0) st) i)) = st35y n m z0 (t.1, t.2.1, []) far 0 := by
    show mk 134 [(1, getS (keep ((E35 ck).lv 0) st) 1), (2, getS (keep ((E35 ck).lv 0) st) 2), (4, getS (keep ((E35 ck).lv 0) st) 4), (7, getS (keep ((E35 ck).lv 0) st) 7), (8, getS (keep ((E35 ck).lv 0) st) 8), (9, getS (keep ((E35 ck).lv 0) st) 9)] = _
    rw [e0, e1, e2, e3, e4, e5, h2, ← List.length_eq_zero_iff.mp h3]
    rfl
  rw [es]
  exact ⟨_, _, e, h⟩
theorem loops35 : loopsOf Try.f35 = [(0, loopAt Try.f35 0), (2, loopAt Try.f35 1), (4, loopAt Try.f35 2), (6, loopAt Try.f35 3)] := by kernel_rfl
theorem e35 (a b : Int) (l : List Int) (n : Int) : evalF (E35 checkM) Try.f35 [mk3 a b l, iv n] = omv (growM (a, b, l) n) := by
  rw [t35]
  unfold growM
  by_cases hc : checkM (a, b, l) = 0
  · obtain ⟨ho, hz, hu⟩ := check_ok hc
    have hs := (okSize_iff a b l).mp ho
    rw [if_neg (fun h => h hc), bne_eq_false_iff_eq.mpr hc]
    by_cases h1 : n < -16
    · rw [if_pos (.inl h1), decide_eq_true h1]; rfl
    by_cases h2 : n > 16
    · rw [if_pos (.inr h2), decide_eq_false h1, decide_eq_true h2]; rfl
    rw [if_neg (by omega), decide_eq_false h1, decide_eq_false h2, W_small (n := 0 - n) (by omega) (by omega)]
    have hr : 0 ≤ mx n (0 - n) ∧ mx n (0 - n) ≤ 16 := by unfold mx; split <;> omega
    have hf : okF (a, b, l) (mx n (0 - n)) n = true := by unfold okF; rw [ho, decide_eq_true (by omega)]; rfl
    rw [hf, rowsG_congrR (g' := growV (a, b, l) (mx n (0 - n)) n) a.toNat b.toNat (fun x y x0 x1 y0 y1 => refV_eq (by simp only; omega) (by simp only; omega)) b.toNat 0 (Int.le_refl _) (by omega)]
    rfl
  · rw [if_pos hc, bne_iff_ne.mpr hc]
    rfl
theorem m35 : Meets Try.prog 35 (gate (pT dMI) (sp dMI fun a => mev (growM a.1 a.2))) := mG (rdL (e := E35 checkM) rfl (eg_cons m31 (eg_cons m53 eg_nil)) (fn := Try.f35) (k := 2) (by kernel_rfl) (by kernel_rfl) (of_decide_eq_true (by kernel_rfl)) loops35 (fun p hp => by
  rcases List.mem_cons.mp hp with h | hp
  · cases h; exact loop35y checkM
  rcases List.mem_cons.mp hp with h | hp
  · cases h; exact loop35x checkM
  rcases List.mem_cons.mp hp with h | hp
  · cases h; exact loop35j checkM
  · cases List.mem_singleton.mp hp; exact loop35i checkM)) (fun _ _ => hMI) (fun _ => ⟨rfl, Nat.le_refl _⟩)
  fun ⟨⟨a, b, l⟩, n⟩ _ => e35 a b l n
end Go.Proofs.Ytkeildnpemiacaa.Ev

