/- Soft edges, the reference's. Conditions: none. Printed by gen.py of this session. -/
import Derived.Test.YtkeildnpemiacaaMw
import Derived.Test.YtkeildnpemiacaaMp2
namespace Go.Proofs.Ytkeildnpemiacaa.Ev
open Go.Proofs
set_option linter.unusedVariables false
set_option linter.unusedSimpArgs false
set_option maxRecDepth 100000
set_option maxHeartbeats 1000000

theorem t73_0 : evalF (E69 Try.f73) Try.f73 [iv 0] = some (isv (binL 0), []) := by kernel_rfl
theorem t73_2 : evalF (E69 Try.f73) Try.f73 [iv 2] = some (isv (binL 2), []) := by kernel_rfl
theorem t73_4 : evalF (E69 Try.f73) Try.f73 [iv 4] = some (isv (binL 4), []) := by kernel_rfl
theorem t73_6 : evalF (E69 Try.f73) Try.f73 [iv 6] = some (isv (binL 6), []) := by kernel_rfl
theorem t73_8 : evalF (E69 Try.f73) Try.f73 [iv 8] = some (isv (binL 8), []) := by kernel_rfl
theorem t73_10 : evalF (E69 Try.f73) Try.f73 [iv 10] = some (isv (binL 10), []) := by kernel_rfl
theorem t73_12 : evalF (E69 Try.f73) Try.f73 [iv 12] = some (isv (binL 12), []) := by kernel_rfl
theorem t73_14 : evalF (E69 Try.f73) Try.f73 [iv 14] = some (isv (binL 14), []) := by kernel_rfl
theorem m73 : Meets Try.prog 73 (gate (ps dI even14) (sp dI fun n => isv (binL n))) := mG (e := E69 Try.f73) (n := 73) (fn := Try.f73) (k := 1) ⟨hT, specs_nil, by kernel_rfl, by kernel_rfl, of_decide_eq_true (by kernel_rfl), fun p hp => by
    have := loopOk_run (ownE T [] Try.f73) (loopsOf Try.f73) 40 2 p.1
    rw [look_of _ (of_decide_eq_true (by kernel_rfl)) p hp] at this
    exact this⟩ (fun _ _ => hI) (fun _ => ⟨rfl, Nat.le_refl _⟩)
  fun n hp => by
    have hp := of_decide_eq_true hp
    rcases (show n = 0 ∨ n = 2 ∨ n = 4 ∨ n = 6 ∨ n = 8 ∨ n = 10 ∨ n = 12 ∨ n = 14 by omega) with h | h | h | h | h | h | h | h <;> subst h
    · exact t73_0
    · exact t73_2
    · exact t73_4
    · exact t73_6
    · exact t73_8
    · exact t73_10
    · exact t73_12
    · exact t73_14
/-! ### The sums -/
def cgX (m : Mk) (x i : Int) : Int := mn (mx (W (x + i)) 0) (W (m.1 - 1))
def cgY (m : Mk) (y j : Int) : Int := mn (mx (W (y + j)) 0) (W (m.2.1 - 1))
def stepF (m : Mk) (l : List Int) (r x y j i s : Int) : Int := W (s + W (W (l.getD (W (r + i)).toNat 0 * l.getD (W (r + j)).toNat 0) * getM m (cgX m x i) (cgY m y j)))
def rowF (m : Mk) (l : List Int) (r x y j : Int) : Nat → Int → Int → Int
  | 0, _, s => s
  | k + 1, i, s => rowF m l r x y j k (i + 1) (stepF m l r x y j i s)
def rowsFF (m : Mk) (l : List Int) (r x y : Int) : Nat → Int → Int → Int
  | 0, _, s => s
  | k + 1, j, s => rowsFF m l r x y k (j + 1) (rowF m l r x y j (side r) (0 - r) s)
def sumF (m : Mk) (l : List Int) (r x y : Int) : Int := rowsFF m l r x y (side r) (0 - r) 0
theorem dot_congr (l : List Int) {v v' : Int → Int} : ∀ (k i : Nat), (∀ j : Int, v j = v' j) → dot l v k i = dot l v' k i
  | 0, _, _ => rfl
  | k + 1, i, h => by rw [dot, dot, h, dot_congr l k (i + 1) h]
theorem dot_congrR (l : List Int) {v v' : Int → Int} : ∀ (k i : Nat), (∀ j : Nat, i ≤ j → j < i + k → v j = v' j) → dot l v k i = dot l v' k i
  | 0, _, _ => rfl
  | k + 1, i, h => by rw [dot, dot, h i (Nat.le_refl _) (by omega), dot_congrR l k (i + 1) fun j a b => h j (by omega) (by omega)]
theorem dot_bound {l : List Int} {v : Int → Int} {V : Int} (hl : ∀ j, 0 ≤ l.getD j 0) (hv : ∀ i, 0 ≤ v i ∧ v i ≤ V) : ∀ (k i : Nat), 0 ≤ dot l v k i ∧ dot l v k i ≤ sumL l k i * V
  | 0, _ => by rw [dot, sumL, Int.zero_mul]; exact ⟨Int.le_refl _, Int.le_refl _⟩
  | k + 1, i => by
    have ih := dot_bound hl hv k (i + 1)
    have p0 : 0 ≤ l.getD i 0 * v i := Int.mul_nonneg (hl i) (hv i).1
    have p1 : l.getD i 0 * v i ≤ l.getD i 0 * V := Int.mul_le_mul_of_nonneg_left (hv i).2 (hl i)
    rw [dot, sumL, Int.add_mul]
    omega
theorem sumL_nonneg {l : List Int} (hl : ∀ j, 0 ≤ l.getD j 0) : ∀ (k i : Nat), 0 ≤ sumL l k i
  | 0, _ => Int.le_refl _
  | k + 1, i => by have := sumL_nonneg hl k (i + 1); have := hl i; rw [sumL]; omega
theorem sumL_get {l : List Int} (hl : ∀ j, 0 ≤ l.getD j 0) : ∀ (k i j : Nat), i ≤ j → j < i + k → l.getD j 0 ≤ sumL l k i
  | 0, i, j, h1, h2 => by omega
  | k + 1, i, j, h1, h2 => by
    have h3 := sumL_nonneg hl k (i + 1)
    have h4 := hl i
    rw [sumL]
    by_cases h : j = i
    · subst h; omega
    · have := sumL_get hl k (i + 1) j (by omega) (by omega); omega
theorem sumL_tail {l : List Int} (hl : ∀ j, 0 ≤ l.getD j 0) : ∀ (n k i : Nat), n = k + i → sumL l k i ≤ sumL l n 0 := by
  have split : ∀ (a b i : Nat), sumL l (a + b) i = sumL l a i + sumL l b (i + a) := by
    intro a
    induction a with
    | zero => intro b i; rw [Nat.zero_add, sumL, Int.zero_add]; rfl
    | succ a ih => intro b i; rw [Nat.succ_add, sumL, sumL, ih, Nat.add_assoc i 1 a, Nat.add_comm 1 a, Int.add_assoc]
  intro n k i h
  subst h
  rw [Nat.add_comm k i, split, Nat.zero_add]
  have := sumL_nonneg hl i 0
  omega
theorem side_len {r : Int} (h : 0 ≤ r ∧ r ≤ 7) : (binL (2 * r)).length = side r := by
  rcases (show r = 0 ∨ r = 1 ∨ r = 2 ∨ r = 3 ∨ r = 4 ∨ r = 5 ∨ r = 6 ∨ r = 7 by omega) with h | h | h | h | h | h | h | h <;> subst h <;> decide +kernel
theorem cg_eq {w r x : Int} (hw : 0 ≤ w ∧ w ≤ 256) (hr : 0 ≤ r ∧ r ≤ 7) (hx : 0 ≤ x ∧ x < 256) {i : Int} (hi : -7 ≤ i ∧ i ≤ 7) : mn (mx (W (x + i)) 0) (W (w - 1)) = mn (W (w - 1)) (mx (W (W (x + (i + r)) - r)) 0) := by
  rw [W_small (n := x + i) (by omega) (by omega), W_small (n := x + (i + r)) (by omega) (by omega), W_small (n := x + (i + r) - r) (by omega) (by omega), W_small (n := w - 1) (by omega) (by omega), show x + (i + r) - r = x + i by omega]
  unfold mn
  split <;> split <;> omega
theorem rowF_val {w h : Int} {l : List Int} {N : Nat} (g : Good w h l N) {r x y j : Int} (hr : 0 ≤ r ∧ r ≤ 7) (hx : 0 ≤ x ∧ x < 256) (hj : -7 ≤ j ∧ j ≤ 7) (hjr : 0 ≤ r + j ∧ r + j ≤ 2 * r) : ∀ (k : Nat) (i s : Int), i + k = r + 1 → 0 - r ≤ i → 0 ≤ s → s ≤ 288230376151711744 - 16384 * (k * (16384 * 65535)) →
    rowF (w, h, l) (binL (2 * r)) r x y j k i s = s + (binL (2 * r)).getD (r + j).toNat 0 * dot (binL (2 * r)) (cX (w, h, l) r x (cgY (w, h, l) y j)) k (i + r).toNat ∧
      0 ≤ (binL (2 * r)).getD (r + j).toNat 0 * dot (binL (2 * r)) (cX (w, h, l) r x (cgY (w, h, l) y j)) k (i + r).toNat ∧ (binL (2 * r)).getD (r + j).toNat 0 * dot (binL (2 * r)) (cX (w, h, l) r x (cgY (w, h, l) y j)) k (i + r).toNat ≤ 16384 * (k * (16384 * 65535)) := by
  intro k
  induction k with
  | zero =>
    intro i s _ _ _ _
    rw [rowF, dot, Int.mul_zero]
    omega
  | succ k ihk =>
    intro i s hk hi h0 hs
    have b := bin_ok hr
    have hlen := side_len hr
    have bd : ∀ q : Nat, 0 ≤ (binL (2 * r)).getD q 0 ∧ (binL (2 * r)).getD q 0 ≤ 16384 := fun q => by
      refine ⟨b.pos q, ?_⟩
      by_cases hq : q < (binL (2 * r)).length
      · have := sumL_get b.pos (binL (2 * r)).length 0 q (Nat.zero_le _) (by omega)
        rw [b.sum] at this
        have := b.le
        omega
      · rw [List.getD_eq_getElem?_getD, List.getElem?_eq_none (by omega)]; decide
    have hv := g.getU (cgX (w, h, l) x i) (cgY (w, h, l) y j)
    have e1 : W (r + i) = r + i := W_small (by omega) (by omega)
    have e2 : W (r + j) = r + j := W_small (by omega) (by omega)
    have a1 := bd (r + i).toNat
    have a2 := bd (r + j).toNat
    have p0 : 0 ≤ (binL (2 * r)).getD (r + i).toNat 0 * (binL (2 * r)).getD (r + j).toNat 0 := Int.mul_nonneg a1.1 a2.1
    have p1 : (binL (2 * r)).getD (r + i).toNat 0 * (binL (2 * r)).getD (r + j).toNat 0 ≤ 16384 * 16384 := Int.mul_le_mul a1.2 a2.2 a2.1 (by decide)
    have p2 : 0 ≤ (binL (2 * r)).getD (r + i).toNat 0 * (binL (2 * r)).getD (r + j).toNat 0 * getM (w, h, l) (cgX (w, h, l) x i) (cgY (w, h, l) y j) := Int.mul_nonneg p0 hv.1
    have p3 : (binL (2 * r)).getD (r + i).toNat 0 * (binL (2 * r)).getD (r + j).toNat 0 * getM (w, h, l) (cgX (w, h, l) x i) (cgY (w, h, l) y j) ≤ 16384 * 16384 * 65535 := Int.mul_le_mul p1 hv.2 hv.1 (by decide)
    have ex : cX (w, h, l) r x (cgY (w, h, l) y j) (((i + r).toNat : Nat) : Int) = getM (w, h, l) (cgX (w, h, l) x i) (cgY (w, h, l) y j) := by
      unfold cX cgX
      simp only
      rw [cg_eq (w := w) (r := r) ⟨g.size.1, g.size.2.1⟩ hr hx (by omega), Int.toNat_of_nonneg (by omega)]
    have ih := ihk (i + 1) (stepF (w, h, l) (binL (2 * r)) r x y j i s)
    have es : stepF (w, h, l) (binL (2 * r)) r x y j i s = s + (binL (2 * r)).getD (r + i).toNat 0 * (binL (2 * r)).getD (r + j).toNat 0 * getM (w, h, l) (cgX (w, h, l) x i) (cgY (w, h, l) y j) := by
      unfold stepF
      rw [e1, e2, W_small (n := (binL (2 * r)).getD (r + i).toNat 0 * (binL (2 * r)).getD (r + j).toNat 0) (by omega) (by omega), W_small (n := (binL (2 * r)).getD (r + i).toNat 0 * (binL (2 * r)).getD (r + j).toNat 0 * getM (w, h, l) (cgX (w, h, l) x i) (cgY (w, h, l) y j)) (by omega) (by omega), W_small (n := s + (binL (2 * r)).getD (r + i).toNat 0 * (binL (2 * r)).getD (r + j).toNat 0 * getM (w, h, l) (cgX (w, h, l) x i) (cgY (w, h, l) y j)) (by omega) (by omega)]
    rw [es] at ih
    have ih := ih (by omega) (by omega) (by omega) (by omega)
    rw [show (i + 1 + r).toNat = (i + r).toNat + 1 by omega] at ih
    rw [rowF, es, dot, ex, Int.mul_add, ih.1, show (binL (2 * r)).getD (r + j).toNat 0 * ((binL (2 * r)).getD (i + r).toNat 0 * getM (w, h, l) (cgX (w, h, l) x i) (cgY (w, h, l) y j)) = (binL (2 * r)).getD (r + i).toNat 0 * (binL (2 * r)).getD (r + j).toNat 0 * getM (w, h, l) (cgX (w, h, l) x i) (cgY (w, h, l) y j) by rw [← Int.mul_assoc, Int.mul_comm ((binL (2 * r)).getD (r + j).toNat 0), Int.add_comm i r]]
    omega
theorem rowsFF_val {w h : Int} {l : List Int} {N : Nat} (g : Good w h l N) {r x y : Int} (hr : 0 ≤ r ∧ r ≤ 7) (hx : 0 ≤ x ∧ x < 256) : ∀ (k : Nat) (j s : Int), j + k = r + 1 → 0 - r ≤ j → 0 ≤ s → s ≤ 288230376151711744 - k * (16384 * (15 * (16384 * 65535))) - 16384 * (15 * (16384 * 65535)) →
    rowsFF (w, h, l) (binL (2 * r)) r x y k j s = s + dot (binL (2 * r)) (fun jj => dot (binL (2 * r)) (cX (w, h, l) r x (cgY (w, h, l) y (jj - r))) (side r) 0) k (j + r).toNat := by
  intro k
  induction k with
  | zero =>
    intro j s _ _ _ _
    rw [rowsFF, dot, Int.add_zero]
  | succ k ihk =>
    intro j s hk hj h0 hs
    have hsd : side r ≤ 15 := by unfold side; omega
    have f := rowF_val g (y := y) (j := j) hr hx (by omega) (by omega) (side r) (0 - r) s (by unfold side; omega) (Int.le_refl _) h0 (by omega)
    rw [show (0 - r + r).toNat = 0 by omega] at f
    have ih := ihk (j + 1) (rowF (w, h, l) (binL (2 * r)) r x y j (side r) (0 - r) s) (by omega) (by omega) (by omega) (by omega)
    rw [show (j + 1 + r).toNat = (j + r).toNat + 1 by omega] at ih
    rw [rowsFF, ih, f.1, dot]
    rw [show (((j + r).toNat : Nat) : Int) - r = j by omega, show (r + j).toNat = (j + r).toNat by omega, Int.add_assoc]
theorem get_rows {w h : Int} {f : Int → Int → Int} (ho : okSize (w, h, rowsG f w.toNat h.toNat 0) = true) {x y : Int} (hx : 0 ≤ x ∧ x < w) (hy : 0 ≤ y ∧ y < h) : getM (w, h, rowsG f w.toNat h.toNat 0) x y = f x y := by
  have e := getM_at (m := (w, h, rowsG f w.toNat h.toNat 0)) ho (x := x.toNat) (y := y.toNat) (by simp only; omega) (by simp only; omega)
  rw [Int.toNat_of_nonneg hx.1, Int.toNat_of_nonneg hy.1] at e
  have hi := idx_nat (x := x.toNat) (y := y.toNat) (w := w.toNat) (h := h.toNat) (by omega) (by omega)
  rw [e]
  show (rowsG f w.toNat h.toNat 0).getD (y.toNat * w.toNat + x.toNat) 0 = _
  rw [rowsG_gv, seqL_get _ _ 0 _ hi, Nat.zero_add]
  unfold gv
  rw [show (y.toNat * w.toNat + x.toNat) % w.toNat = x.toNat by rw [Nat.mul_comm, Nat.mul_add_mod, Nat.mod_eq_of_lt (by omega)], show (y.toNat * w.toNat + x.toNat) / w.toNat = y.toNat by rw [Nat.mul_comm, Nat.mul_add_div (by omega), Nat.div_eq_of_lt (by omega), Nat.add_zero],
    Int.toNat_of_nonneg hx.1, Int.toNat_of_nonneg hy.1]
theorem sumF_eq {w h : Int} {l : List Int} {N : Nat} (g : Good w h l N) {r x y : Int} (hr : 0 ≤ r ∧ r ≤ 7) (hx : 0 ≤ x ∧ x < w) (hy : 0 ≤ y ∧ y < h) : sumF (w, h, l) (binL (2 * r)) r x y = sumY (binL (2 * r)) (rowsQ (w, h, l) r) h r x y := by
  have hsz := g.size
  have hsd : side r ≤ 15 := by unfold side; omega
  have f := rowsFF_val g (y := y) hr (x := x) (by omega) (side r) (0 - r) 0 (by unfold side; omega) (Int.le_refl _) (Int.le_refl _) (by omega)
  rw [show (0 - r + r).toNat = 0 by omega, Int.zero_add] at f
  unfold sumF
  rw [f, (g.sumYOk hr x y).1, side_len hr]
  refine dot_congrR _ _ _ fun jj h1 h2 => ?_
  have hjj : (jj : Int) ≤ 2 * r := by unfold side at h2; omega
  have cv := (g.conv hr x (cgY (w, h, l) y ((jj : Int) - r))).1
  rw [side_len hr] at cv
  rw [← cv]
  have ce : cgY (w, h, l) y ((jj : Int) - r) = mn (W (h - 1)) (mx (W (W (y + (jj : Int)) - r)) 0) := by
    have := cg_eq (w := h) (r := r) (x := y) (i := (jj : Int) - r) (by omega) hr (by omega) (by omega)
    rw [show (jj : Int) - r + r = jj by omega] at this
    exact this
  have ci := clamp_in (h := h) (r := r) (y := y) (i := (jj : Int)) (by omega)
  rw [ce]
  exact (get_rows (f := convV (w, h, l) r) (g.rowsOk _) hx ci).symm
end Go.Proofs.Ytkeildnpemiacaa.Ev

