/- The plain law of a row of samples: what the table of turns comes to is the count of the reference. Conditions: none. -/
import Derived.Test.YtbgfgadekmemeaaCg
namespace Go.Proofs.Ytbgfgadekmemeaa.Ev
open Go.Proofs
set_option linter.unusedVariables false
set_option linter.unusedSimpArgs false
set_option maxRecDepth 100000
set_option maxHeartbeats 1000000

theorem W_add (a b : Int) : W (W a + b) = W (a + b) := by
  unfold W
  rw [IntKind.wrap_i64, IntKind.wrap_i64, IntKind.wrap_i64]
  omega
theorem W_idem (a : Int) : W (W a) = W a := by
  have := W_add a 0
  rwa [Int.add_zero, Int.add_zero] at this
/-- The turns up to a column. -/
def wv (xs : List Int) : Nat → Int
  | 0 => W (0 + xs.getD 0 0)
  | v + 1 => W (wv xs v + xs.getD (v + 1) 0)
theorem wv_W (xs : List Int) (v : Nat) : W (wv xs v) = wv xs v := by cases v <;> exact W_idem _
theorem getD_set (xs : List Int) (i j : Nat) (a : Int) (hi : i < xs.length) : (xs.set i a).getD j 0 = if i = j then a else xs.getD j 0 := by
  rw [List.getD_eq_getElem?_getD, List.getD_eq_getElem?_getD, List.getElem?_set]
  by_cases h : i = j
  · subst h
    rw [if_pos rfl, if_pos hi, if_pos rfl]; rfl
  · rw [if_neg h, if_neg h]
theorem bump_at {xs : List Int} {u w : Int} (h0 : 0 < u) (hu : u.toNat < xs.length) (j : Nat) : (bump xs u w).getD j 0 = if j = 0 then W (xs.getD 0 0 + w) else if (j : Int) = u then W (xs.getD j 0 - w) else xs.getD j 0 := by
  unfold bump
  rw [getD_set _ _ _ _ (by rw [List.length_set]; exact hu), getD_set _ _ _ _ (by omega), getD_set _ _ _ _ (by omega)]
  by_cases h : j = 0
  · subst h
    rw [if_neg (by omega), if_pos rfl, if_pos rfl]
  · rw [if_neg h]
    by_cases h2 : (j : Int) = u
    · rw [if_pos (by omega), if_pos h2, if_neg (by omega), show u.toNat = j by omega]
    · rw [if_neg (by omega), if_neg h2, if_neg (by omega)]
theorem wv_bump {xs : List Int} {u w : Int} (h0 : 0 < u) (hu : u.toNat < xs.length) : ∀ v : Nat, wv (bump xs u w) v = W (wv xs v + if (v : Int) < u then w else 0)
  | 0 => by
    rw [wv, wv, bump_at h0 hu, if_pos rfl, if_pos (by omega : ((0 : Nat) : Int) < u), W_add, Int.zero_add, Int.zero_add, W_idem]
  | v + 1 => by
    rw [wv, wv, wv_bump h0 hu v, bump_at h0 hu, if_neg (by omega : ¬ v + 1 = 0)]
    by_cases h1 : ((v + 1 : Nat) : Int) < u
    · rw [if_pos (by omega : (v : Int) < u), if_neg (by omega : ¬ ((v + 1 : Nat) : Int) = u), if_pos h1, W_add, W_add]
      congr 1; omega
    · by_cases h2 : ((v + 1 : Nat) : Int) = u
      · rw [if_pos (by omega : (v : Int) < u), if_pos h2, if_neg h1, W_add, W_add]
        rw [Int.add_comm (wv xs v + w), W_add]
        congr 1; omega
      · rw [if_neg (by omega : ¬ (v : Int) < u), if_neg h2, if_neg h1, W_add, W_add]
        congr 1; omega
theorem wv_stepE {p q : Pt} {s lf : Int} {n : Nat} {xs : List Int} (hp : okP p = true) (hq : okP q = true) (h1 : -67108864 ≤ s ∧ s ≤ 67108864) (h2 : -67108864 ≤ lf ∧ lf ≤ 67108864) (hn : n ≤ 256) (hx : xs.length = 16 * n + 1) {v : Nat} (hv : v < 16 * n) :
    wv (stepE p q s lf n xs) v = W (wv xs v + crw p q (lf + v) s) := by
  have key : ∀ w : Int, wv (stepW w p q s lf n xs) v = W (wv xs v + bif decide (lo2 p.2 q.2 > s) then 0 else bif decide (hi2 p.2 q.2 ≤ s) then 0 else bif decide (lf + v < crs p q s) then w else 0) := by
    intro w
    unfold stepW
    by_cases c1 : lo2 p.2 q.2 > s
    · rw [decide_eq_true c1, cond_true, cond_true, Int.add_zero, wv_W]
    by_cases c2 : hi2 p.2 q.2 ≤ s
    · rw [decide_eq_false c1, decide_eq_true c2, cond_false, cond_false, cond_true, cond_true, Int.add_zero, wv_W]
    have hne : p.2 ≠ q.2 := fun e => by
      unfold lo2 at c1
      unfold hi2 at c2
      rw [e] at c1 c2
      simp only [Int.lt_irrefl, if_false, gt_iff_lt] at c1 c2
      omega
    rw [decide_eq_false c1, decide_eq_false c2]
    simp only [cond_false]
    have hu := colU_le hp hq h1.1 h1.2 h2.1 h2.2 hn hne
    by_cases c3 : colU p q s lf n > 0
    · have hle : colU p q s lf n ≤ 16 * n := by rw [hu]; split <;> omega
      rw [decide_eq_true c3, cond_true, wv_bump c3 (by omega)]
      congr 2
      have e : ((v : Int) < colU p q s lf n) ↔ (lf + v < crs p q s) := by rw [hu]; split <;> omega
      by_cases c4 : (v : Int) < colU p q s lf n
      · rw [if_pos c4, decide_eq_true (e.mp c4)]; rfl
      · rw [if_neg c4, decide_eq_false (fun h => c4 (e.mpr h))]; rfl
    · rw [decide_eq_false c3, cond_false]
      have : ¬ (lf + v < crs p q s) := by
        intro h
        apply c3
        rw [hu]; split <;> omega
      rw [decide_eq_false this, cond_false, Int.add_zero, wv_W]
  unfold stepE crw
  by_cases h : p.2 > q.2
  · rw [decide_eq_true h, cond_true, cond_true]; exact key (-1)
  · rw [decide_eq_false h, cond_false, cond_false]; exact key 1
theorem wv_foldE {s lf : Int} {n : Nat} {l : List Pt} (ho : okPts l = true) (h1 : -67108864 ≤ s ∧ s ≤ 67108864) (h2 : -67108864 ≤ lf ∧ lf ≤ 67108864) (hn : n ≤ 256) {v : Nat} (hv : v < 16 * n) : ∀ (k i : Nat) (xs : List Int), xs.length = 16 * n + 1 →
    wv (foldE s lf n l k i xs) v = accL l (lf + v) s k i (wv xs v)
  | 0, i, xs, hx => rfl
  | k + 1, i, xs, hx => by
    rw [foldE, accL, wv_foldE ho h1 h2 hn hv k (i + 1) _ (by rw [stepE_len]; exact hx), wv_stepE (okPts_at ho i) (okPts_at ho (nx l i)) h1 h2 hn hx hv]
theorem wv_foldPs {s lf : Int} {n : Nat} (h1 : -67108864 ≤ s ∧ s ≤ 67108864) (h2 : -67108864 ≤ lf ∧ lf ≤ 67108864) (hn : n ≤ 256) {v : Nat} (hv : v < 16 * n) : ∀ (ps : Ps) (xs : List Int), allPts ps = true → xs.length = 16 * n + 1 →
    wv (foldPs s lf n ps xs) v = accP (lf + v) s ps (wv xs v)
  | [], xs, _, hx => rfl
  | l :: ls, xs, ho, hx => by
    simp only [allPts, List.all_cons, Bool.and_eq_true] at ho
    rw [foldPs, accP, wv_foldPs h1 h2 hn hv ls _ ho.2 (by rw [foldE_len]; exact hx), wv_foldE ho.1 h1 h2 hn hv _ _ _ hx]
theorem wv_zero (m : Nat) : ∀ v : Nat, wv (List.replicate m 0) v = 0
  | 0 => by
    have : (List.replicate m (0 : Int)).getD 0 0 = 0 := by rw [List.getD_eq_getElem?_getD, List.getElem?_replicate]; split <;> rfl
    rw [wv, this]; exact W_small (by omega) (by omega)
  | v + 1 => by
    have : (List.replicate m (0 : Int)).getD (v + 1) 0 = 0 := by rw [List.getD_eq_getElem?_getD, List.getElem?_replicate]; split <;> rfl
    rw [wv, wv_zero m v, this]; exact W_small (by omega) (by omega)

/-! ### Counts -/
def cnI (f : Int → Int → Bool) (y : Int) : Nat → Int → Int
  | 0, _ => 0
  | k + 1, x => (if f x y = true then 1 else 0) + cnI f y k (x + 1)
def cnJ (f : Int → Int → Bool) (x : Int) : Nat → Int → Int
  | 0, _ => 0
  | k + 1, y => cnI f y 16 x + cnJ f x k (y + 1)
theorem cnI_le (f : Int → Int → Bool) (y : Int) : ∀ (k : Nat) (x : Int), 0 ≤ cnI f y k x ∧ cnI f y k x ≤ k
  | 0, _ => ⟨Int.le_refl _, Int.le_refl _⟩
  | k + 1, x => by
    have := cnI_le f y k (x + 1)
    rw [cnI]
    split <;> omega
theorem cnJ_le (f : Int → Int → Bool) (x : Int) : ∀ (k : Nat) (y : Int), 0 ≤ cnJ f x k y ∧ cnJ f x k y ≤ 16 * k
  | 0, _ => ⟨Int.le_refl _, by rw [cnJ]; omega⟩
  | k + 1, y => by
    have h1 := cnJ_le f x k (y + 1)
    have h2 := cnI_le f y 16 x
    rw [cnJ]
    omega
theorem cnI_congr {f g : Int → Int → Bool} {y : Int} : ∀ (k : Nat) (x : Int), (∀ x', x ≤ x' → x' < x + k → f x' y = g x' y) → cnI f y k x = cnI g y k x
  | 0, _, _ => rfl
  | k + 1, x, h => by rw [cnI, cnI, h x (by omega) (by omega), cnI_congr k (x + 1) fun x' h1 h2 => h x' (by omega) (by omega)]
theorem cnJ_congr {f g : Int → Int → Bool} {x : Int} : ∀ (k : Nat) (y : Int), (∀ x' y', x ≤ x' → x' < x + 16 → y ≤ y' → y' < y + k → f x' y' = g x' y') → cnJ f x k y = cnJ g x k y
  | 0, _, _ => rfl
  | k + 1, y, h => by rw [cnJ, cnJ, cnI_congr 16 x fun x' h1 h2 => h x' y h1 h2 (by omega) (by omega), cnJ_congr k (y + 1) fun x' y' h1 h2 h3 h4 => h x' y' h1 h2 (by omega) (by omega)]
/-- How many of a row's columns lie in a pixel and are inside. -/
def cV (g : Nat → Bool) (j : Nat) : Nat → Nat → Int
  | 0, _ => 0
  | k + 1, i => (if i / 16 = j ∧ g i = true then 1 else 0) + cV g j k (i + 1)
theorem cV_out {g : Nat → Bool} {j : Nat} : ∀ (k i : Nat), (∀ v, i ≤ v → v < i + k → v / 16 ≠ j) → cV g j k i = 0
  | 0, _, _ => rfl
  | k + 1, i, h => by rw [cV, if_neg (fun hh => h i (by omega) (by omega) hh.1), cV_out k (i + 1) fun v h1 h2 => h v (by omega) (by omega)]; rfl
theorem cV_add {g : Nat → Bool} {j : Nat} : ∀ (a b i : Nat), cV g j (a + b) i = cV g j a i + cV g j b (i + a)
  | 0, b, i => by rw [Nat.zero_add, cV, Nat.add_zero, Int.zero_add]
  | a + 1, b, i => by rw [show a + 1 + b = (a + b) + 1 by omega, cV, cV, cV_add a b (i + 1), show i + 1 + a = i + (a + 1) by omega]; omega
theorem cV_in {g : Nat → Bool} {j : Nat} {f : Int → Int → Bool} {lf y : Int} : ∀ (k i : Nat), (∀ v, i ≤ v → v < i + k → v / 16 = j ∧ g v = f (lf + v) y) → cV g j k i = cnI f y k (lf + i)
  | 0, _, _ => rfl
  | k + 1, i, h => by
    have h0 := h i (by omega) (by omega)
    have := cV_in (g := g) (j := j) (f := f) (lf := lf) (y := y) k (i + 1) fun v h1 h2 => h v (by omega) (by omega)
    rw [cV, cnI, this, h0.2, show lf + ((i + 1 : Nat) : Int) = lf + i + 1 by omega]
    congr 1
    by_cases c : f (lf + i) y = true
    · rw [if_pos ⟨h0.1, c⟩, if_pos c]
    · rw [if_neg (fun hh => c hh.2), if_neg c]
theorem tick_at {cs : List Int} {i j : Nat} (hi : i / 16 < cs.length) (hj : 0 ≤ cs.getD j 0) (hk : cs.getD j 0 < 4611686018427387904) (hs : i < 4096) : (tick cs i).getD j 0 = cs.getD j 0 + if i / 16 = j then 1 else 0 := by
  unfold tick
  have e : (W ((i : Int).tdiv 16)).toNat = i / 16 := by
    rw [Int.tdiv_eq_ediv_of_nonneg (by omega), W_small (by omega) (by omega)]
    omega
  rw [e, getD_set _ _ _ _ hi]
  by_cases h : i / 16 = j
  · rw [if_pos h, if_pos h, h, W_small (by omega) (by omega)]
  · rw [if_neg h, if_neg h, Int.add_zero]
theorem finC_at {rule : Int} {ts : List Int} {n j : Nat} (hn : n ≤ 256) (hj : j < n) : ∀ (k i : Nat) (w : Int) (cs : List Int), i + k = 16 * n → cs.length = n → 0 ≤ cs.getD j 0 → cs.getD j 0 + k < 4611686018427387904 → (W (w + ts.getD i 0) = wv ts i) →
    (finC rule ts k i w cs).getD j 0 = cs.getD j 0 + cV (fun v => insW rule (wv ts v)) j k i
  | 0, i, w, cs, _, _, _, _, _ => by rw [finC, cV, Int.add_zero]
  | k + 1, i, w, cs, hi, hc, h0, h1, hw => by
    rw [finC, Int.toNat_natCast, hw, show ((i : Int) + 1) = ((i + 1 : Nat) : Int) by omega, cV]
    have ht := tick_at (cs := cs) (i := i) (j := j) (by omega) h0 (by omega) (by omega)
    cases hin : insW rule (wv ts i)
    · rw [cond_false, finC_at hn hj k (i + 1) (wv ts i) cs (by omega) hc h0 (by omega) rfl, if_neg (fun hh => nomatch hh.2), Int.zero_add]
    · have hle : 0 ≤ (tick cs i).getD j 0 ∧ (tick cs i).getD j 0 ≤ cs.getD j 0 + 1 := by rw [ht]; split <;> omega
      rw [cond_true, finC_at hn hj k (i + 1) (wv ts i) (tick cs i) (by omega) (by rw [tick_len]; exact hc) hle.1 (by omega) rfl, ht]
      by_cases c : i / 16 = j
      · rw [if_pos c, if_pos ⟨c, rfl⟩]; omega
      · rw [if_neg c, if_neg (fun hh => c hh.1)]; omega
/-- What a row of samples adds. -/
theorem rowC_at {ps : Ps} {rule s lf : Int} {cs : List Int} {j : Nat} (ho : allPts ps = true) (h1 : -67108864 ≤ s ∧ s ≤ 67108864) (h2 : -67108864 ≤ lf ∧ lf ≤ 67108864) (hn : cs.length ≤ 256) (hj : j < cs.length) (h0 : 0 ≤ cs.getD j 0) (hb : cs.getD j 0 ≤ 1000000) :
    (rowC ps rule s lf cs).getD j 0 = cs.getD j 0 + cnI (fun x y => insW rule (wnd ps x y)) s 16 (lf + 16 * j) := by
  unfold rowC
  have hlen : (foldPs s lf cs.length ps (List.replicate (16 * cs.length + 1) 0)).length = 16 * cs.length + 1 := by rw [foldPs_len, List.length_replicate]
  have hwv : ∀ v, v < 16 * cs.length → wv (foldPs s lf cs.length ps (List.replicate (16 * cs.length + 1) 0)) v = wnd ps (lf + v) s := fun v hv => by
    rw [wv_foldPs h1 h2 hn hv ps _ ho (List.length_replicate ..), wv_zero]; rfl
  refine (finC_at (rule := rule) (ts := foldPs s lf cs.length ps (List.replicate (16 * cs.length + 1) 0)) (n := cs.length) (j := j) hn hj (16 * cs.length) 0 0 cs (by omega) rfl h0 (by omega) rfl).trans ?_
  congr 1
  rw [show 16 * cs.length = 16 * j + (16 + (16 * cs.length - 16 * j - 16)) by omega, cV_add, cV_add, cV_out (16 * j) 0 (fun v _ h => by omega), cV_out _ (0 + 16 * j + 16) (fun v h _ => by omega),
    cV_in (f := fun x y => insW rule (wnd ps x y)) (lf := lf) (y := s) 16 (0 + 16 * j) (fun v h3 h4 => ⟨by omega, ?_⟩), Int.zero_add, Int.add_zero]
  · congr 1; omega
  · have := hwv v (by omega)
    rw [show 16 * j + (16 + (16 * cs.length - 16 * j - 16)) = 16 * cs.length by omega] at *
    rw [this]
/-! ### Even and odd -/
theorem oddB_eq (w : Int) : oddB w = (w.tmod 2 != 0) := by
  unfold oddB
  have e : (BitVec.ofInt IntKind.i64.bits w &&& BitVec.ofInt IntKind.i64.bits 1).toNat = (w % 18446744073709551616).toNat % 2 := by
    rw [BitVec.toNat_and, BitVec.toNat_ofInt]
    have : (BitVec.ofInt IntKind.i64.bits 1).toNat = 1 := by decide
    rw [this, Nat.and_one_is_mod]
    rfl
  rw [e]
  have h1 : w.tmod 2 = 0 ↔ w % 2 = 0 := by rw [← Int.dvd_iff_emod_eq_zero, ← Int.dvd_iff_tmod_eq_zero]
  have h2 : (w % 18446744073709551616).toNat % 2 = (w % 2).toNat := by omega
  rw [h2]
  rcases Int.emod_two_eq w with h | h
  · rw [h, (bne_eq_false_iff_eq).mpr (h1.mpr h)]; decide
  · rw [h, bne_iff_ne.mpr (fun hh => by have := h1.mp hh; omega)]; decide
theorem insW_eq {rule : Int} (h : rule = 0 ∨ rule = 1) (w : Int) : insW rule w = insR rule w := by
  unfold insW insR
  rcases h with rfl | rfl
  · show (bif w != 0 then true else false) = (w != 0)
    cases w != 0 <;> rfl
  · show oddB w = _
    rw [oddB_eq]; rfl
end Go.Proofs.Ytbgfgadekmemeaa.Ev
