/- That the law of squares answers true: its loop and the plain law. Conditions: that the numbers are of eight bits. Printed by gen.py of this session. -/
import Derived.Test.YtbgfgadekmemeaaDt
namespace Go.Proofs.Ytbgfgadekmemeaa.Ev
open Go.Proofs
set_option linter.unusedVariables false
set_option linter.unusedSimpArgs false
set_option maxRecDepth 100000
set_option maxHeartbeats 1000000

/-! ### The loop -/
theorem pix_ok {dv : DvF} {hs : HsF} {o : Q} {a b c d : Int} {m : Mk} {bx : Q} {k : Int} (h : okPix dv hs o a b c d m bx k = true) : m.1 ≠ 0 ∧ okDv8 (areaW a b c d (colW o m k) (rowW o m k)) = true ∧ (m.2.2.getD k.toNat 0 != dv (areaW a b c d (colW o m k) (rowW o m k)) 256) = false ∧ ((m.2.2.getD k.toNat 0 != 0) = false ∨ hs bx (colW o m k, rowW o m k) = true) := by
  unfold okPix at h
  simp only [Bool.and_eq_true, Bool.or_eq_true, beq_iff_eq, decide_eq_true_eq] at h
  exact ⟨h.1.1.1, h.1.1.2, bne_eq_false_iff_eq.2 h.1.2, h.2.imp (fun e => bne_eq_false_iff_eq.2 e) id⟩
theorem runs8 (mk' : MkF) (sm : SmF) (bx' : BxF) (dv : DvF) (hs : HsF) (o : Q) (a b c d : Int) (m : Mk) (bx : Q) (hl : m.2.2.length ≤ 65536) (h : okSq dv hs o a b c d m bx = true) : ∀ (j k : Nat), k + j = m.2.2.length →
    Runs (E8 mk' sm bx' dv hs) 0 (loopAt Try.f8 0) (st8 o a b c d m bx m.2.2 m.2.2.length k) (.exit 0) (mk 163 []) := by
  intro j
  induction j with
  | zero =>
    intro k hk
    refine .stop ?_ (by simp)
    rw [b8, decide_eq_false (by omega)]
    rfl
  | succ j ih =>
    intro k hk
    obtain ⟨c1, c2, c3, c4⟩ := pix_ok (List.all_eq_true.1 h k (List.mem_range.2 (by omega)))
    have hbd := b8 mk' sm bx' dv hs o a b c d m bx m.2.2 m.2.2.length k
    have hi : inL8 m.2.2 (k : Int) = true := inL_nat (by omega)
    rw [decide_eq_true (by omega : (k : Int) < m.2.2.length), hi, decide_eq_false c1, c2, c3, W_small (n := (k : Int) + 1) (by omega) (by omega)] at hbd
    refine .step ?_ (ih (k + 1) (by omega))
    rcases c4 with c4 | c4
    · rw [c4] at hbd
      exact hbd
    · rw [c4] at hbd
      cases hz : m.2.2.getD (k : Int).toNat 0 != 0 <;> rw [hz] at hbd <;> exact hbd
theorem loop8 (mk' : MkF) (sm : SmF) (bx' : BxF) (dv : DvF) (hs : HsF) : LoopOk (E8 mk' sm bx' dv hs) 0 (loopAt Try.f8 0) := by
  intro st R K z h
  obtain ⟨hn, h⟩ := req_some h
  obtain ⟨o, e0, h⟩ := gQ_some h
  obtain ⟨a, e1, h⟩ := gI_some h
  obtain ⟨b, e2, h⟩ := gI_some h
  obtain ⟨c, e3, h⟩ := gI_some h
  obtain ⟨d, e4, h⟩ := gI_some h
  obtain ⟨m, e5, h⟩ := gM_some h
  obtain ⟨bx, e6, h⟩ := gQ_some h
  obtain ⟨vs, e7, h⟩ := gL_some h
  obtain ⟨n, e8, h⟩ := gI_some h
  obtain ⟨k, e9, h⟩ := gI_some h
  obtain ⟨hc, h⟩ := req_some h
  simp only [Bool.and_eq_true, decide_eq_true_eq] at hc
  obtain ⟨⟨h1, h2, h3, h4⟩, h5⟩ := hc
  rw [keep_mk (of_decide_eq_true hn)]
  have e := runs8 mk' sm bx' dv hs o a b c d m bx (h1 ▸ h4) h5 m.2.2.length 0 (by omega)
  have es : mk 163 (((E8 mk' sm bx' dv hs).lv 0).map fun i => (i, getS (keep ((E8 mk' sm bx' dv hs).lv 0) st) i)) = st8 o a b c d m bx m.2.2 m.2.2.length (0 : Nat) := by
    show mk 163 [(9, getS (keep ((E8 mk' sm bx' dv hs).lv 0) st) 9), (11, getS (keep ((E8 mk' sm bx' dv hs).lv 0) st) 11), (12, getS (keep ((E8 mk' sm bx' dv hs).lv 0) st) 12), (13, getS (keep ((E8 mk' sm bx' dv hs).lv 0) st) 13), (14, getS (keep ((E8 mk' sm bx' dv hs).lv 0) st) 14), (16, getS (keep ((E8 mk' sm bx' dv hs).lv 0) st) 16), (18, getS (keep ((E8 mk' sm bx' dv hs).lv 0) st) 18), (92, getS (keep ((E8 mk' sm bx' dv hs).lv 0) st) 92), (93, getS (keep ((E8 mk' sm bx' dv hs).lv 0) st) 93), (94, getS (keep ((E8 mk' sm bx' dv hs).lv 0) st) 94)] = _
    rw [e0, e1, e2, e3, e4, e5, e6, e7, e8, e9, h2, h3, h1]
    rfl
  rw [es]
  exact ⟨_, _, e, h⟩
/-! ### What is inside -/
def inI (p q x : Int) : Bool := decide (lo2 p q ≤ x ∧ x < hi2 p q)
theorem lo2_def (a b : Int) : lo2 a b = if b < a then b else a := rfl
theorem hi2_def (a b : Int) : hi2 a b = if b > a then b else a := rfl
theorem crw_flat (a b c x y : Int) : crw (a, b) (c, b) x y = 0 := by
  unfold crw
  have hl : lo2 b b = b := by unfold lo2; split <;> rfl
  have hh : hi2 b b = b := by unfold hi2; split <;> rfl
  simp only
  rw [hl, hh]
  by_cases c1 : b > y
  · rw [decide_eq_true c1]; rfl
  · rw [decide_eq_false c1, decide_eq_true (by omega : b ≤ y)]; rfl
theorem crs_up {b d : Int} (c y : Int) (h : b ≠ d) : crs (c, b) (c, d) y = c := by
  have e : nmr (c, b) (c, d) y = (2 * c - 1) * (d - b) := by
    unfold nmr
    simp only
    rw [Int.sub_self, Int.mul_zero, Int.sub_mul, Int.one_mul]
    omega
  unfold crs
  simp only
  rw [e]
  by_cases hb : d < b
  · have e2 : (2 * c - 1) * (d - b) = (1 - 2 * c) * (b - d) := by
      rw [show (2 * c - 1) = -(1 - 2 * c) by omega, show d - b = -(b - d) by omega, Int.neg_mul_neg]
    rw [decide_eq_true hb, cond_true, e2, Int.mul_ediv_mul_of_pos_left _ _ (by omega : 0 < b - d)]
    omega
  · rw [decide_eq_false hb, cond_false, ← Int.neg_mul, Int.mul_ediv_mul_of_pos_left _ _ (by omega : 0 < d - b)]
    omega
theorem crw_up (c b d x y : Int) : crw (c, b) (c, d) x y = if (lo2 b d ≤ y ∧ y < hi2 b d) ∧ x < c then (if b > d then -1 else 1) else 0 := by
  unfold crw
  simp only
  by_cases c1 : lo2 b d > y
  · rw [decide_eq_true c1, cond_true, if_neg (by omega)]
  by_cases c2 : hi2 b d ≤ y
  · rw [decide_eq_false c1, decide_eq_true c2, cond_false, cond_true, if_neg (by omega)]
  have hne : b ≠ d := by
    intro e
    subst e
    have hl : lo2 b b = b := by unfold lo2; split <;> rfl
    have hh : hi2 b b = b := by unfold hi2; split <;> rfl
    rw [hl] at c1
    rw [hh] at c2
    omega
  rw [decide_eq_false c1, decide_eq_false c2, cond_false, cond_false, crs_up c y hne]
  by_cases c3 : x < c
  · rw [decide_eq_true c3, cond_true, if_pos ⟨⟨by omega, by omega⟩, c3⟩]
    by_cases c4 : b > d
    · rw [decide_eq_true c4, cond_true, if_pos c4]
    · rw [decide_eq_false c4, cond_false, if_neg c4]
  · rw [decide_eq_false c3, cond_false, if_neg (fun h => c3 h.2)]
theorem turn_sq (a b c d x y : Int) : turn (sqr a b c d) x y = crw (c, b) (c, d) x y + crw (a, d) (a, b) x y := by
  unfold turn sumG sqr
  simp only [List.take_succ_cons, List.take_zero, List.cons_append, List.nil_append, path]
  rw [crw_flat, crw_flat]
  omega
theorem fW_sq (a b c d x y : Int) : fW [sqr a b c d] 0 x y = (inI a c x && inI b d y) := by
  have e : turns [sqr a b c d] x y = crw (c, b) (c, d) x y + crw (a, d) (a, b) x y := by
    unfold turns
    simp only [List.map_cons, List.map_nil, List.sum_cons, List.sum_nil]
    rw [turn_sq]
    omega
  have hi : ∀ w : Int, insW 0 w = (w != 0) := fun w => by
    show (bif w != 0 then true else false) = (w != 0)
    cases w != 0 <;> rfl
  have s1 : lo2 d b = lo2 b d := by unfold lo2; split <;> split <;> omega
  have s2 : hi2 d b = hi2 b d := by unfold hi2; split <;> split <;> omega
  rw [fW_def, e, hi, crw_up, crw_up, s1, s2]
  unfold inI
  by_cases hy : lo2 b d ≤ y ∧ y < hi2 b d
  · have hbd : b < d ∨ d < b := by
      unfold lo2 hi2 at hy
      split at hy <;> split at hy <;> omega
    rw [decide_eq_true hy, Bool.and_true]
    have v1 : (if (lo2 b d ≤ y ∧ y < hi2 b d) ∧ x < c then (if b > d then (-1 : Int) else 1) else 0) = if x < c then (if b > d then (-1 : Int) else 1) else 0 := by
      by_cases h1 : x < c
      · rw [if_pos ⟨hy, h1⟩, if_pos h1]
      · rw [if_neg (fun h => h1 h.2), if_neg h1]
    have v2 : (if (lo2 b d ≤ y ∧ y < hi2 b d) ∧ x < a then (if d > b then (-1 : Int) else 1) else 0) = if x < a then (if d > b then (-1 : Int) else 1) else 0 := by
      by_cases h1 : x < a
      · rw [if_pos ⟨hy, h1⟩, if_pos h1]
      · rw [if_neg (fun h => h1 h.2), if_neg h1]
    rw [v1, v2]
    have hs : ∀ n : Int, -2 ≤ n → n ≤ 2 → (W n != 0) = decide (n ≠ 0) := fun n g1 g2 => by
      rw [W_small (by omega) (by omega)]
      by_cases g : n = 0
      · subst g; rfl
      · rw [bne_iff_ne.mpr g, decide_eq_true g]
    have ds : ∀ n : Int, n = (if x < c then (if b > d then (-1 : Int) else 1) else 0) + (if x < a then (if d > b then (-1 : Int) else 1) else 0) → -2 ≤ n ∧ n ≤ 2 ∧ (n ≠ 0 ↔ lo2 a c ≤ x ∧ x < hi2 a c) := fun n hn => by
      unfold lo2 hi2
      rcases hbd with h | h
      · rw [if_neg (by omega : ¬ b > d), if_pos (by omega : d > b)] at hn
        by_cases g1 : x < c
        · rw [if_pos g1] at hn
          by_cases g2 : x < a
          · rw [if_pos g2] at hn
            split <;> split <;> omega
          · rw [if_neg g2] at hn
            split <;> split <;> omega
        · rw [if_neg g1] at hn
          by_cases g2 : x < a
          · rw [if_pos g2] at hn
            split <;> split <;> omega
          · rw [if_neg g2] at hn
            split <;> split <;> omega
      · rw [if_pos (by omega : b > d), if_neg (by omega : ¬ d > b)] at hn
        by_cases g1 : x < c
        · rw [if_pos g1] at hn
          by_cases g2 : x < a
          · rw [if_pos g2] at hn
            split <;> split <;> omega
          · rw [if_neg g2] at hn
            split <;> split <;> omega
        · rw [if_neg g1] at hn
          by_cases g2 : x < a
          · rw [if_pos g2] at hn
            split <;> split <;> omega
          · rw [if_neg g2] at hn
            split <;> split <;> omega
    obtain ⟨d1, d2, d3⟩ := ds _ rfl
    rw [hs _ d1 d2]
    exact decide_eq_decide.mpr d3
  · rw [decide_eq_false hy, Bool.and_false, if_neg (fun h => hy h.1), if_neg (fun h => hy h.1)]
    rw [W_small (by omega) (by omega)]; rfl
/-! ### How many samples -/
def cg (g : Int → Bool) : Nat → Int → Int
  | 0, _ => 0
  | k + 1, x => (if g x = true then 1 else 0) + cg g k (x + 1)
theorem cnI_and {f : Int → Int → Bool} {g h : Int → Bool} (e : ∀ x y, f x y = (g x && h y)) (y : Int) : ∀ (k : Nat) (x : Int), cnI f y k x = if h y = true then cg g k x else 0
  | 0, x => by rw [cnI, cg]; split <;> rfl
  | k + 1, x => by
    rw [cnI, cg, cnI_and e y k (x + 1), e]
    cases h y
    · simp
    · simp
theorem cnJ_and {f : Int → Int → Bool} {g h : Int → Bool} (e : ∀ x y, f x y = (g x && h y)) (x : Int) : ∀ (k : Nat) (y : Int), cnJ f x k y = cg g 16 x * cg h k y
  | 0, y => by rw [cnJ, cg, Int.mul_zero]
  | k + 1, y => by
    rw [cnJ, cnJ_and e x k (y + 1), cnI_and e, show cg h (k + 1) y = (if h y = true then 1 else 0) + cg h k (y + 1) from rfl, Int.mul_add]
    cases h y
    · simp
    · simp
/-- How many of the k numbers from x on lie from L up to H. -/
def clipI (L H x k : Int) : Int := hi2 0 (lo2 H (x + k) - hi2 L x)
theorem cg_clip {L H : Int} (hLH : L ≤ H) {g : Int → Bool} (hg : ∀ x, g x = decide (L ≤ x ∧ x < H)) : ∀ (k : Nat) (x : Int), cg g k x = clipI L H x k
  | 0, x => by
    rw [cg]
    unfold clipI lo2 hi2
    repeat' split
    all_goals omega
  | k + 1, x => by
    rw [cg, cg_clip hLH hg k (x + 1), hg]
    simp only [decide_eq_true_eq]
    unfold clipI lo2 hi2
    repeat' split
    all_goals omega
theorem lo_hi (p q : Int) : lo2 p q ≤ hi2 p q := by unfold lo2 hi2; split <;> split <;> omega
theorem lo_bd {p q : Int} (hp : 0 ≤ p ∧ p < 200) (hq : 0 ≤ q ∧ q < 200) : 0 ≤ lo2 p q ∧ lo2 p q < 200 := by unfold lo2; split <;> omega
theorem hi_bd {p q : Int} (hp : 0 ≤ p ∧ p < 200) (hq : 0 ≤ q ∧ q < 200) : 0 ≤ hi2 p q ∧ hi2 p q < 200 := by unfold hi2; split <;> omega
theorem clip_bd {L H x : Int} (h : L ≤ H) : 0 ≤ clipI L H x 16 ∧ clipI L H x 16 ≤ 16 ∧ (clipI L H x 16 ≠ 0 → L < x + 16 ∧ x < H) := by
  unfold clipI lo2 hi2
  repeat' split
  all_goals omega
theorem clipW_eq {p q X : Int} (hp : 0 ≤ p ∧ p < 200) (hq : 0 ≤ q ∧ q < 200) (hX : -2097152 ≤ X ∧ X ≤ 2097152) : clipW p q (W (16 * X)) = clipI (lo2 p q) (hi2 p q) (16 * X) 16 := by
  have h1 := lo_bd hp hq
  have h2 := hi_bd hp hq
  unfold clipW clipI
  rw [W_small (n := 16 * X) (by omega) (by omega), W_small (n := 16 * X + 16) (by omega) (by omega)]
  congr 1
  refine W_small ?_ ?_
  · generalize lo2 p q = L at *
    generalize hi2 p q = H at *
    unfold lo2 hi2
    split <;> split <;> omega
  · generalize lo2 p q = L at *
    generalize hi2 p q = H at *
    unfold lo2 hi2
    split <;> split <;> omega
theorem mul16 {u v : Int} (hu : 0 ≤ u ∧ u ≤ 16) (hv : 0 ≤ v ∧ v ≤ 16) : 0 ≤ u * v ∧ u * v ≤ 256 := ⟨Int.mul_nonneg hu.1 hv.1, Int.mul_le_mul (c := 16) (d := 16) hu.2 hv.2 hv.1 (by omega)⟩
theorem area_eq {a b c d X Y : Int} (ha : 0 ≤ a ∧ a < 200) (hb : 0 ≤ b ∧ b < 200) (hc : 0 ≤ c ∧ c < 200) (hd : 0 ≤ d ∧ d < 200) (hX : -2097152 ≤ X ∧ X ≤ 2097152) (hY : -2097152 ≤ Y ∧ Y ≤ 2097152) :
    areaW a b c d X Y = 65535 * (clipI (lo2 a c) (hi2 a c) (16 * X) 16 * clipI (lo2 b d) (hi2 b d) (16 * Y) 16) := by
  unfold areaW
  rw [clipW_eq ha hc hX, clipW_eq hb hd hY]
  have h1 := clip_bd (x := 16 * X) (lo_hi a c)
  have h2 := clip_bd (x := 16 * Y) (lo_hi b d)
  have h3 := mul16 ⟨h1.1, h1.2.1⟩ ⟨h2.1, h2.2.1⟩
  rw [W_small (n := 65535 * clipI (lo2 a c) (hi2 a c) (16 * X) 16) (by omega) (by omega), Int.mul_assoc, W_small (by omega) (by omega)]
theorem pxl_sq (a b c d X Y : Int) : pxl (fW [sqr a b c d] 0) X Y = divP (65535 * (clipI (lo2 a c) (hi2 a c) (16 * X) 16 * clipI (lo2 b d) (hi2 b d) (16 * Y) 16)) 256 := by
  unfold pxl
  rw [cnJ_and (g := inI a c) (h := inI b d) (fW_sq a b c d), cg_clip (g := inI a c) (lo_hi a c) (fun _ => rfl), cg_clip (g := inI b d) (lo_hi b d) (fun _ => rfl)]
  rfl
/-! ### The box -/
theorem fold_sq {a b c d : Int} (ha : 0 ≤ a ∧ a < 200) (hb : 0 ≤ b ∧ b < 200) (hc : 0 ≤ c ∧ c < 200) (hd : 0 ≤ d ∧ d < 200) : foldBs [sqr a b c d] (16777216, 16777216, -16777216, -16777216) = (lo2 (a / 16) (c / 16), lo2 (b / 16) (d / 16), hi2 (a / 16 + 1) (c / 16 + 1), hi2 (b / 16 + 1) (d / 16 + 1)) := by
  have f : ∀ n : Int, n.fdiv 16 = n / 16 := fun n => Int.fdiv_eq_ediv_of_nonneg _ (by omega)
  simp only [foldBs, foldB, sqr, List.foldl_cons, List.foldl_nil, stepB, f]
  rw [W_small (n := a / 16 + 1) (by omega) (by omega), W_small (n := b / 16 + 1) (by omega) (by omega), W_small (n := c / 16 + 1) (by omega) (by omega), W_small (n := d / 16 + 1) (by omega) (by omega)]
  have ga : 0 ≤ a / 16 ∧ a / 16 < 16 := by omega
  have gb : 0 ≤ b / 16 ∧ b / 16 < 16 := by omega
  have gc : 0 ≤ c / 16 ∧ c / 16 < 16 := by omega
  have gd : 0 ≤ d / 16 ∧ d / 16 < 16 := by omega
  generalize a / 16 = A at *
  generalize b / 16 = B at *
  generalize c / 16 = C at *
  generalize d / 16 = D at *
  simp only [Prod.mk.injEq]
  refine ⟨?_, ?_, ?_, ?_⟩
  all_goals
    first | unfold lo2 | unfold hi2
    repeat' split
    all_goals omega
theorem chk_sq {a b c d : Int} (ha : 0 ≤ a ∧ a < 200) (hb : 0 ≤ b ∧ b < 200) (hc : 0 ≤ c ∧ c < 200) (hd : 0 ≤ d ∧ d < 200) : chkC [sqr a b c d] 0 = 0 := by
  have e1 : totW [sqr a b c d] 0 = 4 := by
    show W (0 + 4) = 4
    rw [W_small (by omega) (by omega)]; rfl
  have e2 : allPts [sqr a b c d] = true := by
    refine List.all_eq_true.2 fun l hl => ?_
    cases List.mem_singleton.1 hl
    refine List.all_eq_true.2 fun p hp => decide_eq_true ?_
    simp only [sqr, List.mem_cons, List.not_mem_nil, or_false] at hp
    rcases hp with rfl | rfl | rfl | rfl <;> simp only <;> omega
  unfold chkC
  rw [e1, e2]
  rfl
theorem box_sq {a b c d X Y : Int} (ha : 0 ≤ a ∧ a < 200) (hb : 0 ≤ b ∧ b < 200) (hc : 0 ≤ c ∧ c < 200) (hd : 0 ≤ d ∧ d < 200) (h1 : lo2 a c < 16 * X + 16 ∧ 16 * X < hi2 a c) (h2 : lo2 b d < 16 * Y + 16 ∧ 16 * Y < hi2 b d) : has (boxP [sqr a b c d]) (X, Y) = true := by
  unfold boxP
  rw [chk_sq ha hb hc hd, fold_sq ha hb hc hd]
  have x0 : lo2 (a / 16) (c / 16) ≤ X ∧ 0 ≤ lo2 (a / 16) (c / 16) ∧ lo2 (a / 16) (c / 16) < 16 := by unfold lo2 at h1 ⊢; split <;> (split at h1) <;> omega
  have x1 : X < hi2 (a / 16 + 1) (c / 16 + 1) ∧ hi2 (a / 16 + 1) (c / 16 + 1) ≤ 16 := by unfold hi2 at h1 ⊢; split <;> (split at h1) <;> omega
  have y0 : lo2 (b / 16) (d / 16) ≤ Y ∧ 0 ≤ lo2 (b / 16) (d / 16) ∧ lo2 (b / 16) (d / 16) < 16 := by unfold lo2 at h2 ⊢; split <;> (split at h2) <;> omega
  have y1 : Y < hi2 (b / 16 + 1) (d / 16 + 1) ∧ hi2 (b / 16 + 1) (d / 16 + 1) ≤ 16 := by unfold hi2 at h2 ⊢; split <;> (split at h2) <;> omega
  generalize lo2 (a / 16) (c / 16) = x0' at *
  generalize hi2 (a / 16 + 1) (c / 16 + 1) = x1' at *
  generalize lo2 (b / 16) (d / 16) = y0' at *
  generalize hi2 (b / 16 + 1) (d / 16 + 1) = y1' at *
  have m1 : lo2 x1' 1048576 = x1' := by unfold lo2; split <;> omega
  have m2 : lo2 y1' 1048576 = y1' := by unfold lo2; split <;> omega
  show has (finB (x0', y0', x1', y1')) (X, Y) = true
  unfold finB
  simp only
  rw [m1, m2, decide_eq_false (by omega : ¬ x0' ≥ x1'), decide_eq_false (by omega : ¬ y0' ≥ y1'), W_small (n := x1' - x0') (by omega) (by omega), W_small (n := y1' - y0') (by omega) (by omega)]
  show has (x0', y0', x1' - x0', y1' - y0') (X, Y) = true
  have hv : valid (x0', y0', x1' - x0', y1' - y0') = true := (valid_iff _ _ _ _).2 ⟨by omega, by omega⟩
  unfold has known
  rw [if_pos hv]
  exact decide_eq_true (by simp only; omega)
/-! ### The plain law -/
theorem sq_ok {a b c d : Int} (ha : 0 ≤ a ∧ a < 200) (hb : 0 ≤ b ∧ b < 200) (hc : 0 ≤ c ∧ c < 200) (hd : 0 ≤ d ∧ d < 200) {x y : Int} {z t : Nat} (hx : -1048576 ≤ x ∧ x ≤ 1048576) (hy : -1048576 ≤ y ∧ y ≤ 1048576) (hz : 0 < z ∧ z ≤ 256) (ht : t ≤ 256) :
    okSq divP has (x, y, z, t) a b c d ((z : Int), (t : Int), pxA (fW [sqr a b c d] 0) x z t y) (boxP [sqr a b c d]) = true := by
  refine List.all_eq_true.2 fun k hk => ?_
  simp only [List.mem_range, pxA_len] at hk
  obtain ⟨i, hi⟩ : ∃ i, i = k / z := ⟨_, rfl⟩
  obtain ⟨j, hj⟩ : ∃ j, j = k % z := ⟨_, rfl⟩
  have q1 : i < t := by rw [hi]; exact Nat.div_lt_of_lt_mul (by rw [Nat.mul_comm]; exact hk)
  have q2 : j < z := by rw [hj]; exact Nat.mod_lt _ hz.1
  have q3 : i * z + j = k := by rw [hi, hj, Nat.mul_comm]; exact Nat.div_add_mod k z
  have eC : colW (x, y, z, t) ((z : Int), (t : Int), pxA (fW [sqr a b c d] 0) x z t y) k = x + (j : Int) := by
    unfold colW
    simp only
    rw [Int.tmod_eq_emod_of_nonneg (by omega), ← Int.natCast_emod, ← hj, W_small (by omega) (by omega)]
  have eR : rowW (x, y, z, t) ((z : Int), (t : Int), pxA (fW [sqr a b c d] 0) x z t y) k = y + (i : Int) := by
    unfold rowW
    simp only
    rw [Int.tdiv_eq_ediv_of_nonneg (by omega), ← Int.natCast_ediv, ← hi, W_small (n := (i : Int)) (by omega) (by omega), W_small (by omega) (by omega)]
  have eV : (pxA (fW [sqr a b c d] 0) x z t y).getD k 0 = pxl (fW [sqr a b c d] 0) (x + (j : Int)) (y + (i : Int)) := by
    have := pxA_at (fW [sqr a b c d] 0) x z t y i j q1 q2
    rw [q3] at this
    exact this
  have hA := area_eq (X := x + (j : Int)) (Y := y + (i : Int)) ha hb hc hd (by omega) (by omega)
  have h1 := clip_bd (x := 16 * (x + (j : Int))) (lo_hi a c)
  have h2 := clip_bd (x := 16 * (y + (i : Int))) (lo_hi b d)
  have h3 := mul16 ⟨h1.1, h1.2.1⟩ ⟨h2.1, h2.2.1⟩
  unfold okPix
  rw [eC, eR]
  simp only
  rw [Int.toNat_natCast, eV, pxl_sq, hA, beq_self_eq_true, Bool.and_true, decide_eq_true (by omega : (z : Int) ≠ 0), Bool.true_and]
  have hD : okDv8 (65535 * (clipI (lo2 a c) (hi2 a c) (16 * (x + (j : Int))) 16 * clipI (lo2 b d) (hi2 b d) (16 * (y + (i : Int))) 16)) = true := decide_eq_true ⟨by omega, by omega, by omega, by omega⟩
  rw [hD, Bool.true_and]
  by_cases hn : clipI (lo2 a c) (hi2 a c) (16 * (x + (j : Int))) 16 * clipI (lo2 b d) (hi2 b d) (16 * (y + (i : Int))) 16 = 0
  · rw [hn]
    rfl
  · have n1 : clipI (lo2 a c) (hi2 a c) (16 * (x + (j : Int))) 16 ≠ 0 := fun e => hn (by rw [e, Int.zero_mul])
    have n2 : clipI (lo2 b d) (hi2 b d) (16 * (y + (i : Int))) 16 ≠ 0 := fun e => hn (by rw [e, Int.mul_zero])
    rw [box_sq ha hb hc hd (h1.2.2 n1) (h2.2.2 n2), Bool.or_true]
theorem tree8_ok {a b c d : Int} (ha : 0 ≤ a ∧ a < 200) (hb : 0 ≤ b ∧ b < 200) (hc : 0 ≤ c ∧ c < 200) (hd : 0 ≤ d ∧ d < 200) (x y z t : Int) : tree8 maskP sameM boxP divP has a b c d (x, y, z, t) = ob true := by
  unfold tree8 gLn
  rw [mask_lt]
  cases he : (maskP [sqr a b c d] 0 (x, y, z, t)).2 != 0
  · obtain ⟨h1, h2⟩ := mask_ok he
    obtain ⟨hv, hz, ht⟩ := place_iff.1 h2
    have hv' := (valid_iff x y z t).1 hv
    rw [mask_at h1 h2]
    cases hn : empty (x, y, z, t)
    · obtain ⟨-, g1, g2⟩ := (nonempty_iff x y z t).1 hn
      have hs := sq_ok ha hb hc hd (x := x) (y := y) (z := z.toNat) (t := t.toNat) (by omega) (by omega) (by omega) (by omega)
      rw [show ((z.toNat : Nat) : Int) = z by omega, show ((t.toNat : Nat) : Int) = t by omega] at hs
      have hl := nat_bound (a := t.toNat) (b := z.toNat) (x := 256) (y := 256) (by omega) (by omega)
      simp only [cond_false]
      rw [bne_self_eq_false, bne_self_eq_false, size_ok hv hz ht, hs, pxA_len, decide_eq_true (by simp only [true_and]; omega)]
      rfl
    · rfl
  · rw [mask_err he, sameM_self]
    rfl
@[reducible] def n8 (a : Int × Int × Int × Int × Q) : List AV := [u8v a.1, u8v a.2.1, u8v a.2.2.1, u8v a.2.2.2.1, qv a.2.2.2.2]
def d8 : List AV → Option (Int × Int × Int × Int × Q)
  | [.rv (.sc (.int .u8 a)), .rv (.sc (.int .u8 b)), .rv (.sc (.int .u8 c)), .rv (.sc (.int .u8 d)), .rv (.agg [.int .i64 x, .int .i64 y, .int .i64 z, .int .i64 t])] => some (a, b, c, d, (x, y, z, t))
  | _ => none
theorem hd8 {us : List AV} {a} (h : d8 us = some a) : us = n8 a := by unfold d8 at h; split at h <;> cases h; rfl
def byte (n : Int) : Bool := decide (0 ≤ n ∧ n ≤ 255)
theorem byte_mod {n : Int} (h : byte n = true) : 0 ≤ (W n).tmod 200 ∧ (W n).tmod 200 < 200 := by
  have h := of_decide_eq_true (show decide _ = true from h)
  rw [W_small (by omega) (by omega), Int.tmod_eq_emod_of_nonneg h.1]
  omega
abbrev p8 : List AV → Bool := ps d8 fun a => byte a.1 && byte a.2.1 && byte a.2.2.1 && byte a.2.2.2.1
theorem m8 : Meets Try.prog 8 (gate p8 (sp d8 fun _ => bw true)) := mG (rdL (e := E8 maskP sameM boxP divP has) rfl (eg_cons mAw (eg_cons mMk (eg_cons m20 (eg_cons mBx (eg_cons m24 (eg_cons mSq (eg_cons m25 (eg_cons m26 eg_nil)))))))) (fn := Try.f8) (k := 5) (by kernel_rfl) (by kernel_rfl) (of_decide_eq_true (by kernel_rfl)) (show loopsOf Try.f8 = [(0, loopAt Try.f8 0)] by kernel_rfl)
    (fun p hp => by cases List.mem_singleton.mp hp; exact loop8 maskP sameM boxP divP has)) (fun _ _ => hd8) (fun _ => ⟨rfl, Nat.le_refl _⟩)
  fun ⟨a, b, c, d, ⟨x, y, z, t⟩⟩ hp => by
    have hp : (byte a && byte b && byte c && byte d) = true := hp
    simp only [Bool.and_eq_true] at hp
    exact (t8 maskP sameM boxP divP has a b c d x y z t).trans (tree8_ok (byte_mod hp.1.1.1) (byte_mod hp.1.1.2) (byte_mod hp.1.2) (byte_mod hp.2) x y z t)
theorem hS8 {a b c d x y z t : Int} (ha : (Lit.int .u8 a).wf = true) (hb : (Lit.int .u8 b).wf = true) (hc : (Lit.int .u8 c).wf = true) (hd : (Lit.int .u8 d).wf = true) : (gate p8 (sp d8 fun _ => bw true)) [iw .u8 a, iw .u8 b, iw .u8 c, iw .u8 d, q4 x y z t] = some (bw true, []) := by
  show (bif byte a && byte b && byte c && byte d then some (bw true, []) else none) = _
  unfold byte
  rw [decide_eq_true (k8 ha), decide_eq_true (k8 hb), decide_eq_true (k8 hc), decide_eq_true (k8 hd)]; rfl
end Go.Proofs.Ytbgfgadekmemeaa.Ev

