/- That the law of parts of masks answers true: its loops and the plain law. Conditions: how many bytes the polygons have. Printed by gen.py of this session. -/
import Derived.Test.YtbgfgadekmemeaaDr
namespace Go.Proofs.Ytbgfgadekmemeaa.Ev
open Go.Proofs
set_option linter.unusedVariables false
set_option linter.unusedSimpArgs false
set_option maxRecDepth 100000
set_option maxHeartbeats 1000000

/-! ### The loops -/
theorem cell_ok {o : Q} {m : Mk} {r : Q} {n : Mk} {y j : Int} (h : okCell o m r n y j = true) : inL n.2.2 (ixN n y j) = true ∧ inL m.2.2 (ixM o r m y j) = true ∧ (n.2.2.getD (ixN n y j).toNat 0 != m.2.2.getD (ixM o r m y j).toNat 0) = false := by
  unfold okCell at h
  simp only [Bool.and_eq_true, beq_iff_eq] at h
  exact ⟨h.1.1, h.1.2, bne_eq_false_iff_eq.2 h.2⟩
theorem runs9b (mk' : MkF) (sm : SmF) (me : MeF) (wi : WiF) (o : Q) (m : Mk) (r : Q) (n : Mk) (y h i : Int) (hw : r.2.2.1 ≤ 256) (hr : okRow o m r n y = true) : ∀ (c j : Nat), (c = 0 ∧ r.2.2.1 ≤ j ∨ (j : Int) + c = r.2.2.1) →
    Runs (E9 mk' sm me wi) 2 (loopAt Try.f9 1) (st9b o m r n y h i r.2.2.1 j) (.exit 2) (mk 150 [(6, bQ o), (9, bM m), (11, bQ r), (12, bM n), (106, iv h), (107, iv i)]) := by
  intro c
  induction c with
  | zero =>
    intro j hj
    refine .stop ?_ (by simp)
    rw [b9b, decide_eq_false (by omega)]
    rfl
  | succ c ih =>
    intro j hj
    have hc := List.all_eq_true.1 hr j (List.mem_range.2 (by omega))
    obtain ⟨c1, c2, c3⟩ := cell_ok hc
    have hbd := b9b mk' sm me wi o m r n y h i r.2.2.1 j
    rw [decide_eq_true (by omega : (j : Int) < r.2.2.1), c1, c2, c3, W_small (n := (j : Int) + 1) (by omega) (by omega)] at hbd
    exact .step hbd (ih (j + 1) (by omega))
theorem runs9a (mk' : MkF) (sm : SmF) (me : MeF) (wi : WiF) (o : Q) (m : Mk) (r : Q) (n : Mk) (hw : r.2.2.1 ≤ 256) (hh : r.2.2.2 ≤ 256) (hp : okPart o m r n = true) : ∀ (c i : Nat), (c = 0 ∧ r.2.2.2 ≤ i ∨ (i : Int) + c = r.2.2.2) →
    Runs (E9 mk' sm me wi) 0 (loopAt Try.f9 0) (st9a o m r n r.2.2.2 i) (.exit 0) (mk 150 []) := by
  intro c
  induction c with
  | zero =>
    intro i hi
    refine .stop ?_ (by simp)
    rw [b9a, decide_eq_false (by omega)]
    rfl
  | succ c ih =>
    intro i hi
    have hc := List.all_eq_true.1 hp i (List.mem_range.2 (by omega))
    have hbd := b9a mk' sm me wi o m r n r.2.2.2 i
    rw [decide_eq_true (by omega : (i : Int) < r.2.2.2), decide_eq_true (⟨rfl, rfl, hw⟩ : r.2.2.1 = r.2.2.1 ∧ (0 : Int) = 0 ∧ r.2.2.1 ≤ 256), hc, W_small (n := (i : Int) + 1) (by omega) (by omega)] at hbd
    exact .step hbd (ih (i + 1) (by omega))
theorem loop9a (mk' : MkF) (sm : SmF) (me : MeF) (wi : WiF) : LoopOk (E9 mk' sm me wi) 0 (loopAt Try.f9 0) := by
  intro st R K z h
  obtain ⟨hn, h⟩ := req_some h
  obtain ⟨o, e0, h⟩ := gQ_some h
  obtain ⟨m, e1, h⟩ := gM_some h
  obtain ⟨r, e2, h⟩ := gQ_some h
  obtain ⟨n, e3, h⟩ := gM_some h
  obtain ⟨h', e4, h⟩ := gI_some h
  obtain ⟨i, e5, h⟩ := gI_some h
  obtain ⟨hc, h⟩ := req_some h
  simp only [Bool.and_eq_true, decide_eq_true_eq] at hc
  obtain ⟨⟨h1, h2, h3, h4⟩, h5⟩ := hc
  rw [keep_mk (of_decide_eq_true hn)]
  have e := runs9a mk' sm me wi o m r n h3 h4 h5 r.2.2.2.toNat 0 (by omega)
  have es : mk 150 (((E9 mk' sm me wi).lv 0).map fun i => (i, getS (keep ((E9 mk' sm me wi).lv 0) st) i)) = st9a o m r n r.2.2.2 (0 : Nat) := by
    show mk 150 [(6, getS (keep ((E9 mk' sm me wi).lv 0) st) 6), (9, getS (keep ((E9 mk' sm me wi).lv 0) st) 9), (11, getS (keep ((E9 mk' sm me wi).lv 0) st) 11), (12, getS (keep ((E9 mk' sm me wi).lv 0) st) 12), (106, getS (keep ((E9 mk' sm me wi).lv 0) st) 106), (107, getS (keep ((E9 mk' sm me wi).lv 0) st) 107)] = _
    rw [e0, e1, e2, e3, e4, e5, h1, h2]
    rfl
  rw [es]
  exact ⟨_, _, e, h⟩
theorem loop9b (mk' : MkF) (sm : SmF) (me : MeF) (wi : WiF) : LoopOk (E9 mk' sm me wi) 2 (loopAt Try.f9 1) := by
  intro st R K z h
  obtain ⟨hn, h⟩ := req_some h
  obtain ⟨o, e0, h⟩ := gQ_some h
  obtain ⟨m, e1, h⟩ := gM_some h
  obtain ⟨r, e2, h⟩ := gQ_some h
  obtain ⟨n, e3, h⟩ := gM_some h
  obtain ⟨y, e4, h⟩ := gI_some h
  obtain ⟨h', e5, h⟩ := gI_some h
  obtain ⟨i, e6, h⟩ := gI_some h
  obtain ⟨w, e7, h⟩ := gI_some h
  obtain ⟨j, e8, h⟩ := gI_some h
  obtain ⟨hc, h⟩ := req_some h
  simp only [Bool.and_eq_true, decide_eq_true_eq] at hc
  obtain ⟨⟨h1, h2, h3⟩, h4⟩ := hc
  rw [keep_mk (of_decide_eq_true hn)]
  have e := runs9b mk' sm me wi o m r n y h' i h3 h4 r.2.2.1.toNat 0 (by omega)
  have es : mk 150 (((E9 mk' sm me wi).lv 2).map fun i => (i, getS (keep ((E9 mk' sm me wi).lv 2) st) i)) = st9b o m r n y h' i r.2.2.1 (0 : Nat) := by
    show mk 150 [(6, getS (keep ((E9 mk' sm me wi).lv 2) st) 6), (9, getS (keep ((E9 mk' sm me wi).lv 2) st) 9), (11, getS (keep ((E9 mk' sm me wi).lv 2) st) 11), (12, getS (keep ((E9 mk' sm me wi).lv 2) st) 12), (13, getS (keep ((E9 mk' sm me wi).lv 2) st) 13), (106, getS (keep ((E9 mk' sm me wi).lv 2) st) 106), (107, getS (keep ((E9 mk' sm me wi).lv 2) st) 107), (111, getS (keep ((E9 mk' sm me wi).lv 2) st) 111), (112, getS (keep ((E9 mk' sm me wi).lv 2) st) 112)] = _
    rw [e0, e1, e2, e3, e4, e5, e6, e7, e8, h1, h2]
    rfl
  rw [es]
  exact ⟨_, _, e, h⟩
/-! ### The plain law -/
theorem pxA_at (f : Int → Int → Bool) (X : Int) (w : Nat) : ∀ (k : Nat) (Y : Int) (i j : Nat), i < k → j < w → (pxA f X w k Y).getD (i * w + j) 0 = pxl f (X + j) (Y + i)
  | k + 1, Y, 0, j, _, hj => by
    rw [pxA, List.getD_eq_getElem?_getD, Nat.zero_mul, Nat.zero_add, List.getElem?_append_left (by rw [pxR_len]; exact hj), pxR_at _ _ _ _ _ hj, Option.getD_some, show Y + ((0 : Nat) : Int) = Y by omega]
  | k + 1, Y, i + 1, j, hi, hj => by
    have := pxA_at f X w k (Y + 1) i j (by omega) hj
    rw [List.getD_eq_getElem?_getD] at this
    rw [pxA, List.getD_eq_getElem?_getD, Nat.add_mul, Nat.one_mul, List.getElem?_append_right (by rw [pxR_len]; omega), pxR_len, show i * w + w + j - w = i * w + j by omega, this, show Y + 1 + (i : Int) = Y + ((i + 1 : Nat) : Int) by omega]
theorem cell_lt {i j w h : Nat} (hi : i < h) (hj : j < w) : i * w + j < h * w := by
  have : (i + 1) * w ≤ h * w := Nat.mul_le_mul_right _ hi
  rw [Nat.add_mul, Nat.one_mul] at this
  omega
/-- The common pixels of two rectangles of which the first has some. -/
theorem meet_in {x y z t : Int} (hv : valid (x, y, z, t) = true) (q : Q) : ∃ X Y Z T, meetP (known (x, y, z, t)) (known q) = (X, Y, Z, T) ∧ valid (X, Y, Z, T) = true ∧ Z ≤ z ∧ T ≤ t ∧ (empty (X, Y, Z, T) = true ∨ (x ≤ X ∧ y ≤ Y ∧ X + Z ≤ x + z ∧ Y + T ≤ y + t)) := by
  have hk : known (x, y, z, t) = (x, y, z, t) := by unfold known; rw [if_pos hv]
  have hv' := (valid_iff x y z t).1 hv
  rw [hk]
  obtain ⟨x', y', z', t', hq, hv2⟩ : ∃ x' y' z' t', known q = (x', y', z', t') ∧ valid (x', y', z', t') = true := by
    obtain ⟨a, b, c, d⟩ := q
    rcases known_cases a b c d with ⟨h, e⟩ | ⟨h, e⟩
    · exact ⟨a, b, c, d, e, h⟩
    · exact ⟨0, 0, 0, 0, e, by decide⟩
  have hv2' := (valid_iff x' y' z' t').1 hv2
  rw [hq]
  unfold meetP
  simp only
  rw [W_small (n := x + z) (by omega) (by omega), W_small (n := x' + z') (by omega) (by omega), W_small (n := y + t) (by omega) (by omega), W_small (n := y' + t') (by omega) (by omega)]
  have c1 : x ≤ hi2 x x' ∧ x' ≤ hi2 x x' ∧ (hi2 x x' ≤ x ∨ hi2 x x' ≤ x') := by unfold hi2; split <;> omega
  have c2 : y ≤ hi2 y y' ∧ y' ≤ hi2 y y' ∧ (hi2 y y' ≤ y ∨ hi2 y y' ≤ y') := by unfold hi2; split <;> omega
  have c3 : lo2 (x + z) (x' + z') ≤ x + z ∧ lo2 (x + z) (x' + z') ≤ x' + z' := by unfold lo2; split <;> omega
  have c4 : lo2 (y + t) (y' + t') ≤ y + t ∧ lo2 (y + t) (y' + t') ≤ y' + t' := by unfold lo2; split <;> omega
  generalize hi2 x x' = X at *
  generalize hi2 y y' = Y at *
  generalize lo2 (x + z) (x' + z') = A at *
  generalize lo2 (y + t) (y' + t') = B at *
  unfold betw
  cases hc : decide (X ≥ A) || decide (Y ≥ B)
  · simp only [Bool.or_eq_false_iff, decide_eq_false_iff_not] at hc
    rw [cond_false, W_small (n := A - X) (by omega) (by omega), W_small (n := B - Y) (by omega) (by omega)]
    exact ⟨X, Y, A - X, B - Y, rfl, (valid_iff _ _ _ _).2 ⟨by omega, by omega⟩, by omega, by omega, .inr (by omega)⟩
  · exact ⟨0, 0, 0, 0, rfl, by decide, by omega, by omega, .inl (by decide)⟩
theorem place_iff {x y z t : Int} : placeE (x, y, z, t) = 0 ↔ valid (x, y, z, t) = true ∧ z ≤ 256 ∧ t ≤ 256 := by
  unfold placeE
  simp only
  cases valid (x, y, z, t)
  · simp
  · by_cases c1 : z > 256
    · rw [decide_eq_true c1]; simp; omega
    · rw [decide_eq_false c1]
      by_cases c2 : t > 256
      · rw [decide_eq_true c2]; simp; omega
      · rw [decide_eq_false c2]; simp; omega
/-- A mask without an error, and one with. -/
theorem mask_err {ps : Ps} {rule : Int} {r : Q} (h : ((maskP ps rule r).2 != 0) = true) : (maskP ps rule r).1 = (0, 0, []) := by
  unfold maskP maskX at h ⊢
  cases h1 : chkC ps rule != 0
  · rw [h1] at h
    cases h2 : placeE r != 0
    · rw [h2] at h
      cases h3 : empty r
      · rw [h3] at h
        exact absurd (show ((0 : Int) != 0) = true from h) (by decide)
      · rfl
    · rfl
  · rfl
theorem mask_ok {ps : Ps} {rule : Int} {r : Q} (h : ((maskP ps rule r).2 != 0) = false) : chkC ps rule = 0 ∧ placeE r = 0 := by
  unfold maskP maskX at h
  cases h1 : chkC ps rule != 0
  · rw [h1] at h
    cases h2 : placeE r != 0
    · exact ⟨bne_eq_false_iff_eq.1 h1, bne_eq_false_iff_eq.1 h2⟩
    · rw [h2] at h
      have h : (placeE r != 0) = false := h
      rw [h2] at h
      cases h
  · rw [h1] at h
    have h : (chkC ps rule != 0) = false := h
    rw [h1] at h
    cases h
theorem mask_at {ps : Ps} {rule : Int} {r : Q} (h1 : chkC ps rule = 0) (h2 : placeE r = 0) : maskP ps rule r = bif empty r then ((0, 0, []), 0) else ((r.2.2.1, r.2.2.2, pxA (fW ps rule) r.1 r.2.2.1.toNat r.2.2.2.toNat r.2.1), 0) := by
  unfold maskP maskX
  rw [h1, h2]
  rfl
theorem inL_nat {l : List Int} {i : Nat} (h : i < l.length) : inL l (i : Int) = true := by
  unfold inL
  rw [decide_eq_true (by omega), decide_eq_true (by omega)]
  rfl
theorem nat_bound {a b x y : Nat} (h1 : a ≤ x) (h2 : b ≤ y) : a * b ≤ x * y := Nat.mul_le_mul h1 h2
theorem part_ok {f : Int → Int → Bool} {x y X Y : Int} {z t Z T : Nat} (hz : z ≤ 256) (ht : t ≤ 256) (hx : -1048576 ≤ x ∧ x ≤ 1048576) (hy : -1048576 ≤ y ∧ y ≤ 1048576) (h1 : x ≤ X) (h2 : y ≤ Y) (h3 : X + Z ≤ x + z) (h4 : Y + T ≤ y + t) :
    okPart (x, y, z, t) ((z : Int), (t : Int), pxA f x z t y) (X, Y, Z, T) ((Z : Int), (T : Int), pxA f X Z T Y) = true := by
  refine List.all_eq_true.2 fun i hi => List.all_eq_true.2 fun j hj => ?_
  simp only [List.mem_range, Int.toNat_natCast] at hi hj
  -- the rows and columns left out
  obtain ⟨u, rfl⟩ : ∃ u : Nat, X = x + u := ⟨(X - x).toNat, by omega⟩
  obtain ⟨v, rfl⟩ : ∃ v : Nat, Y = y + v := ⟨(Y - y).toNat, by omega⟩
  have g1 : i * Z ≤ 256 * 256 := nat_bound (by omega) (by omega)
  have g2 : (v + i) * z ≤ 256 * 256 := nat_bound (by omega) (by omega)
  have eN : ixN ((Z : Int), (T : Int), pxA f (x + u) Z T (y + v)) i j = ((i * Z + j : Nat) : Int) := by
    unfold ixN
    simp only
    rw [← Int.natCast_mul, W_small (n := ((i * Z : Nat) : Int)) (by omega) (by omega), W_small (by omega) (by omega)]
    omega
  have eM : ixM (x, y, z, t) (x + u, y + v, Z, T) ((z : Int), (t : Int), pxA f x z t y) i j = (((v + i) * z + (u + j) : Nat) : Int) := by
    unfold ixM
    simp only
    rw [show y + (v : Int) - y = (v : Int) by omega, W_small (n := (v : Int)) (by omega) (by omega), show (v : Int) + (i : Int) = ((v + i : Nat) : Int) by omega, W_small (n := ((v + i : Nat) : Int)) (by omega) (by omega), ← Int.natCast_mul,
      W_small (n := (((v + i) * z : Nat) : Int)) (by omega) (by omega), W_small (n := (((v + i) * z : Nat) : Int) + (x + u)) (by omega) (by omega), W_small (n := (((v + i) * z : Nat) : Int) + (x + u) - x) (by omega) (by omega), W_small (by omega) (by omega)]
    omega
  unfold okCell
  rw [eN, eM]
  simp only
  rw [Int.toNat_natCast, Int.toNat_natCast, pxA_at _ _ _ _ _ _ _ hi hj, pxA_at _ _ _ _ _ _ _ (by omega) (by omega), inL_nat (by rw [pxA_len]; exact cell_lt hi hj), inL_nat (by rw [pxA_len]; exact cell_lt (by omega) (by omega)),
    show x + (u : Int) + (j : Int) = x + ((u + j : Nat) : Int) by omega, show y + (v : Int) + (i : Int) = y + ((v + i : Nat) : Int) by omega, beq_self_eq_true]
  rfl
theorem size_ok {f : Int → Int → Bool} {x y z t : Int} (h : valid (x, y, z, t) = true) (hz : z ≤ 256) (ht : t ≤ 256) : (((pxA f x z.toNat t.toNat y).length : Int) != W (z * t)) = false := by
  have hv := (valid_iff x y z t).1 h
  obtain ⟨z, rfl⟩ : ∃ n : Nat, z = n := ⟨z.toNat, by omega⟩
  obtain ⟨t, rfl⟩ : ∃ n : Nat, t = n := ⟨t.toNat, by omega⟩
  have g := nat_bound (a := z) (b := t) (x := 256) (y := 256) (by omega) (by omega)
  rw [pxA_len, Int.toNat_natCast, Int.toNat_natCast, ← Int.natCast_mul, W_small (by omega) (by omega), Nat.mul_comm]
  exact bne_self_eq_false _
theorem parts_ok {ps : Ps} {rule x y z t : Int} (h1 : chkC ps rule = 0) (h2 : placeE (x, y, z, t) = 0) (q : Q) :
    ((maskP ps rule (meetP (known (x, y, z, t)) (known q))).2 != 0) = false ∧ tail9 sameM withinP (x, y, z, t) (meetP (known (x, y, z, t)) (known q)) (maskP ps rule (x, y, z, t)).1 (maskP ps rule (meetP (known (x, y, z, t)) (known q))).1 = ob true := by
  obtain ⟨hv, hz, ht⟩ := place_iff.1 h2
  obtain ⟨X, Y, Z, T, hm, hV, hZ, hT, hin⟩ := meet_in hv q
  rw [hm]
  have hv' := (valid_iff x y z t).1 hv
  have hV' := (valid_iff X Y Z T).1 hV
  have h3 : placeE (X, Y, Z, T) = 0 := place_iff.2 ⟨hV, by omega, by omega⟩
  rw [mask_at h1 h2, mask_at h1 h3]
  unfold tail9 gLn
  cases he : empty (X, Y, Z, T)
  · obtain ⟨-, g1, g2⟩ := (nonempty_iff X Y Z T).1 he
    rw [he] at hin
    obtain ⟨i1, i2, i3, i4⟩ := hin.resolve_left (by decide)
    have he' : empty (x, y, z, t) = false := (nonempty_iff x y z t).2 ⟨hv, by omega, by omega⟩
    rw [he']
    refine ⟨rfl, ?_⟩
    simp only [cond_false]
    have hw : withinP (X, Y, Z, T) (x, y, z, t) = true := by
      unfold withinP
      rw [show known (x, y, z, t) = (x, y, z, t) by unfold known; rw [if_pos hv]]
      simp only
      rw [W_small (n := X + Z) (by omega) (by omega), W_small (n := x + z) (by omega) (by omega), W_small (n := Y + T) (by omega) (by omega), W_small (n := y + t) (by omega) (by omega),
        decide_eq_true (by omega : X ≥ x), decide_eq_true (by omega : Y ≥ y), decide_eq_true i3, decide_eq_true i4]
      simp
    have hp := part_ok (f := fW ps rule) (x := x) (y := y) (X := X) (Y := Y) (z := z.toNat) (t := t.toNat) (Z := Z.toNat) (T := T.toNat) (by omega) (by omega) (by omega) (by omega) i1 i2 (by omega) (by omega)
    rw [show ((z.toNat : Nat) : Int) = z by omega, show ((t.toNat : Nat) : Int) = t by omega, show ((Z.toNat : Nat) : Int) = Z by omega, show ((T.toNat : Nat) : Int) = T by omega] at hp
    rw [size_ok hv hz ht, size_ok hV (by omega) (by omega), hw, hp, decide_eq_true (⟨trivial, trivial, by omega, by omega⟩ : True ∧ True ∧ Z ≤ 256 ∧ T ≤ 256), bne_self_eq_false, bne_self_eq_false, bne_self_eq_false, bne_self_eq_false]
    rfl
  · refine ⟨rfl, ?_⟩
    have hs : ((((bif empty (x, y, z, t) then ((0, 0, []), 0) else ((z, t, pxA (fW ps rule) x z.toNat t.toNat y), 0) : Mk × Int).1.2.2.length : Nat) : Int) != W ((bif empty (x, y, z, t) then ((0, 0, []), 0) else ((z, t, pxA (fW ps rule) x z.toNat t.toNat y), 0) : Mk × Int).1.1 * (bif empty (x, y, z, t) then ((0, 0, []), 0) else ((z, t, pxA (fW ps rule) x z.toNat t.toNat y), 0) : Mk × Int).1.2.1)) = false := by
      cases empty (x, y, z, t)
      · exact size_ok hv hz ht
      · show (((0 : Nat) : Int) != W (0 * 0)) = false
        rw [W_small (by omega) (by omega)]
        rfl
    rw [hs]
    rfl
theorem m9 : Meets Try.prog 9 (gate (ps dPRQQ fun a => okBig a.1) (sp dPRQQ fun _ => bw true)) := mG (rdL (e := E9 maskP sameM (fun a b => meetP (known a) (known b)) withinP) rfl (eg_cons mAw (eg_cons mMk (eg_cons m20 (eg_cons mz27 (eg_cons m24 (eg_cons mz28 eg_nil)))))) (fn := Try.f9) (k := 4) (by kernel_rfl) (by kernel_rfl) (of_decide_eq_true (by kernel_rfl)) (show loopsOf Try.f9 = [(0, loopAt Try.f9 0), (2, loopAt Try.f9 1)] by kernel_rfl)
    (fun p hp => by rcases List.mem_cons.mp hp with rfl | hp; exact loop9a maskP sameM (fun a b => meetP (known a) (known b)) withinP; cases List.mem_singleton.mp hp; exact loop9b maskP sameM (fun a b => meetP (known a) (known b)) withinP)) (fun _ _ => hPRQQ) (fun _ => ⟨rfl, Nat.le_refl _⟩)
  fun ⟨p, rule, ⟨x, y, z, t⟩, ⟨x', y', z', t'⟩⟩ hp => by
    have hp : okBig p = true := hp
    refine (t9 maskP sameM (fun a b => meetP (known a) (known b)) withinP p rule x y z t x' y' z' t').trans ?_
    unfold tree9 gSp gLn
    rw [big_short hp, mask_lt]
    cases he : (maskP p rule (x, y, z, t)).2 != 0
    · obtain ⟨h1, h2⟩ := mask_ok he
      obtain ⟨g1, g2⟩ := parts_ok h1 h2 (x', y', z', t')
      rw [g1, g2]
      rfl
    · rw [mask_err he, sameM_self]
      rfl
theorem hS9 {l : Ps} {rule x y z t x' y' z' t' : Int} (h1 : l.length * 24 ≤ 140737488351232 ∧ (l.all fun x => decide (x.length * 16 ≤ 140737488351232)) = true) : (gate (ps dPRQQ fun a => okBig a.1) (sp dPRQQ fun _ => bw true)) [plv l, iv rule, q4 x y z t, q4 x' y' z' t'] = some (bw true, []) := by
  show (bif okBig l then some (bw true, []) else none) = _
  have : okBig l = true := by
    unfold okBig
    rw [h1.2, decide_eq_true h1.1]; rfl
  rw [this]; rfl
end Go.Proofs.Ytbgfgadekmemeaa.Ev

