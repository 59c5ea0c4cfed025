/- The masks of polygons, the program's own and the reference's. Conditions: none. Printed by gen.py of this session. -/
import Derived.Test.YtbgfgadekmemeaaCj
namespace Go.Proofs.Ytbgfgadekmemeaa.Ev
open Go.Proofs
set_option linter.unusedVariables false
set_option linter.unusedSimpArgs false
set_option maxRecDepth 100000
set_option maxHeartbeats 1000000

/-! ### The program's own -/
abbrev pCk : List AV → Bool := ps dPR fun a => shortPs a.1
abbrev sCk : Spec := sp dPR fun a => iv (chkC a.1 a.2)
abbrev sCkR : Spec := sp dPR fun a => iv (chkR a.1 a.2)
abbrev sPl : Spec := sp dQ fun r => iv (placeE r)
abbrev sEy : Spec := sp dQ fun r => bw (empty r)
/-- The mask of polygons, after their check, by what is inside. -/
def maskX (e : Int) (f : Int → Int → Bool) (r : Q) : Mk × Int := bif e != 0 then ((0, 0, []), e) else bif placeE r != 0 then ((0, 0, []), placeE r) else bif empty r then ((0, 0, []), 0) else ((r.2.2.1, r.2.2.2, pxA f r.1 r.2.2.1.toNat r.2.2.2.toNat r.2.1), 0)
def maskP (ps : Ps) (rule : Int) (r : Q) : Mk × Int := maskX (chkC ps rule) (fW ps rule) r
def maskR (ps : Ps) (rule : Int) (r : Q) : Mk × Int := maskX (chkR ps rule) (fR ps rule) r
@[reducible] def om (x : Mk × Int) : Option (AV × List AV) := some (mev x, [])
def LMk : List Entry := [(12, pCk, sCk), (35, pT dQ, sPl), (24, pT dQ, sEy), (36, pVs, sVs)]
def tree57 (ck : Int) (pl : Int) (ps : Ps) (rule a b c d : Int) : Option (AV × List AV) := bif shortPs ps then bif ck != 0 then om ((0, 0, []), ck) else bif pl != 0 then om ((0, 0, []), pl) else bif empty (a, b, c, d) then om ((0, 0, []), pl) else
  bif okOut ps (a, b, c, d) then om ((c, d, pxA (fW ps rule) a c.toNat d.toNat b), 0) else none else none
theorem t57 (ps : Ps) (rule a b c d : Int) : evalF (EG LMk) Try.f18 (nPRQ (ps, rule, (a, b, c, d))) = tree57 (chkC ps rule) (placeE (a, b, c, d)) ps rule a b c d := by kernel_rfl
theorem placeE_ok {r : Q} (h : placeE r = 0) : okQ r = true := by
  obtain ⟨a, b, c, d⟩ := r
  unfold placeE at h
  simp only at h
  cases hv : valid (a, b, c, d)
  · rw [hv] at h; exact absurd (show (2 : Int) = 0 from h) (by decide)
  · rw [hv, cond_true] at h
    rw [valid_iff] at hv
    by_cases c1 : c > 256
    · rw [decide_eq_true c1] at h; exact absurd (show (15 : Int) = 0 from h) (by decide)
    by_cases c2 : d > 256
    · rw [decide_eq_false c1, decide_eq_true c2] at h; exact absurd (show (15 : Int) = 0 from h) (by decide)
    exact decide_eq_true (by simp only; omega)
theorem chkC_ok {ps : Ps} {rule : Int} (h : chkC ps rule = 0) : (rule = 0 ∨ rule = 1) ∧ allPts ps = true := by
  unfold chkC at h
  cases h1 : rule != 0 && rule != 1
  · rw [h1, cond_false] at h
    refine ⟨?_, ?_⟩
    · rw [Bool.and_eq_false_iff, bne_eq_false_iff_eq, bne_eq_false_iff_eq] at h1; exact h1
    · cases ha : allPts ps
      · rw [ha] at h; cases h2 : decide (totW ps 0 > 4096) <;> rw [h2] at h <;> exact absurd h (by decide)
      · rfl
  · rw [h1] at h; exact absurd (show (8 : Int) = 0 from h) (by decide)
theorem chkR_ok {ps : Ps} {rule : Int} (h : chkR ps rule = 0) : (rule = 0 ∨ rule = 1) ∧ allPts ps = true := by
  unfold chkR at h
  cases h1 : rule != 0 && rule != 1
  · rw [h1, cond_false] at h
    refine ⟨?_, ?_⟩
    · rw [Bool.and_eq_false_iff, bne_eq_false_iff_eq, bne_eq_false_iff_eq] at h1; exact h1
    · cases ha : allPts ps
      · rw [ha] at h; cases h2 : decide (totN ps > 4096) <;> rw [h2] at h <;> exact absurd h (by decide)
      · rfl
  · rw [h1] at h; exact absurd (show (8 : Int) = 0 from h) (by decide)
abbrev sMk : Spec := sp dPRQ fun a => mev (maskP a.1 a.2.1 a.2.2)
abbrev sMkR : Spec := sp dPRQ fun a => mev (maskR a.1 a.2.1 a.2.2)
abbrev pMk : List AV → Bool := ps dPRQ fun a => shortPs a.1
theorem okOut_of {ps : Ps} {r : Q} (h1 : shortPs ps = true) (h2 : allPts ps = true) (h3 : placeE r = 0) : okOut ps r = true := by
  unfold okOut
  rw [h1, h2, placeE_ok h3]; rfl
theorem mMk : Meets Try.prog 18 (gate pMk sMk) := mG (rdE (eg_cons m88 (eg_cons m89 (eg_cons m24 (eg_cons m90 eg_nil)))) (fn := Try.f18) (k := 3) (by kernel_rfl) (by kernel_rfl) (of_decide_eq_true (by kernel_rfl)) (by kernel_rfl)) (fun _ _ => hPRQ) (fun _ => ⟨rfl, Nat.le_refl _⟩)
  fun ⟨ps, rule, ⟨a, b, c, d⟩⟩ hp => by
    have hp : shortPs ps = true := hp
    refine (t57 ps rule a b c d).trans ?_
    show _ = om (maskP ps rule (a, b, c, d))
    unfold maskP maskX tree57
    rw [hp]
    by_cases h1 : chkC ps rule = 0
    · rw [bne_eq_false_iff_eq.mpr h1]
      by_cases h2 : placeE (a, b, c, d) = 0
      · rw [bne_eq_false_iff_eq.mpr h2, okOut_of hp (chkC_ok h1).2 h2]
        cases empty (a, b, c, d)
        · rfl
        · rw [h2]; rfl
      · rw [bne_iff_ne.mpr h2]; rfl
    · rw [bne_iff_ne.mpr h1]; rfl
/-! ### The reference's -/
def lp59a (st : St) (R : Type) (K : Ex → St → Option R) : Option R := req (decide (st.length = 69)) (gPl st 0 fun ps => gI st 1 fun rule => gQ st 5 fun r => gB st 6 fun z => gB st 9 fun m => gI st 10 fun y =>
  req (decide (y = 0 ∧ m.2.2.length = 0) && okOut ps r) (K (.exit 0) (mk 69 [(6, bB z), (9, bB (m.1, m.2.1, pxA (fR ps rule) r.1 r.2.2.1.toNat r.2.2.2.toNat r.2.1))])))
def lp59b (st : St) (R : Type) (K : Ex → St → Option R) : Option R := req (decide (st.length = 69)) (gPl st 0 fun ps => gI st 1 fun rule => gQ st 5 fun r => gB st 6 fun z => gB st 9 fun m => gI st 10 fun y => gI st 11 fun x =>
  req (decide (x = 0 ∧ 0 ≤ y ∧ y < 256 ∧ m.2.2.length ≤ 65536) && okOut ps r) (K (.exit 2) (mk 69 [(0, plv ps), (1, iv rule), (5, bQ r), (6, bB z), (9, bB (m.1, m.2.1, m.2.2 ++ pxR (fR ps rule) (r.2.1 + y) r.2.2.1.toNat r.1)), (10, iv y)])))
def E59 : Env := { EG [(13, pCk, sCkR), (37, pT dQ, sp dQ fun r => bw (valid r)), (38, pT dQ, sEy), (39, pVl, sVl)] with lv := fun id => match id with | 0 => [0, 1, 5, 6, 9, 10] | _ => [0, 1, 5, 6, 9, 10, 11], lx := fun id => match id with | 0 => [6, 9] | _ => [0, 1, 5, 6, 9, 10], lp := fun id => match id with | 0 => lp59a | _ => lp59b }
def st59a (ps : Ps) (rule : Int) (r : Q) (z m : Mk) (y : Int) : St := mk 69 [(0, plv ps), (1, iv rule), (5, bQ r), (6, bB z), (9, bB m), (10, iv y)]
def st59b (ps : Ps) (rule : Int) (r : Q) (z m : Mk) (y x : Int) : St := mk 69 [(0, plv ps), (1, iv rule), (5, bQ r), (6, bB z), (9, bB m), (10, iv y), (11, iv x)]
theorem b59a (ps : Ps) (rule : Int) (r : Q) (z m : Mk) (y : Int) : evalCode E59 (loopAt Try.f19 0) 0 (st59a ps rule r z m y) (kp E59 0) = bif decide (y < r.2.2.2) then
      bif decide ((0 : Int) = 0 ∧ 0 ≤ y ∧ y < 256 ∧ m.2.2.length ≤ 65536) && okOut ps r then some (.normal, st59a ps rule r z (m.1, m.2.1, m.2.2 ++ pxR (fR ps rule) (r.2.1 + y) r.2.2.1.toNat r.1) (W (y + 1))) else none
    else some (.exit 0, mk 69 [(6, bB z), (9, bB m)]) := by kernel_rfl
theorem b59b (ps : Ps) (rule : Int) (r : Q) (z m : Mk) (y x : Int) : evalCode E59 (loopAt Try.f19 1) 2 (st59b ps rule r z m y x) (kp E59 2) = bif decide (x < r.2.2.1) then
      bif okVal ps (W (r.1 + x)) (W (r.2.1 + y)) then bif decide (0 < 1) && decide ((m.2.2 ++ [pxl (fR ps rule) (W (r.1 + x)) (W (r.2.1 + y))]).length * 8 ≤ 140737488355328) then
        some (.normal, st59b ps rule r z (m.1, m.2.1, m.2.2 ++ [pxl (fR ps rule) (W (r.1 + x)) (W (r.2.1 + y))]) y (W (x + 1))) else none else none
    else some (.exit 2, mk 69 [(0, plv ps), (1, iv rule), (5, bQ r), (6, bB z), (9, bB m), (10, iv y)]) := by kernel_rfl
theorem runs59b (ps : Ps) (rule : Int) (r : Q) (z : Mk) (p q : Int) (y : Int) (ho : okOut ps r = true) (h0 : 0 ≤ y) (h1 : y < 256) : ∀ (k : Nat) (x : Int) (l : List Int), x + k = r.2.2.1 → 0 ≤ x → l.length + k ≤ 1000000 →
    Runs E59 2 (loopAt Try.f19 1) (st59b ps rule r z (p, q, l) y x) (.exit 2) (mk 69 [(0, plv ps), (1, iv rule), (5, bQ r), (6, bB z), (9, bB (p, q, l ++ pxR (fR ps rule) (r.2.1 + y) k (r.1 + x))), (10, iv y)]) := by
  obtain ⟨hs, ha, hr⟩ := okOut_ok ho
  intro k
  induction k with
  | zero =>
    intro x l hx hx0 hl
    refine .stop ?_ (by simp)
    rw [b59b, decide_eq_false (by omega), pxR, List.append_nil]
    rfl
  | succ k ih =>
    intro x l hx hx0 hl
    have hbd := b59b ps rule r z (p, q, l) y x
    simp only at hbd
    have hok : okVal ps (r.1 + x) (r.2.1 + y) = true := by
      unfold okVal okX
      rw [hs, ha, decide_eq_true (by omega), decide_eq_true (by omega)]; rfl
    rw [W_small (n := r.1 + x) (by omega) (by omega), W_small (n := r.2.1 + y) (by omega) (by omega), W_small (n := x + 1) (by omega) (by omega), hok, decide_eq_true (by omega : x < r.2.2.1), decide_eq_true (by omega : 0 < 1), decide_eq_true (by rw [List.length_append, List.length_singleton]; omega)] at hbd
    have := ih (x + 1) (l ++ [pxl (fR ps rule) (r.1 + x) (r.2.1 + y)]) (by omega) (by omega) (by rw [List.length_append, List.length_singleton]; omega)
    rw [List.append_assoc, List.singleton_append, ← Int.add_assoc] at this
    rw [pxR]
    exact .step hbd this
theorem runs59a (ps : Ps) (rule : Int) (r : Q) (z : Mk) (p q : Int) (ho : okOut ps r = true) : ∀ (k : Nat) (y : Int) (l : List Int), y + k = r.2.2.2 → 0 ≤ y → l.length + k * 256 ≤ 65536 →
    Runs E59 0 (loopAt Try.f19 0) (st59a ps rule r z (p, q, l) y) (.exit 0) (mk 69 [(6, bB z), (9, bB (p, q, l ++ pxA (fR ps rule) r.1 r.2.2.1.toNat k (r.2.1 + y)))]) := by
  obtain ⟨hs, ha, hr⟩ := okOut_ok ho
  intro k
  induction k with
  | zero =>
    intro y l hy h0 hl
    refine .stop ?_ (by simp)
    rw [b59a, decide_eq_false (by omega), pxA, List.append_nil]
    rfl
  | succ k ih =>
    intro y l hy h0 hl
    have hbd := b59a ps rule r z (p, q, l) y
    simp only at hbd
    rw [decide_eq_true (by omega : y < r.2.2.2), decide_eq_true (⟨trivial, by omega, by omega, by omega⟩ : True ∧ 0 ≤ y ∧ y < 256 ∧ l.length ≤ 65536), ho, W_small (n := y + 1) (by omega) (by omega)] at hbd
    have := ih (y + 1) (l ++ pxR (fR ps rule) (r.2.1 + y) r.2.2.1.toNat r.1) (by omega) (by omega) (by rw [List.length_append, pxR_len]; omega)
    rw [List.append_assoc, ← Int.add_assoc] at this
    rw [pxA]
    exact .step hbd this
theorem loop59a : LoopOk E59 0 (loopAt Try.f19 0) := by
  intro st R K z h
  obtain ⟨hn, h⟩ := req_some h
  obtain ⟨ps, e0, h⟩ := gPl_some h
  obtain ⟨rule, e1, h⟩ := gI_some h
  obtain ⟨r, e2, h⟩ := gQ_some h
  obtain ⟨z, e3, h⟩ := gB_some h
  obtain ⟨m, e4, h⟩ := gB_some h
  obtain ⟨y, e5, h⟩ := gI_some h
  obtain ⟨hc, h⟩ := req_some h
  simp only [Bool.and_eq_true, decide_eq_true_eq] at hc
  obtain ⟨⟨h1, h2⟩, h3⟩ := hc
  rw [keep_mk (of_decide_eq_true hn)]
  have e := runs59a ps rule r z m.1 m.2.1 h3 r.2.2.2.toNat 0 [] (by have := (okOut_ok h3).2.2; omega) (Int.le_refl _) (by have := (okOut_ok h3).2.2; rw [List.length_nil]; omega)
  have es : mk 69 ((E59.lv 0).map fun i => (i, getS (keep (E59.lv 0) st) i)) = st59a ps rule r z (m.1, m.2.1, []) 0 := by
    show mk 69 [(0, getS (keep (E59.lv 0) st) 0), (1, getS (keep (E59.lv 0) st) 1), (5, getS (keep (E59.lv 0) st) 5), (6, getS (keep (E59.lv 0) st) 6), (9, getS (keep (E59.lv 0) st) 9), (10, getS (keep (E59.lv 0) st) 10)] = _
    rw [e0, e1, e2, e3, e4, e5, h1, ← List.length_eq_zero_iff.mp h2]
    rfl
  rw [es]
  rw [List.nil_append, Int.add_zero] at e
  exact ⟨_, _, e, h⟩
theorem loop59b : LoopOk E59 2 (loopAt Try.f19 1) := by
  intro st R K z h
  obtain ⟨hn, h⟩ := req_some h
  obtain ⟨ps, e0, h⟩ := gPl_some h
  obtain ⟨rule, e1, h⟩ := gI_some h
  obtain ⟨r, e2, h⟩ := gQ_some h
  obtain ⟨z, e3, h⟩ := gB_some h
  obtain ⟨m, e4, h⟩ := gB_some h
  obtain ⟨y, e5, h⟩ := gI_some h
  obtain ⟨x, e6, h⟩ := gI_some h
  obtain ⟨hc, h⟩ := req_some h
  simp only [Bool.and_eq_true, decide_eq_true_eq] at hc
  obtain ⟨⟨h1, h2, h3, h4⟩, h5⟩ := hc
  rw [keep_mk (of_decide_eq_true hn)]
  have e := runs59b ps rule r z m.1 m.2.1 y h5 h2 h3 r.2.2.1.toNat 0 m.2.2 (by have := (okOut_ok h5).2.2; omega) (Int.le_refl _) (by have := (okOut_ok h5).2.2; omega)
  have es : mk 69 ((E59.lv 2).map fun i => (i, getS (keep (E59.lv 2) st) i)) = st59b ps rule r z (m.1, m.2.1, m.2.2) y 0 := by
    show mk 69 [(0, getS (keep (E59.lv 2) st) 0), (1, getS (keep (E59.lv 2) st) 1), (5, getS (keep (E59.lv 2) st) 5), (6, getS (keep (E59.lv 2) st) 6), (9, getS (keep (E59.lv 2) st) 9), (10, getS (keep (E59.lv 2) st) 10), (11, getS (keep (E59.lv 2) st) 11)] = _
    rw [e0, e1, e2, e3, e4, e5, e6, h1]
    rfl
  rw [es]
  rw [Int.add_zero] at e
  exact ⟨_, _, e, h⟩
def tree59 (ck : Int) (ps : Ps) (rule a b c d : Int) : Option (AV × List AV) := bif shortPs ps then bif ck != 0 then om ((0, 0, []), ck) else bif !valid (a, b, c, d) then om ((0, 0, []), 2) else bif decide (c > 256) then om ((0, 0, []), 15) else bif decide (d > 256) then om ((0, 0, []), 15) else bif empty (a, b, c, d) then om ((0, 0, []), 0) else
  bif decide ((0 : Int) = 0 ∧ ([] : List Int).length = 0) && okOut ps (a, b, c, d) then om ((c, d, pxA (fR ps rule) a c.toNat d.toNat b), 0) else none else none
theorem t59 (ps : Ps) (rule a b c d : Int) : evalF E59 Try.f19 (nPRQ (ps, rule, (a, b, c, d))) = tree59 (chkR ps rule) ps rule a b c d := by kernel_rfl
theorem mMkR : Meets Try.prog 19 (gate pMk sMkR) := mG (rdL (e := E59) rfl (eg_cons m91 (eg_cons m37 (eg_cons m38 (eg_cons m92 eg_nil)))) (fn := Try.f19) (k := 3) (by kernel_rfl) (by kernel_rfl) (of_decide_eq_true (by kernel_rfl)) (show loopsOf Try.f19 = [(0, loopAt Try.f19 0), (2, loopAt Try.f19 1)] by kernel_rfl)
    (fun p hp => by rcases List.mem_cons.mp hp with rfl | hp; exact loop59a; cases List.mem_singleton.mp hp; exact loop59b)) (fun _ _ => hPRQ) (fun _ => ⟨rfl, Nat.le_refl _⟩)
  fun ⟨ps, rule, ⟨a, b, c, d⟩⟩ hp => by
    have hp : shortPs ps = true := hp
    refine (t59 ps rule a b c d).trans ?_
    show _ = om (maskR ps rule (a, b, c, d))
    unfold maskR maskX tree59
    rw [hp, decide_eq_true (⟨rfl, rfl⟩ : (0 : Int) = 0 ∧ ([] : List Int).length = 0)]
    by_cases h1 : chkR ps rule = 0
    · rw [bne_eq_false_iff_eq.mpr h1]
      by_cases h2 : placeE (a, b, c, d) = 0
      · rw [okOut_of hp (chkR_ok h1).2 h2]
        unfold placeE at h2 ⊢
        simp only at h2 ⊢
        cases hv : valid (a, b, c, d) <;> rw [hv] at h2
        · exact absurd (show (2 : Int) = 0 from h2) (by decide)
        cases h3 : decide (c > 256) <;> rw [h3] at h2
        · cases h4 : decide (d > 256) <;> rw [h4] at h2
          · cases empty (a, b, c, d) <;> rfl
          · exact absurd (show (15 : Int) = 0 from h2) (by decide)
        · exact absurd (show (15 : Int) = 0 from h2) (by decide)
      · rw [bne_iff_ne.mpr h2]
        unfold placeE at h2 ⊢
        simp only at h2 ⊢
        cases hv : valid (a, b, c, d)
        · rfl
        cases h3 : decide (c > 256)
        · cases h4 : decide (d > 256)
          · rw [hv, h3, h4] at h2; exact absurd rfl h2
          · rfl
        · rfl
    · rw [bne_iff_ne.mpr h1]; rfl
/-! ### They are the same -/
theorem pxl_congr {f g : Int → Int → Bool} (h : ∀ x y, f x y = g x y) (X Y : Int) : pxl f X Y = pxl g X Y := by
  have : f = g := funext fun x => funext fun y => h x y
  rw [this]
theorem fW_fR {ps : Ps} {rule : Int} (h : rule = 0 ∨ rule = 1) : fW ps rule = fR ps rule := funext fun x => funext fun y => insW_eq h _
theorem maskP_R {ps : Ps} {rule : Int} (h : chkC ps rule = chkR ps rule) (r : Q) : maskP ps rule r = maskR ps rule r := by
  unfold maskP maskR
  rw [h]
  by_cases h1 : chkR ps rule = 0
  · rw [fW_fR (chkR_ok h1).1]
  · unfold maskX
    rw [bne_iff_ne.mpr h1]; rfl
/-- The number of points as the program counts it is their number. -/
theorem totW_eq : ∀ (ps : Ps) (t : Nat), t + totN ps < 9223372036854775808 → totW ps t = ((t + totN ps : Nat) : Int)
  | [], t, _ => rfl
  | l :: ls, t, h => by
    simp only [totN] at h
    rw [totW, totN, W_small (by omega) (by omega), show (t : Int) + (l.length : Int) = ((t + l.length : Nat) : Int) by omega, totW_eq ls (t + l.length) (by omega)]
    congr 1; omega
theorem chk_eq {ps : Ps} (h : totN ps < 9223372036854775808) (rule : Int) : chkC ps rule = chkR ps rule := by
  unfold chkC chkR
  have := totW_eq ps 0 (by omega)
  rw [show ((0 : Nat) : Int) = 0 from rfl] at this
  rw [this]
  by_cases c : totN ps > 4096
  · rw [decide_eq_true c, decide_eq_true (by omega : ((0 + totN ps : Nat) : Int) > 4096)]
  · rw [decide_eq_false c, decide_eq_false (by omega : ¬ ((0 + totN ps : Nat) : Int) > 4096)]
end Go.Proofs.Ytbgfgadekmemeaa.Ev

