/- The coverage of a pixel and of the pixels of a rectangle. Conditions: none. Printed by gen.py of this session. -/
import Derived.Test.YtbgfgadekmemeaaCh
namespace Go.Proofs.Ytbgfgadekmemeaa.Ev
open Go.Proofs
set_option linter.unusedVariables false
set_option linter.unusedSimpArgs false
set_option maxRecDepth 100000
set_option maxHeartbeats 1000000

/-! ### The coverage of a pixel, as the reference says it -/
def fR (ps : Ps) (rule x y : Int) : Bool := insR rule (wnd ps x y)
def fW (ps : Ps) (rule x y : Int) : Bool := insW rule (wnd ps x y)
def pxl (f : Int → Int → Bool) (X Y : Int) : Int := divP (65535 * cnJ f (16 * X) 16 (16 * Y)) 256
def okX (x : Int) : Bool := decide (-2097152 ≤ x ∧ x ≤ 2097152)
def okVal (ps : Ps) (x y : Int) : Bool := shortPs ps && allPts ps && okX x && okX y
def lp92a (st : St) (R : Type) (K : Ex → St → Option R) : Option R := req (decide (st.length = 36)) (gPl st 0 fun ps => gI st 1 fun rule => gI st 2 fun x => gI st 3 fun y => gI st 9 fun n => gI st 10 fun j =>
  req (decide (j = 0 ∧ n = 0) && okVal ps x y) (K (.exit 0) (mk 36 [(9, iv (cnJ (fR ps rule) (16 * x) 16 (16 * y)))])))
def lp92b (st : St) (R : Type) (K : Ex → St → Option R) : Option R := req (decide (st.length = 36)) (gPl st 0 fun ps => gI st 1 fun rule => gI st 2 fun x => gI st 3 fun y => gI st 9 fun n => gI st 10 fun j => gI st 11 fun i =>
  req (decide (i = 0 ∧ 0 ≤ n ∧ n ≤ 1000 ∧ 0 ≤ j ∧ j < 16) && okVal ps x y) (K (.exit 2) (mk 36 [(0, plv ps), (1, iv rule), (2, iv x), (3, iv y), (9, iv (n + cnI (fR ps rule) (16 * y + j) 16 (16 * x))), (10, iv j)])))
def E92 : Env := { EG [(51, pIn, sIn), (52, pD, sp dII fun a => iv (divP a.1 a.2))] with lv := fun id => match id with | 0 => [0, 1, 2, 3, 9, 10] | _ => [0, 1, 2, 3, 9, 10, 11], lx := fun id => match id with | 0 => [9] | _ => [0, 1, 2, 3, 9, 10], lp := fun id => match id with | 0 => lp92a | _ => lp92b }
def st92a (ps : Ps) (rule x y n j : Int) : St := mk 36 [(0, plv ps), (1, iv rule), (2, iv x), (3, iv y), (9, iv n), (10, iv j)]
def st92b (ps : Ps) (rule x y n j i : Int) : St := mk 36 [(0, plv ps), (1, iv rule), (2, iv x), (3, iv y), (9, iv n), (10, iv j), (11, iv i)]
theorem b92a (ps : Ps) (rule x y n j : Int) : evalCode E92 (loopAt Try.f39 0) 0 (st92a ps rule x y n j) (kp E92 0) = bif decide (j < 16) then
      bif decide ((0 : Int) = 0 ∧ 0 ≤ n ∧ n ≤ 1000 ∧ 0 ≤ j ∧ j < 16) && okVal ps x y then some (.normal, st92a ps rule x y (n + cnI (fR ps rule) (16 * y + j) 16 (16 * x)) (W (j + 1))) else none
    else some (.exit 0, mk 36 [(9, iv n)]) := by kernel_rfl
theorem b92b (ps : Ps) (rule x y n j i : Int) : evalCode E92 (loopAt Try.f39 1) 2 (st92b ps rule x y n j i) (kp E92 2) = bif decide (i < 16) then
      bif okSm ps (W (W (16 * x) + i)) (W (W (16 * y) + j)) then bif insR rule (wnd ps (W (W (16 * x) + i)) (W (W (16 * y) + j))) then some (.normal, st92b ps rule x y (W (n + 1)) j (W (i + 1))) else some (.normal, st92b ps rule x y n j (W (i + 1))) else none
    else some (.exit 2, mk 36 [(0, plv ps), (1, iv rule), (2, iv x), (3, iv y), (9, iv n), (10, iv j)]) := by kernel_rfl
theorem okVal_ok {ps : Ps} {x y : Int} (h : okVal ps x y = true) : shortPs ps = true ∧ allPts ps = true ∧ (-2097152 ≤ x ∧ x ≤ 2097152) ∧ -2097152 ≤ y ∧ y ≤ 2097152 := by
  simp only [okVal, okX, Bool.and_eq_true, decide_eq_true_eq] at h
  exact ⟨h.1.1.1, h.1.1.2, h.1.2, h.2⟩
theorem okSm_of {ps : Ps} {x y : Int} (h1 : shortPs ps = true) (h2 : allPts ps = true) (h3 : -67108864 ≤ x ∧ x ≤ 67108864) (h4 : -67108864 ≤ y ∧ y ≤ 67108864) : okSm ps x y = true := by
  unfold okSm okC
  rw [h1, h2, decide_eq_true h3, decide_eq_true h4]; rfl
theorem runs92b (ps : Ps) (rule x y j : Int) (h : okVal ps x y = true) (hj : 0 ≤ j) (hj2 : j < 16) : ∀ (k : Nat) (i n : Int), i + k = 16 → 0 ≤ i → 0 ≤ n → n + k ≤ 1100 →
    Runs E92 2 (loopAt Try.f39 1) (st92b ps rule x y n j i) (.exit 2) (mk 36 [(0, plv ps), (1, iv rule), (2, iv x), (3, iv y), (9, iv (n + cnI (fR ps rule) (16 * y + j) k (16 * x + i))), (10, iv j)]) := by
  obtain ⟨h1, h2, h3, h4⟩ := okVal_ok h
  intro k
  induction k with
  | zero =>
    intro i n hi _ _ _
    refine .stop ?_ (by simp)
    rw [b92b, decide_eq_false (by omega), cnI, Int.add_zero]
    rfl
  | succ k ih =>
    intro i n hi h0 hn hk
    have hbd := b92b ps rule x y n j i
    rw [W_small (n := 16 * x) (by omega) (by omega), W_small (n := 16 * x + i) (by omega) (by omega), W_small (n := 16 * y) (by omega) (by omega), W_small (n := 16 * y + j) (by omega) (by omega), W_small (n := n + 1) (by omega) (by omega), W_small (n := i + 1) (by omega) (by omega),
      decide_eq_true (by omega : i < 16), okSm_of h1 h2 (by omega) (by omega)] at hbd
    rw [cnI, show 16 * x + i + 1 = 16 * x + (i + 1) by omega]
    have hf : fR ps rule (16 * x + i) (16 * y + j) = insR rule (wnd ps (16 * x + i) (16 * y + j)) := rfl
    rw [hf]
    cases hv : insR rule (wnd ps (16 * x + i) (16 * y + j))
    · rw [hv] at hbd
      rw [if_neg (by decide), Int.zero_add]
      exact .step hbd (ih (i + 1) n (by omega) (by omega) hn (by omega))
    · rw [hv] at hbd
      rw [if_pos rfl, ← Int.add_assoc]
      exact .step hbd (ih (i + 1) (n + 1) (by omega) (by omega) (by omega) (by omega))
theorem runs92a (ps : Ps) (rule x y : Int) (h : okVal ps x y = true) : ∀ (k : Nat) (j n : Int), j + k = 16 → 0 ≤ j → 0 ≤ n → n ≤ 16 * j →
    Runs E92 0 (loopAt Try.f39 0) (st92a ps rule x y n j) (.exit 0) (mk 36 [(9, iv (n + cnJ (fR ps rule) (16 * x) k (16 * y + j)))]) := by
  intro k
  induction k with
  | zero =>
    intro j n hj _ _ _
    refine .stop ?_ (by simp)
    rw [b92a, decide_eq_false (by omega), cnJ, Int.add_zero]
    rfl
  | succ k ih =>
    intro j n hj h0 hn hk
    have hbd := b92a ps rule x y n j
    have hc := cnI_le (fR ps rule) (16 * y + j) 16 (16 * x)
    rw [decide_eq_true (by omega : j < 16), decide_eq_true ⟨rfl, by omega, by omega, by omega, by omega⟩, h, W_small (n := j + 1) (by omega) (by omega)] at hbd
    rw [cnJ, ← Int.add_assoc, show 16 * y + j + 1 = 16 * y + (j + 1) by omega]
    exact .step hbd (ih (j + 1) _ (by omega) (by omega) (by omega) (by omega))
theorem loop92a : LoopOk E92 0 (loopAt Try.f39 0) := by
  intro st R K z h
  obtain ⟨hn, h⟩ := req_some h
  obtain ⟨ps, e0, h⟩ := gPl_some h
  obtain ⟨rule, e1, h⟩ := gI_some h
  obtain ⟨x, e2, h⟩ := gI_some h
  obtain ⟨y, e3, h⟩ := gI_some h
  obtain ⟨n, e4, h⟩ := gI_some h
  obtain ⟨j, e5, h⟩ := gI_some h
  obtain ⟨hc, h⟩ := req_some h
  simp only [Bool.and_eq_true, decide_eq_true_eq] at hc
  obtain ⟨⟨h1, h2⟩, h3⟩ := hc
  rw [keep_mk (of_decide_eq_true hn)]
  have e := runs92a ps rule x y h3 16 0 0 (by omega) (Int.le_refl _) (Int.le_refl _) (Int.le_refl _)
  have es : mk 36 ((E92.lv 0).map fun i => (i, getS (keep (E92.lv 0) st) i)) = st92a ps rule x y 0 0 := by
    show mk 36 [(0, getS (keep (E92.lv 0) st) 0), (1, getS (keep (E92.lv 0) st) 1), (2, getS (keep (E92.lv 0) st) 2), (3, getS (keep (E92.lv 0) st) 3), (9, getS (keep (E92.lv 0) st) 9), (10, getS (keep (E92.lv 0) st) 10)] = _
    rw [e0, e1, e2, e3, e4, e5, h1, h2]
    rfl
  rw [es]
  rw [Int.zero_add, Int.add_zero] at e
  exact ⟨_, _, e, h⟩
theorem loop92b : LoopOk E92 2 (loopAt Try.f39 1) := by
  intro st R K z h
  obtain ⟨hn, h⟩ := req_some h
  obtain ⟨ps, e0, h⟩ := gPl_some h
  obtain ⟨rule, e1, h⟩ := gI_some h
  obtain ⟨x, e2, h⟩ := gI_some h
  obtain ⟨y, e3, h⟩ := gI_some h
  obtain ⟨n, e4, h⟩ := gI_some h
  obtain ⟨j, e5, h⟩ := gI_some h
  obtain ⟨i, e6, h⟩ := gI_some h
  obtain ⟨hc, h⟩ := req_some h
  simp only [Bool.and_eq_true, decide_eq_true_eq] at hc
  obtain ⟨⟨h1, h2, h3, h4, h5⟩, h6⟩ := hc
  rw [keep_mk (of_decide_eq_true hn)]
  have e := runs92b ps rule x y j h6 h4 h5 16 0 n (by omega) (Int.le_refl _) h2 (by omega)
  have es : mk 36 ((E92.lv 2).map fun i => (i, getS (keep (E92.lv 2) st) i)) = st92b ps rule x y n j 0 := by
    show mk 36 [(0, getS (keep (E92.lv 2) st) 0), (1, getS (keep (E92.lv 2) st) 1), (2, getS (keep (E92.lv 2) st) 2), (3, getS (keep (E92.lv 2) st) 3), (9, getS (keep (E92.lv 2) st) 9), (10, getS (keep (E92.lv 2) st) 10), (11, getS (keep (E92.lv 2) st) 11)] = _
    rw [e0, e1, e2, e3, e4, e5, e6, h1]
    rfl
  rw [es]
  rw [Int.add_zero] at e
  exact ⟨_, _, e, h⟩
theorem t92 (ps : Ps) (rule x y : Int) : evalF E92 Try.f39 (nPRII (ps, rule, x, y)) = bif decide ((0 : Int) = 0 ∧ (0 : Int) = 0) && okVal ps x y then
    bif decide (0 ≤ W (65535 * cnJ (fR ps rule) (16 * x) 16 (16 * y)) ∧ W (65535 * cnJ (fR ps rule) (16 * x) 16 (16 * y)) ≤ 4503599627370496 ∧ (1 : Int) ≤ 256 ∧ (256 : Int) ≤ 1099511627776) then oi (divP (W (65535 * cnJ (fR ps rule) (16 * x) 16 (16 * y))) 256) else none else none := by kernel_rfl
abbrev pVl : List AV → Bool := ps dPRII fun a => okVal a.1 a.2.2.1 a.2.2.2
abbrev sVl : Spec := sp dPRII fun a => iv (pxl (fR a.1 a.2.1) a.2.2.1 a.2.2.2)
theorem m92 : Meets Try.prog 39 (gate pVl sVl) := mG (rdL (e := E92) rfl (eg_cons m106 (eg_cons mRDiv eg_nil)) (fn := Try.f39) (k := 4) (by kernel_rfl) (by kernel_rfl) (of_decide_eq_true (by kernel_rfl)) (show loopsOf Try.f39 = [(0, loopAt Try.f39 0), (2, loopAt Try.f39 1)] by kernel_rfl)
    (fun p hp => by rcases List.mem_cons.mp hp with rfl | hp; exact loop92a; cases List.mem_singleton.mp hp; exact loop92b)) (fun _ _ => hPRII) (fun _ => ⟨rfl, Nat.le_refl _⟩)
  fun ⟨ps, rule, x, y⟩ hp => by
    have hp : okVal ps x y = true := hp
    have hc := cnJ_le (fR ps rule) (16 * x) 16 (16 * y)
    refine (t92 ps rule x y).trans ?_
    rw [hp, decide_eq_true (⟨rfl, rfl⟩ : (0 : Int) = 0 ∧ (0 : Int) = 0), W_small (n := 65535 * cnJ (fR ps rule) (16 * x) 16 (16 * y)) (by omega) (by omega), decide_eq_true ⟨by omega, by omega, by omega, by omega⟩]
    rfl
/-! ### The counts of a row of pixels -/
def rowsC (ps : Ps) (rule X Y : Int) : Nat → Int → List Int → List Int
  | 0, _, cs => cs
  | k + 1, j, cs => rowsC ps rule X Y k (j + 1) (rowC ps rule (16 * Y + j) (16 * X) cs)
theorem rowsC_len (ps : Ps) (rule X Y : Int) : ∀ (k : Nat) (j : Int) (cs : List Int), (rowsC ps rule X Y k j cs).length = cs.length
  | 0, _, _ => rfl
  | k + 1, j, cs => by rw [rowsC, rowsC_len, rowC_len]
theorem rowsC_at {ps : Ps} {rule X Y : Int} {i : Nat} (ho : allPts ps = true) (hX : -2097152 ≤ X ∧ X ≤ 2097152) (hY : -2097152 ≤ Y ∧ Y ≤ 2097152) : ∀ (k : Nat) (j : Int) (cs : List Int), 0 ≤ j → j + k = 16 → cs.length ≤ 256 → i < cs.length → 0 ≤ cs.getD i 0 → cs.getD i 0 ≤ 16 * j →
    (rowsC ps rule X Y k j cs).getD i 0 = cs.getD i 0 + cnJ (fW ps rule) (16 * (X + i)) k (16 * Y + j)
  | 0, _, _, _, _, _, _, _, _ => by rw [rowsC, cnJ, Int.add_zero]
  | k + 1, j, cs, h0, hj, hn, hi, h1, h2 => by
    have e := rowC_at (ps := ps) (rule := rule) (s := 16 * Y + j) (lf := 16 * X) (cs := cs) (j := i) ho (by omega) (by omega) hn hi h1 (by omega)
    have hc := cnI_le (fun x y => insW rule (wnd ps x y)) (16 * Y + j) 16 (16 * X + 16 * i)
    rw [rowsC, rowsC_at ho hX hY k (j + 1) _ (by omega) (by omega) (by rw [rowC_len]; exact hn) (by rw [rowC_len]; exact hi) (by rw [e]; omega) (by rw [e]; omega), e, cnJ, show 16 * Y + j + 1 = 16 * Y + (j + 1) by omega, Int.add_assoc, show 16 * X + 16 * (i : Int) = 16 * (X + i) by omega]
    rfl
def pxR (f : Int → Int → Bool) (Y : Int) : Nat → Int → List Int
  | 0, _ => []
  | k + 1, X => pxl f X Y :: pxR f Y k (X + 1)
def pxA (f : Int → Int → Bool) (X : Int) (w : Nat) : Nat → Int → List Int
  | 0, _ => []
  | k + 1, Y => pxR f Y w X ++ pxA f X w k (Y + 1)
theorem pxR_len (f : Int → Int → Bool) (Y : Int) : ∀ (k : Nat) (X : Int), (pxR f Y k X).length = k
  | 0, _ => rfl
  | k + 1, X => by rw [pxR, List.length_cons, pxR_len]
theorem pxA_len (f : Int → Int → Bool) (X : Int) (w : Nat) : ∀ (k : Nat) (Y : Int), (pxA f X w k Y).length = k * w
  | 0, _ => by rw [pxA, Nat.zero_mul]; rfl
  | k + 1, Y => by rw [pxA, List.length_append, pxR_len, pxA_len, Nat.add_mul, Nat.one_mul, Nat.add_comm]
theorem pxR_at (f : Int → Int → Bool) (Y : Int) : ∀ (k : Nat) (X : Int) (i : Nat), i < k → (pxR f Y k X)[i]? = some (pxl f (X + i) Y)
  | k + 1, X, 0, _ => by rw [pxR]; simp
  | k + 1, X, i + 1, h => by rw [pxR, List.getElem?_cons_succ, pxR_at f Y k (X + 1) i (by omega), show X + 1 + (i : Int) = X + ((i + 1 : Nat) : Int) by omega]
def mapD (cs : List Int) : List Int := cs.map fun c => divP (65535 * c) 256
theorem mapD_rows {ps : Ps} {rule X Y : Int} {w : Nat} (ho : allPts ps = true) (hX : -2097152 ≤ X ∧ X ≤ 2097152) (hY : -2097152 ≤ Y ∧ Y ≤ 2097152) (hw : w ≤ 256) : mapD (rowsC ps rule X Y 16 0 (List.replicate w 0)) = pxR (fW ps rule) Y w X := by
  apply List.ext_getElem?
  intro i
  by_cases hi : i < w
  · have hlen : (rowsC ps rule X Y 16 0 (List.replicate w 0)).length = w := by rw [rowsC_len, List.length_replicate]
    have hz : (List.replicate w (0 : Int)).getD i 0 = 0 := by rw [List.getD_eq_getElem?_getD, List.getElem?_replicate]; split <;> rfl
    have e := rowsC_at (ps := ps) (rule := rule) (i := i) ho hX hY 16 0 (List.replicate w 0) (Int.le_refl _) (by omega) (by rw [List.length_replicate]; exact hw) (by rw [List.length_replicate]; exact hi) (by rw [hz]; omega) (by rw [hz]; omega)
    rw [hz, Int.zero_add, Int.add_zero, List.getD_eq_getElem?_getD, List.getElem?_eq_getElem (by omega), Option.getD_some] at e
    rw [pxR_at _ _ _ _ _ hi]
    unfold mapD pxl
    rw [List.getElem?_map, List.getElem?_eq_getElem (by omega), Option.map_some, e]
  · rw [List.getElem?_eq_none (l := pxR (fW ps rule) Y w X) (by rw [pxR_len]; omega), List.getElem?_eq_none (by unfold mapD; rw [List.length_map, rowsC_len, List.length_replicate]; omega)]
theorem rows_le {ps : Ps} {rule X Y : Int} {w : Nat} (ho : allPts ps = true) (hX : -2097152 ≤ X ∧ X ≤ 2097152) (hY : -2097152 ≤ Y ∧ Y ≤ 2097152) (hw : w ≤ 256) (i : Nat) : 0 ≤ (rowsC ps rule X Y 16 0 (List.replicate w 0)).getD i 0 ∧ (rowsC ps rule X Y 16 0 (List.replicate w 0)).getD i 0 ≤ 256 := by
  by_cases hi : i < w
  · have hz : (List.replicate w (0 : Int)).getD i 0 = 0 := by rw [List.getD_eq_getElem?_getD, List.getElem?_replicate]; split <;> rfl
    have e := rowsC_at (ps := ps) (rule := rule) (i := i) ho hX hY 16 0 (List.replicate w 0) (Int.le_refl _) (by omega) (by rw [List.length_replicate]; exact hw) (by rw [List.length_replicate]; exact hi) (by rw [hz]; omega) (by rw [hz]; omega)
    have hc := cnJ_le (fW ps rule) (16 * (X + i)) 16 (16 * Y + 0)
    rw [e, hz]
    omega
  · rw [List.getD_eq_getElem?_getD, List.getElem?_eq_none (by rw [rowsC_len, List.length_replicate]; omega)]
    exact ⟨Int.le_refl _, by decide⟩
end Go.Proofs.Ytbgfgadekmemeaa.Ev

