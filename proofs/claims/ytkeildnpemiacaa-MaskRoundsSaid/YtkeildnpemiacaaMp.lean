/- Masks of ellipses, the program's own and the reference's. Conditions: none. Printed by gen.py of this session. -/
import Derived.Test.YtkeildnpemiacaaMp2
namespace Go.Proofs.Ytkeildnpemiacaa.Ev
open Go.Proofs
set_option linter.unusedVariables false
set_option linter.unusedSimpArgs false
set_option maxRecDepth 100000
set_option maxHeartbeats 1000000

/-! ### Samples -/
def rnd (r : Q) (x y : Int) : Bool := inEll x y r (W (16 * r.2.2.1)) (W (16 * r.2.2.2)) (W (W (W (W (16 * r.2.2.1) * W (16 * r.2.2.2)) * W (16 * r.2.2.1)) * W (16 * r.2.2.2)))
def fE (r : Q) : Fn2 := fun vs => match vs with
  | [.int .i64 x, .int .i64 y] => some (.bool (rnd r x y))
  | _ => none
def fR (r : Q) : Fn2 := fun vs => match vs with
  | [.int .i64 x, .int .i64 y] => some (.bool (!empty r && rnd r x y))
  | _ => none
def ellG (r : Q) (x y : Int) : Int := ellV r (fE r) x y
def refG (r : Q) (x y : Int) : Int := divP (65535 * cntSs (fR r) x y 16 0) 256
theorem cntS_congr {F F' : Fn2} {x y : Int} : ∀ (k : Nat) (i : Int) (j : Int), (∀ i', i ≤ i' → i' < i + k → valBool (smp F x y i' j) = valBool (smp F' x y i' j)) → cntS F x y j k i = cntS F' x y j k i
  | 0, _, _, _ => rfl
  | k + 1, i, j, h => by rw [cntS, cntS, h i (Int.le_refl _) (by omega), cntS_congr k (i + 1) j fun i' h1 h2 => h i' (by omega) (by omega)]
theorem cntSs_congr {F F' : Fn2} {x y : Int} : ∀ (k : Nat) (j : Int), (∀ i' j', 0 ≤ i' → i' < 16 → j ≤ j' → j' < j + k → valBool (smp F x y i' j') = valBool (smp F' x y i' j')) → cntSs F x y k j = cntSs F' x y k j
  | 0, _, _ => rfl
  | k + 1, j, h => by rw [cntSs, cntSs, cntS_congr 16 0 j fun i' h1 h2 => h i' j h1 (by omega) (Int.le_refl _) (by omega), cntSs_congr k (j + 1) fun i' j' h1 h2 h3 h4 => h i' j' h1 h2 (by omega) (by omega)]
theorem cntS_zero {F : Fn2} {x y : Int} : ∀ (k : Nat) (i j : Int), (∀ i', i ≤ i' → i' < i + k → valBool (smp F x y i' j) = false) → cntS F x y j k i = 0
  | 0, _, _, _ => rfl
  | k + 1, i, j, h => by rw [cntS, h i (Int.le_refl _) (by omega), cntS_zero k (i + 1) j fun i' h1 h2 => h i' (by omega) (by omega)]; rfl
theorem cntSs_zero {F : Fn2} {x y : Int} : ∀ (k : Nat) (j : Int), (∀ i' j', 0 ≤ i' → i' < 16 → j ≤ j' → j' < j + k → valBool (smp F x y i' j') = false) → cntSs F x y k j = 0
  | 0, _, _ => rfl
  | k + 1, j, h => by rw [cntSs, cntS_zero 16 0 j fun i' h1 h2 => h i' j h1 (by omega) (Int.le_refl _) (by omega), cntSs_zero k (j + 1) fun i' j' h1 h2 h3 h4 => h i' j' h1 h2 (by omega) (by omega)]; rfl
theorem okS_all {F : Fn2} (hF : ∀ x y : Int, okBool (F [.int .i64 x, .int .i64 y]) = true) (x y j : Int) : ∀ (k : Nat) (i : Int), okS F x y j k i = true
  | 0, _ => rfl
  | k + 1, i => by rw [okS, smp, hF, okS_all hF x y j k (i + 1)]; rfl
theorem okSs_all {F : Fn2} (hF : ∀ x y : Int, okBool (F [.int .i64 x, .int .i64 y]) = true) (x y : Int) : ∀ (k : Nat) (j : Int), okSs F x y k j = true
  | 0, _ => rfl
  | k + 1, j => by rw [okSs, okS_all hF x y j 16 0, okSs_all hF x y k (j + 1)]; rfl
/-- Outside of the rectangle there is no sample of its ellipse. -/
theorem rnd_out {a b c d x y : Int} (hv : valid (a, b, c, d) = true) (hc : c ≤ 1024) (hd : d ≤ 1024) (hx : 0 ≤ x ∧ x < 256) (hy : 0 ≤ y ∧ y < 256) (hh : has (a, b, c, d) (x, y) = false) {i j : Int} (hi : 0 ≤ i ∧ i < 16) (hj : 0 ≤ j ∧ j < 16) : rnd (a, b, c, d) (W (W (16 * x) + i)) (W (W (16 * y) + j)) = false := by
  have hvv := (valid_iff a b c d).mp hv
  have hk : known (a, b, c, d) = (a, b, c, d) := by unfold known; rw [if_pos hv]
  unfold has at hh
  rw [hk] at hh
  have hh := of_decide_eq_false hh
  simp only at hh
  unfold rnd inEll
  simp only
  rw [W_small (n := 16 * x) (by omega) (by omega), W_small (n := 16 * y) (by omega) (by omega), W_small (n := 16 * x + i) (by omega) (by omega), W_small (n := 16 * y + j) (by omega) (by omega), W_small (n := 2 * (16 * x + i)) (by omega) (by omega), W_small (n := 2 * (16 * y + j)) (by omega) (by omega),
    W_small (n := 2 * (16 * x + i) + 1) (by omega) (by omega), W_small (n := 2 * (16 * y + j) + 1) (by omega) (by omega), W_small (n := 2 * a) (by omega) (by omega), W_small (n := 2 * b) (by omega) (by omega), W_small (n := 2 * a + c) (by omega) (by omega), W_small (n := 2 * b + d) (by omega) (by omega),
    W_small (n := 16 * (2 * a + c)) (by omega) (by omega), W_small (n := 16 * (2 * b + d)) (by omega) (by omega), W_small (n := 16 * c) (by omega) (by omega), W_small (n := 16 * d) (by omega) (by omega), W_small (n := 0 - 16 * c) (by omega) (by omega), W_small (n := 0 - 16 * d) (by omega) (by omega),
    W_small (n := 2 * (16 * x + i) + 1 - 16 * (2 * a + c)) (by omega) (by omega), W_small (n := 2 * (16 * y + j) + 1 - 16 * (2 * b + d)) (by omega) (by omega)]
  by_cases c1 : 2 * (16 * x + i) + 1 - 16 * (2 * a + c) < 0 - 16 * c
  · rw [decide_eq_true c1]; rfl
  by_cases c2 : 2 * (16 * x + i) + 1 - 16 * (2 * a + c) > 16 * c
  · rw [decide_eq_false c1, decide_eq_true c2]; rfl
  by_cases c3 : 2 * (16 * y + j) + 1 - 16 * (2 * b + d) < 0 - 16 * d
  · rw [decide_eq_false c1, decide_eq_false c2, decide_eq_true c3]; rfl
  by_cases c4 : 2 * (16 * y + j) + 1 - 16 * (2 * b + d) > 16 * d
  · rw [decide_eq_false c1, decide_eq_false c2, decide_eq_false c3, decide_eq_true c4]; rfl
  omega
theorem divP_zero : divP (65535 * 0) 256 = 0 := by decide
theorem refG_eq {r : Q} (hv : valid r = true) (hc : r.2.2.1 ≤ 1024) (hd : r.2.2.2 ≤ 1024) {x y : Int} (hx : 0 ≤ x ∧ x < 256) (hy : 0 ≤ y ∧ y < 256) : refG r x y = ellG r x y := by
  obtain ⟨a, b, c, d⟩ := r
  unfold refG ellG ellV
  cases he : empty (a, b, c, d)
  · cases hh : has (a, b, c, d) (x, y)
    · rw [cntSs_zero 16 0 fun i' j' h1 h2 h3 h4 => by
        show (!empty (a, b, c, d) && rnd (a, b, c, d) (W (W (16 * x) + i')) (W (W (16 * y) + j'))) = false
        rw [rnd_out hv hc hd hx hy hh ⟨h1, h2⟩ ⟨h3, by omega⟩, Bool.and_false]]
      exact divP_zero
    · rw [cntSs_congr (F' := fE (a, b, c, d)) 16 0 fun i' j' _ _ _ _ => by
        show (!empty (a, b, c, d) && rnd (a, b, c, d) (W (W (16 * x) + i')) (W (W (16 * y) + j'))) = rnd (a, b, c, d) (W (W (16 * x) + i')) (W (W (16 * y) + j'))
        rw [he]; rfl]
      rfl
  · rw [cntSs_zero 16 0 fun i' j' _ _ _ _ => by
      show (!empty (a, b, c, d) && rnd (a, b, c, d) (W (W (16 * x) + i')) (W (W (16 * y) + j'))) = false
      rw [he]; rfl]
    exact divP_zero
def ellM (w h : Int) (r : Q) : Mk × Int := if sizeE w h ≠ 0 then errM 15 else if valid r = false ∨ r.2.2.1 > 1024 ∨ r.2.2.2 > 1024 then errM 2 else ((w, h, rowsG (ellG r) w.toNat h.toNat 0), 0)
theorem rowG_congrR {g g' : Int → Int → Int} (y : Int) (w : Nat) (h : ∀ x : Int, 0 ≤ x → x < w → g x y = g' x y) : ∀ (k : Nat) (x : Int), 0 ≤ x → x + k ≤ w → rowG g y k x = rowG g' y k x
  | 0, _, _, _ => rfl
  | k + 1, x, h0, h1 => by rw [rowG, rowG, h x h0 (by omega), rowG_congrR y w h k (x + 1) (by omega) (by omega)]
theorem rowsG_congrR {g g' : Int → Int → Int} (w hh : Nat) (h : ∀ x y : Int, 0 ≤ x → x < w → 0 ≤ y → y < hh → g x y = g' x y) : ∀ (k : Nat) (y : Int), 0 ≤ y → y + k ≤ hh → rowsG g w k y = rowsG g' w k y
  | 0, _, _, _ => rfl
  | k + 1, y, h0, h1 => by rw [rowsG, rowsG, rowG_congrR y w (fun x a b => h x y a b h0 (by omega)) w 0 (Int.le_refl _) (by omega), rowsG_congrR w hh h k (y + 1) (by omega) (by omega)]
theorem ell_eq (w h a b c d : Int) (z : Option (AV × List AV)) (hz : sizeE w h = 0 → valid (a, b, c, d) = true → c ≤ 1024 → d ≤ 1024 → z = omv ((w, h, rowsG (ellG (a, b, c, d)) w.toNat h.toNat 0), 0)) :
    (bif sizeE w h != 0 then omv (errM 15) else bif !valid (a, b, c, d) then omv (errM 2) else bif decide (c > 1024) then omv (errM 2) else bif decide (d > 1024) then omv (errM 2) else z) = omv (ellM w h (a, b, c, d)) := by
  unfold ellM
  by_cases hc : sizeE w h = 0
  · rw [if_neg (fun h => h hc), bne_eq_false_iff_eq.mpr hc]
    cases hv : valid (a, b, c, d)
    · rw [if_pos (.inl rfl)]; rfl
    · by_cases h1 : c > 1024
      · rw [if_pos (.inr (.inl h1)), decide_eq_true h1]; rfl
      by_cases h2 : d > 1024
      · rw [if_pos (.inr (.inr h2)), decide_eq_false h1, decide_eq_true h2]; rfl
      rw [if_neg (by simp only [Bool.true_eq_false, false_or]; omega), decide_eq_false h1, decide_eq_false h2]
      exact hz hc hv (by omega) (by omega)
  · rw [if_pos hc, bne_iff_ne.mpr hc]; rfl
abbrev sEm : Spec := sp dIIQ fun a => mev (ellM a.1 a.2.1 a.2.2)
/-! ### The program's own -/
def L28 : List Entry := [(56, pS, sS), (46, pT dQ, sp dQ fun a => bw (valid a)), (48, pF, sF), (64, pT dKell, sEl), (65, pEl, sEp)]
@[reducible] def F64 (r : Q) : Fn2 := closure ((EG L28).ctx #[]) 64 [cq r.1 r.2.1 r.2.2.1 r.2.2.2, ci (W (16 * r.2.2.1)), ci (W (16 * r.2.2.2)), ci (W (W (W (W (16 * r.2.2.1) * W (16 * r.2.2.2)) * W (16 * r.2.2.1)) * W (16 * r.2.2.2)))]
@[reducible] def F65 (r : Q) : Fn2 := closure ((EG L28).ctx #[]) 65 [cq r.1 r.2.1 r.2.2.1 r.2.2.2, .cbox 70 [.fn (F64 r)]]
theorem t28 (w h a b c d : Int) : evalF (EG L28) Try.f28 [iv w, iv h, q4 a b c d] = bif sizeE w h != 0 then omv (errM (sizeE w h)) else bif !valid (a, b, c, d) then omv (errM 2) else bif decide (c > 1024) then omv (errM 2) else bif decide (d > 1024) then omv (errM 2) else
    bif decide (0 ≤ w ∧ w ≤ 256 ∧ h ≤ 256) && okRs (F65 (a, b, c, d)) w.toNat h.toNat 0 then omv ((w, h, rowsG (fI (F65 (a, b, c, d))) w.toNat h.toNat 0), 0) else none := by kernel_rfl
theorem F64_eq (r : Q) (x y : Int) : F64 r [.int .i64 x, .int .i64 y] = some (.bool (rnd r x y)) := by kernel_rfl
theorem F65_eq (r : Q) (x y : Int) : F65 r [.int .i64 x, .int .i64 y] = some (.int .i64 (ellG r x y)) := by
  have : F65 r [.int .i64 x, .int .i64 y] = (match (bif okSs (F64 r) x y 16 0 then some (iv (ellV r (F64 r) x y), []) else none : Option (AV × List AV)) with
    | some (.rv r, _) => toV r
    | _ => none) := by kernel_rfl
  rw [this, okSs_all (F := F64 r) (fun x y => by rw [F64_eq]; rfl)]
  have e : ellV r (F64 r) x y = ellG r x y := by
    unfold ellG ellV
    rw [cntSs_congr (F := F64 r) (F' := fE r) 16 0 fun i' j' _ _ _ _ => by unfold smp; rw [F64_eq]; rfl]
  rw [e]
  rfl
theorem m28 : Meets Try.prog 28 (gate (pT dIIQ) sEm) := mG (rdE (l := L28) (eg_cons m56 (eg_cons m46 (eg_cons m48 (eg_cons m64 (eg_cons m65 eg_nil))))) (fn := Try.f28) (k := 3) (by kernel_rfl) (by kernel_rfl) (of_decide_eq_true (by kernel_rfl)) (by kernel_rfl)) (fun _ _ => hIIQ) (fun _ => ⟨rfl, Nat.le_refl _⟩)
  fun ⟨w, h, a, b, c, d⟩ _ => (t28 w h a b c d).trans ((err15 w h _).trans (ell_eq w h a b c d _ fun hc _ _ _ => by
    have hs := (sizeE_iff w h).mp hc
    rw [decide_eq_true (by omega), okRs_of _ w.toNat h.toNat (fun x y _ _ _ _ => by rw [F65_eq]; rfl) h.toNat 0 (Int.le_refl _) (by omega), rowsG_congrR (g' := ellG (a, b, c, d)) w.toNat h.toNat (fun x y _ _ _ _ => by unfold fI; rw [F65_eq]; rfl) h.toNat 0 (Int.le_refl _) (by omega)]
    rfl))
/-! ### The reference's -/
@[reducible] def nQII (m : Q × Int × Int) : List AV := [qv m.1, iv m.2.1, iv m.2.2]
def dQII : List AV → Option (Q × Int × Int)
  | [.rv (.agg [.int .i64 a, .int .i64 b, .int .i64 c, .int .i64 d]), .rv (.sc (.int .i64 x)), .rv (.sc (.int .i64 y))] => some ((a, b, c, d), x, y)
  | _ => none
theorem hQII {us : List AV} {a} (h : dQII us = some a) : us = nQII a := by unfold dQII at h; split at h <;> cases h; rfl
theorem t67 (a b c d x y : Int) : evalF (EG []) Try.f67 [q4 a b c d, iv x, iv y] =
    let A := W (16 * c)
    let B := W (16 * d)
    let u := W (W (W (2 * x) + 1) - W (16 * W (W (2 * a) + c)))
    let v := W (W (W (2 * y) + 1) - W (16 * W (W (2 * b) + d)))
    bif decide (u < W (0 - A)) then ob false else bif decide (u > A) then ob false else bif decide (v < W (0 - B)) then ob false else bif decide (v > B) then ob false else
      ob (decide (W (W (W (W (u * B) * u) * B) + W (W (W (v * A) * v) * A)) ≤ W (W (W (A * B) * A) * B))) := by kernel_rfl
theorem m67 : Meets Try.prog 67 (gate (pT dQII) (sp dQII fun a => bw (rnd a.1 a.2.1 a.2.2))) := mG (rdE eg_nil (fn := Try.f67) (k := 3) (by kernel_rfl) (by kernel_rfl) (of_decide_eq_true (by kernel_rfl)) (by kernel_rfl)) (fun _ _ => hQII) (fun _ => ⟨rfl, Nat.le_refl _⟩)
  fun ⟨⟨a, b, c, d⟩, x, y⟩ _ => by
    refine (t67 a b c d x y).trans ?_
    simp only [cb]
    rfl
def L29 : List Entry := [(58, pS, sS2), (51, pT dQ, sp dQ fun a => bw (valid a)), (52, pT dQ, sp dQ fun a => bw (empty a)), (67, pT dQII, sp dQII fun a => bw (rnd a.1 a.2.1 a.2.2)), (68, pD, sp dII fun a => iv (divP a.1 a.2))]
def lp29y (st : St) (R : Type) (K : Ex → St → Option R) : Option R := req (decide (st.length = 80)) (gI st 0 fun w => gI st 1 fun h => gQ st 5 fun r => gB st 6 fun z => gB st 8 fun t => gI st 9 fun y =>
  req (decide (y = 0) && decide (t.2.2.length = 0) && decide (0 ≤ w ∧ w ≤ 256 ∧ h ≤ 256)) (K (.exit 0) (mk 80 [(6, bB z), (8, bB (t.1, t.2.1, rowsG (refG r) w.toNat h.toNat 0))])))
def lp29x (st : St) (R : Type) (K : Ex → St → Option R) : Option R := req (decide (st.length = 80)) (gI st 0 fun w => gI st 1 fun h => gQ st 5 fun r => gB st 6 fun z => gB st 8 fun t => gI st 9 fun y => gI st 10 fun x =>
  req (decide (x = 0) && decide (t.2.2.length ≤ 65536) && decide (w ≤ 256)) (K (.exit 2) (mk 80 [(0, iv w), (1, iv h), (5, bQ r), (6, bB z), (8, bB (t.1, t.2.1, t.2.2 ++ rowG (refG r) y w.toNat 0)), (9, iv y)])))
def lp29j (st : St) (R : Type) (K : Ex → St → Option R) : Option R := req (decide (st.length = 80)) (gI st 0 fun w => gI st 1 fun h => gQ st 5 fun r => gB st 6 fun z => gB st 8 fun t => gI st 9 fun y => gI st 10 fun x => gI st 11 fun n => gI st 12 fun j =>
  req (decide (j = 0) && decide (n = 0)) (K (.exit 4) (mk 80 [(0, iv w), (1, iv h), (5, bQ r), (6, bB z), (8, bB t), (9, iv y), (10, iv x), (11, iv (cntSs (fR r) x y 16 0))])))
def lp29i (st : St) (R : Type) (K : Ex → St → Option R) : Option R := req (decide (st.length = 80)) (gI st 0 fun w => gI st 1 fun h => gQ st 5 fun r => gB st 6 fun z => gB st 8 fun t => gI st 9 fun y => gI st 10 fun x => gI st 11 fun n => gI st 12 fun j => gI st 13 fun i =>
  req (decide (i = 0) && decide (0 ≤ n) && decide (n ≤ 240)) (K (.exit 6) (mk 80 [(0, iv w), (1, iv h), (5, bQ r), (6, bB z), (8, bB t), (9, iv y), (10, iv x), (11, iv (n + cntS (fR r) x y j 16 0)), (12, iv j)])))
def E29 : Env := { EG L29 with
  lv := fun id => match id with | 0 => [0, 1, 5, 6, 8, 9] | 2 => [0, 1, 5, 6, 8, 9, 10] | 4 => [0, 1, 5, 6, 8, 9, 10, 11, 12] | _ => [0, 1, 5, 6, 8, 9, 10, 11, 12, 13],
  lx := fun id => match id with | 0 => [6, 8] | 2 => [0, 1, 5, 6, 8, 9] | 4 => [0, 1, 5, 6, 8, 9, 10, 11] | _ => [0, 1, 5, 6, 8, 9, 10, 11, 12],
  lp := fun id => match id with | 0 => lp29y | 2 => lp29x | 4 => lp29j | _ => lp29i }
def st29y (w h : Int) (r : Q) (z t : Mk) (y : Int) : St := mk 80 [(0, iv w), (1, iv h), (5, bQ r), (6, bB z), (8, bB t), (9, iv y)]
def st29x (w h : Int) (r : Q) (z t : Mk) (y x : Int) : St := mk 80 [(0, iv w), (1, iv h), (5, bQ r), (6, bB z), (8, bB t), (9, iv y), (10, iv x)]
def st29j (w h : Int) (r : Q) (z t : Mk) (y x n j : Int) : St := mk 80 [(0, iv w), (1, iv h), (5, bQ r), (6, bB z), (8, bB t), (9, iv y), (10, iv x), (11, iv n), (12, iv j)]
def st29i (w h : Int) (r : Q) (z t : Mk) (y x n j i : Int) : St := mk 80 [(0, iv w), (1, iv h), (5, bQ r), (6, bB z), (8, bB t), (9, iv y), (10, iv x), (11, iv n), (12, iv j), (13, iv i)]
theorem b29i (w h : Int) (r : Q) (z t : Mk) (y x n j i : Int) : evalCode E29 (loopAt Try.f29 3) 6 (st29i w h r z t y x n j i) (kp E29 6) = bif decide (i < 16) then
    bif !empty r then bif rnd r (W (W (16 * x) + i)) (W (W (16 * y) + j)) then some (.normal, st29i w h r z t y x (W (n + 1)) j (W (i + 1))) else some (.normal, st29i w h r z t y x n j (W (i + 1))) else some (.normal, st29i w h r z t y x n j (W (i + 1)))
    else some (.exit 6, st29j w h r z t y x n j) := by kernel_rfl
theorem b29j (w h : Int) (r : Q) (z t : Mk) (y x n j : Int) : evalCode E29 (loopAt Try.f29 2) 4 (st29j w h r z t y x n j) (kp E29 4) = bif decide (j < 16) then
    bif decide ((0 : Int) = 0) && decide (0 ≤ n) && decide (n ≤ 240) then some (.normal, st29j w h r z t y x (n + cntS (fR r) x y j 16 0) (W (j + 1))) else none
    else some (.exit 4, mk 80 [(0, iv w), (1, iv h), (5, bQ r), (6, bB z), (8, bB t), (9, iv y), (10, iv x), (11, iv n)]) := by kernel_rfl
theorem b29x (w h : Int) (r : Q) (z t : Mk) (y x : Int) : evalCode E29 (loopAt Try.f29 1) 2 (st29x w h r z t y x) (kp E29 2) = bif decide (x < w) then
    bif decide ((0 : Int) = 0) && decide ((0 : Int) = 0) then
      bif decide (0 ≤ W (65535 * cntSs (fR r) x y 16 0) ∧ W (65535 * cntSs (fR r) x y 16 0) ≤ 4503599627370496 ∧ 1 ≤ (256 : Int) ∧ (256 : Int) ≤ 1099511627776) then
        bif decide (0 < [divP (W (65535 * cntSs (fR r) x y 16 0)) 256].length) && decide ((t.2.2 ++ [divP (W (65535 * cntSs (fR r) x y 16 0)) 256]).length * 8 ≤ 140737488355328) then
          some (.normal, st29x w h r z (t.1, t.2.1, t.2.2 ++ [divP (W (65535 * cntSs (fR r) x y 16 0)) 256]) y (W (x + 1))) else none else none else none
    else some (.exit 2, st29y w h r z t y) := by kernel_rfl
theorem b29y (w h : Int) (r : Q) (z t : Mk) (y : Int) : evalCode E29 (loopAt Try.f29 0) 0 (st29y w h r z t y) (kp E29 0) = bif decide (y < h) then
    bif decide ((0 : Int) = 0) && decide (t.2.2.length ≤ 65536) && decide (w ≤ 256) then some (.normal, st29y w h r z (t.1, t.2.1, t.2.2 ++ rowG (refG r) y w.toNat 0) (W (y + 1))) else none
    else some (.exit 0, mk 80 [(6, bB z), (8, bB t)]) := by kernel_rfl
theorem t29 (w h a b c d : Int) : evalF E29 Try.f29 [iv w, iv h, q4 a b c d] = bif !(sizeE w h == 0) then omv (errM 15) else bif !valid (a, b, c, d) then omv (errM 2) else bif decide (c > 1024) then omv (errM 2) else bif decide (d > 1024) then omv (errM 2) else
    bif decide ((0 : Int) = 0) && decide ([].length (α := Int) = 0) && decide (0 ≤ w ∧ w ≤ 256 ∧ h ≤ 256) then omv ((w, h, rowsG (refG (a, b, c, d)) w.toNat h.toNat 0), 0) else none := by kernel_rfl
theorem runs29i (w h : Int) (r : Q) (z t : Mk) (y x j : Int) : ∀ (k : Nat) (i n : Int), i + k = 16 → 0 ≤ n → n + k ≤ 1000 →
    Runs E29 6 (loopAt Try.f29 3) (st29i w h r z t y x n j i) (.exit 6) (st29j w h r z t y x (n + cntS (fR r) x y j k i) j) := by
  intro k
  induction k with
  | zero =>
    intro i n hi _ _
    refine .stop ?_ (by simp)
    rw [b29i, decide_eq_false (by omega), cntS, Int.add_zero]
    rfl
  | succ k ih =>
    intro i n hi h0 hn
    have hbd := b29i w h r z t y x n j i
    rw [decide_eq_true (by omega : i < 16), W_small (n := n + 1) (by omega) (by omega), W_small (n := i + 1) (by omega) (by omega)] at hbd
    rw [cntS, show valBool (smp (fR r) x y i j) = (!empty r && rnd r (W (W (16 * x) + i)) (W (W (16 * y) + j))) from rfl]
    cases he : empty r
    · cases hr : rnd r (W (W (16 * x) + i)) (W (W (16 * y) + j))
      · rw [he, hr] at hbd
        have := ih (i + 1) n (by omega) h0 (by omega)
        rw [if_neg (by decide), Int.zero_add]
        exact .step hbd this
      · rw [he, hr] at hbd
        have := ih (i + 1) (n + 1) (by omega) (by omega) (by omega)
        rw [if_pos (by decide), ← Int.add_assoc]
        exact .step hbd this
    · rw [he] at hbd
      have := ih (i + 1) n (by omega) h0 (by omega)
      rw [if_neg (by simp), Int.zero_add]
      exact .step hbd this
theorem runs29j (w h : Int) (r : Q) (z t : Mk) (y x : Int) : ∀ (k : Nat) (j n : Int), j + k = 16 → 0 ≤ n → n ≤ 16 * j →
    Runs E29 4 (loopAt Try.f29 2) (st29j w h r z t y x n j) (.exit 4) (mk 80 [(0, iv w), (1, iv h), (5, bQ r), (6, bB z), (8, bB t), (9, iv y), (10, iv x), (11, iv (n + cntSs (fR r) x y k j))]) := by
  intro k
  induction k with
  | zero =>
    intro i n hi _ _
    refine .stop ?_ (by simp)
    rw [b29j, decide_eq_false (by omega), cntSs, Int.add_zero]
    rfl
  | succ k ih =>
    intro j n hi h0 hn
    have hc := cntS_le (fR r) x y j 16 0
    have hbd := b29j w h r z t y x n j
    rw [decide_eq_true (by omega : j < 16), decide_eq_true h0, decide_eq_true (by omega : n ≤ 240), W_small (n := j + 1) (by omega) (by omega)] at hbd
    have := ih (j + 1) (n + cntS (fR r) x y j 16 0) (by omega) (by omega) (by omega)
    rw [Int.add_assoc] at this
    exact .step hbd this
theorem runs29x (w h : Int) (r : Q) (z : Mk) (p q y : Int) (hw : w ≤ 256) : ∀ (k : Nat) (x : Int) (l : List Int), x + k = w ∨ (k = 0 ∧ w ≤ x) → 0 ≤ x → l.length + k ≤ 131072 →
    Runs E29 2 (loopAt Try.f29 1) (st29x w h r z (p, q, l) y x) (.exit 2) (st29y w h r z (p, q, l ++ rowG (refG r) y k x) y) := by
  intro k
  induction k with
  | zero =>
    intro x l hx _ _
    refine .stop ?_ (by simp)
    rw [b29x, decide_eq_false (by omega), rowG, List.append_nil]
    rfl
  | succ k ih =>
    intro x l hx h0 hl
    have hc := cntSs_le (fR r) x y 16 0
    have hbd := b29x w h r z (p, q, l) y x
    have hlen : (l ++ [refG r x y]).length * 8 ≤ 140737488355328 := by rw [List.length_append, List.length_singleton]; omega
    rw [W_small (n := 65535 * cntSs (fR r) x y 16 0) (by omega) (by omega), show divP (65535 * cntSs (fR r) x y 16 0) 256 = refG r x y from rfl, decide_eq_true (by omega : x < w), decide_eq_true hlen,
      decide_eq_true (by omega : 0 ≤ 65535 * cntSs (fR r) x y 16 0 ∧ 65535 * cntSs (fR r) x y 16 0 ≤ 4503599627370496 ∧ 1 ≤ (256 : Int) ∧ (256 : Int) ≤ 1099511627776), W_small (n := x + 1) (by omega) (by omega)] at hbd
    have := ih (x + 1) (l ++ [refG r x y]) (by omega) (by omega) (by rw [List.length_append, List.length_singleton]; omega)
    rw [List.append_assoc] at this
    exact .step hbd this
theorem runs29y (w h : Int) (r : Q) (z : Mk) (p q : Int) (hr : 0 ≤ w ∧ w ≤ 256 ∧ h ≤ 256) : ∀ (k : Nat) (y : Int) (l : List Int), y + k = h ∨ (k = 0 ∧ h ≤ y) → 0 ≤ y → l.length + 256 * k ≤ 65536 →
    Runs E29 0 (loopAt Try.f29 0) (st29y w h r z (p, q, l) y) (.exit 0) (mk 80 [(6, bB z), (8, bB (p, q, l ++ rowsG (refG r) w.toNat k y))]) := by
  intro k
  induction k with
  | zero =>
    intro y l hx _ _
    refine .stop ?_ (by simp)
    rw [b29y, decide_eq_false (by omega), rowsG, List.append_nil]
    rfl
  | succ k ih =>
    intro y l hx h0 hl
    have hbd := b29y w h r z (p, q, l) y
    rw [decide_eq_true (by omega : y < h), decide_eq_true (by simp only; omega : (p, q, l).2.2.length ≤ 65536), decide_eq_true hr.2.1, W_small (n := y + 1) (by omega) (by omega)] at hbd
    have hl2 : (rowG (refG r) y w.toNat 0).length ≤ 256 := by rw [rowG_len]; omega
    have := ih (y + 1) (l ++ rowG (refG r) y w.toNat 0) (by omega) (by omega) (by rw [List.length_append]; omega)
    rw [List.append_assoc] at this
    exact .step hbd this
theorem loop29i : LoopOk E29 6 (loopAt Try.f29 3) := by
  intro st R K z h
  obtain ⟨hn, h⟩ := req_some h
  obtain ⟨w, e0, h⟩ := gI_some h
  obtain ⟨hh, e1, h⟩ := gI_some h
  obtain ⟨r, e2, h⟩ := gQ_some h
  obtain ⟨z0, e3, h⟩ := gB_some h
  obtain ⟨t, e4, h⟩ := gB_some h
  obtain ⟨y, e5, h⟩ := gI_some h
  obtain ⟨x, e6, h⟩ := gI_some h
  obtain ⟨n, e7, h⟩ := gI_some h
  obtain ⟨j, e8, h⟩ := gI_some h
  obtain ⟨i, e9, h⟩ := gI_some h
  obtain ⟨hc, h⟩ := req_some h
  simp only [Bool.and_eq_true, decide_eq_true_eq] at hc
  obtain ⟨⟨h1, h2⟩, h3⟩ := hc
  rw [keep_mk (of_decide_eq_true hn)]
  have e := runs29i w hh r z0 t y x j 16 0 n (by omega) h2 (by omega)
  have es : mk 80 ((E29.lv 6).map fun i => (i, getS (keep (E29.lv 6) st) i)) = st29i w hh r z0 t y x n j 0 := by
    show mk 80 [(0, getS (keep (E29.lv 6) st) 0), (1, getS (keep (E29.lv 6) st) 1), (5, getS (keep (E29.lv 6) st) 5), (6, getS (keep (E29.lv 6) st) 6), (8, getS (keep (E29.lv 6) st) 8), (9, getS (keep (E29.lv 6) st) 9), (10, getS (keep (E29.lv 6) st) 10), (11, getS (keep (E29.lv 6) st) 11), (12, getS (keep (E29.lv 6) st) 12), (13, getS (keep (E29.lv 6) st) 13)] = _
    rw [e0, e1, e2, e3, e4, e5, e6, e7, e8, e9, h1]
    rfl
  rw [es]
  exact ⟨_, _, e, h⟩
theorem loop29j : LoopOk E29 4 (loopAt Try.f29 2) := by
  intro st R K z h
  obtain ⟨hn, h⟩ := req_some h
  obtain ⟨w, e0, h⟩ := gI_some h
  obtain ⟨hh, e1, h⟩ := gI_some h
  obtain ⟨r, e2, h⟩ := gQ_some h
  obtain ⟨z0, e3, h⟩ := gB_some h
  obtain ⟨t, e4, h⟩ := gB_some h
  obtain ⟨y, e5, h⟩ := gI_some h
  obtain ⟨x, e6, h⟩ := gI_some h
  obtain ⟨n, e7, h⟩ := gI_some h
  obtain ⟨j, e8, h⟩ := gI_some h
  obtain ⟨hc, h⟩ := req_some h
  simp only [Bool.and_eq_true, decide_eq_true_eq] at hc
  obtain ⟨h1, h2⟩ := hc
  rw [keep_mk (of_decide_eq_true hn)]
  have e := runs29j w hh r z0 t y x 16 0 0 (by omega) (Int.le_refl _) (Int.le_refl _)
  have es : mk 80 ((E29.lv 4).map fun i => (i, getS (keep (E29.lv 4) st) i)) = st29j w hh r z0 t y x 0 0 := by
    show mk 80 [(0, getS (keep (E29.lv 4) st) 0), (1, getS (keep (E29.lv 4) st) 1), (5, getS (keep (E29.lv 4) st) 5), (6, getS (keep (E29.lv 4) st) 6), (8, getS (keep (E29.lv 4) st) 8), (9, getS (keep (E29.lv 4) st) 9), (10, getS (keep (E29.lv 4) st) 10), (11, getS (keep (E29.lv 4) st) 11), (12, getS (keep (E29.lv 4) st) 12)] = _
    rw [e0, e1, e2, e3, e4, e5, e6, e7, e8, h1, h2]
    rfl
  rw [es]
  rw [Int.zero_add] at e
  exact ⟨_, _, e, h⟩
theorem loop29x : LoopOk E29 2 (loopAt Try.f29 1) := by
  intro st R K z h
  obtain ⟨hn, h⟩ := req_some h
  obtain ⟨w, e0, h⟩ := gI_some h
  obtain ⟨hh, e1, h⟩ := gI_some h
  obtain ⟨r, e2, h⟩ := gQ_some h
  obtain ⟨z0, e3, h⟩ := gB_some h
  obtain ⟨t, e4, h⟩ := gB_some h
  obtain ⟨y, e5, h⟩ := gI_some h
  obtain ⟨x, e6, h⟩ := gI_some h
  obtain ⟨hc, h⟩ := req_some h
  simp only [Bool.and_eq_true, decide_eq_true_eq] at hc
  obtain ⟨⟨h1, h2⟩, h3⟩ := hc
  rw [keep_mk (of_decide_eq_true hn)]
  have e := runs29x w hh r z0 t.1 t.2.1 y h3 w.toNat 0 t.2.2 (by omega) (Int.le_refl _) (by omega)
  have es : mk 80 ((E29.lv 2).map fun i => (i, getS (keep (E29.lv 2) st) i)) = st29x w hh r z0 (t.1, t.2.1, t.2.2) y 0 := by
    show mk 80 [(0, getS (keep (E29.lv 2) st) 0), (1, getS (keep (E29.lv 2) st) 1), (5, getS (keep (E29.lv 2) st) 5), (6, getS (keep (E29.lv 2) st) 6), (8, getS (keep (E29.lv 2) st) 8), (9, getS (keep (E29.lv 2) st) 9), (10, getS (keep (E29.lv 2) st) 10)] = _
    rw [e0, e1, e2, e3, e4, e5, e6, h1]
    rfl
  rw [es]
  exact ⟨_, _, e, h⟩
theorem loop29y : LoopOk E29 0 (loopAt Try.f29 0) := by
  intro st R K z h
  obtain ⟨hn, h⟩ := req_some h
  obtain ⟨w, e0, h⟩ := gI_some h
  obtain ⟨hh, e1, h⟩ := gI_some h
  obtain ⟨r, e2, h⟩ := gQ_some h
  obtain ⟨z0, e3, h⟩ := gB_some h
  obtain ⟨t, e4, h⟩ := gB_some h
  obtain ⟨y, e5, h⟩ := gI_some h
  obtain ⟨hc, h⟩ := req_some h
  simp only [Bool.and_eq_true, decide_eq_true_eq] at hc
  obtain ⟨⟨h1, h2⟩, h3⟩ := hc
  rw [keep_mk (of_decide_eq_true hn)]
  have e := runs29y w hh r z0 t.1 t.2.1 h3 hh.toNat 0 [] (by omega) (Int.le_refl _) (by rw [List.length_nil]; omega)
  have es : mk 80 ((E29.lv 0).map fun i => (i, getS (keep (E29.lv 0) st) i)) = st29y w hh r z0 (t.1, t.2.1, []) 0 := by
    show mk 80 [(0, getS (keep (E29.lv 0) st) 0), (1, getS (keep (E29.lv 0) st) 1), (5, getS (keep (E29.lv 0) st) 5), (6, getS (keep (E29.lv 0) st) 6), (8, getS (keep (E29.lv 0) st) 8), (9, getS (keep (E29.lv 0) st) 9)] = _
    rw [e0, e1, e2, e3, e4, e5, h1, ← List.length_eq_zero_iff.mp h2]
    rfl
  rw [es]
  exact ⟨_, _, e, h⟩
theorem loops29 : loopsOf Try.f29 = [(0, loopAt Try.f29 0), (2, loopAt Try.f29 1), (4, loopAt Try.f29 2), (6, loopAt Try.f29 3)] := by kernel_rfl
theorem m29 : Meets Try.prog 29 (gate (pT dIIQ) sEm) := mG (rdL (e := E29) rfl (eg_cons m58 (eg_cons m51 (eg_cons m52 (eg_cons m67 (eg_cons m68 eg_nil))))) (fn := Try.f29) (k := 3) (by kernel_rfl) (by kernel_rfl) (of_decide_eq_true (by kernel_rfl)) loops29 (fun p hp => by
  rcases List.mem_cons.mp hp with h | hp
  · cases h; exact loop29y
  rcases List.mem_cons.mp hp with h | hp
  · cases h; exact loop29x
  rcases List.mem_cons.mp hp with h | hp
  · cases h; exact loop29j
  · cases List.mem_singleton.mp hp; exact loop29i)) (fun _ _ => hIIQ) (fun _ => ⟨rfl, Nat.le_refl _⟩)
  fun ⟨w, h, a, b, c, d⟩ _ => (t29 w h a b c d).trans ((err15b w h _).trans (ell_eq w h a b c d _ fun hc hv h1 h2 => by
    have hs := (sizeE_iff w h).mp hc
    rw [decide_eq_true (by omega : 0 ≤ w ∧ w ≤ 256 ∧ h ≤ 256), rowsG_congrR (g' := ellG (a, b, c, d)) w.toNat h.toNat (fun x y x0 x1 y0 y1 => refG_eq hv h1 h2 ⟨x0, by omega⟩ ⟨y0, by omega⟩) h.toNat 0 (Int.le_refl _) (by omega)]
    rfl))
end Go.Proofs.Ytkeildnpemiacaa.Ev

