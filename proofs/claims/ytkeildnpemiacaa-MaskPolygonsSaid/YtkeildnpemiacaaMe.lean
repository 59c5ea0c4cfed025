/- Rounded quotients, and the samples of an ellipse. Conditions: none. Printed by gen.py of this session. -/
import Derived.Test.YtkeildnpemiacaaMd
namespace Go.Proofs.Ytkeildnpemiacaa.Ev
open Go.Proofs
set_option linter.unusedVariables false
set_option linter.unusedSimpArgs false
set_option maxRecDepth 100000
set_option maxHeartbeats 1000000

abbrev pD : List AV → Bool := ps dII fun a => decide (0 ≤ a.1 ∧ a.1 ≤ 4503599627370496 ∧ 1 ≤ a.2 ∧ a.2 ≤ 1099511627776)
def divP (a b : Int) : Int := (2 * a + b) / (2 * b)
theorem t93 (a b : Int) : evalF (EG []) Try.f93 [iv a, iv b] = bif b == 0 then oi 0 else bif b == -1 then bif a == -9223372036854775808 then oi 9223372036854775807 else oi (W (0 - a)) else bif decide (b = 0) then none else bif decide (b = 0) then none else
    bif a.tmod b != 0 then bif decide (a < 0) != decide (b < 0) then oi (W (W (a.tdiv b) - 1)) else oi (W (a.tdiv b)) else oi (W (a.tdiv b)) := by kernel_rfl
theorem m93 : Meets Try.prog 93 (gate pD (sp dII fun a => iv (a.1 / a.2))) := mG (rdE eg_nil (fn := Try.f93) (k := 2) (by kernel_rfl) (by kernel_rfl) (of_decide_eq_true (by kernel_rfl)) (by kernel_rfl)) (fun _ _ => hII) (fun _ => ⟨rfl, Nat.le_refl _⟩)
  fun ⟨a, b⟩ hp => by
    have hp := of_decide_eq_true hp
    simp only at hp
    refine (t93 a b).trans ?_
    have e1 : a.tdiv b = a / b := Int.tdiv_eq_ediv_of_nonneg (by omega)
    have h0 : 0 ≤ a / b := Int.ediv_nonneg (by omega) (by omega)
    have h1 : a / b ≤ a := Int.ediv_le_self _ (by omega)
    rw [beq_eq_false_iff_ne.mpr (by omega : b ≠ 0), beq_eq_false_iff_ne.mpr (by omega : b ≠ -1), decide_eq_false (by omega : ¬ b = 0), decide_eq_false (by omega : ¬ a < 0), decide_eq_false (by omega : ¬ b < 0), e1, W_small (n := a / b) (by omega) (by omega)]
    cases a.tmod b != 0 <;> rfl
def L66 : List Entry := [(93, pD, sp dII fun a => iv (a.1 / a.2))]
theorem g66 : ∀ f, Meets Try.prog f ((EG L66).sp f) := eg_cons m93 eg_nil
def tail66 (fl : Int) (a b : Int) : Option (AV × List AV) := bif b == 0 then oi fl else bif b == -1 then oi fl else
  bif decide (b > 0) then bif decide (W (a - W (fl * b)) ≥ W (b - W (a - W (fl * b)))) then oi (W (fl + 1)) else
    bif decide (b < 0) then bif decide (W (a - W (fl * b)) ≤ W (b - W (a - W (fl * b)))) then oi (W (fl + 1)) else oi fl else oi fl
  else bif decide (b < 0) then bif decide (W (a - W (fl * b)) ≤ W (b - W (a - W (fl * b)))) then oi (W (fl + 1)) else oi fl else oi fl
theorem t66 (a b : Int) : evalF (EG L66) Try.f66 [iv a, iv b] = bif decide (0 ≤ a ∧ a ≤ 4503599627370496 ∧ 1 ≤ b ∧ b ≤ 1099511627776) then tail66 (a / b) a b else none := by kernel_rfl
theorem divP_eq {a b : Int} (hb : 1 ≤ b) : divP a b = if 2 * (a % b) ≥ b then a / b + 1 else a / b := by
  unfold divP
  have h1 := Int.mul_ediv_add_emod a b
  have h2 := Int.emod_nonneg a (by omega : b ≠ 0)
  have h3 := Int.emod_lt_of_pos a (by omega : 0 < b)
  have e : 2 * a + b = 2 * (a % b) + b + (a / b) * (2 * b) := by
    have : a / b * (2 * b) = 2 * (b * (a / b)) := by rw [Int.mul_comm (a / b), Int.mul_assoc]
    omega
  rw [e, Int.add_mul_ediv_right _ _ (by omega : 2 * b ≠ 0)]
  split
  · have : (2 * (a % b) + b) / (2 * b) = 1 := by
      rw [show 2 * (a % b) + b = 2 * (a % b) - b + 1 * (2 * b) by omega, Int.add_mul_ediv_right _ _ (by omega : 2 * b ≠ 0), Int.ediv_eq_zero_of_lt (by omega) (by omega)]
      rfl
    rw [this, Int.add_comm]
  · rw [Int.ediv_eq_zero_of_lt (by omega) (by omega), Int.zero_add]
theorem m66 : Meets Try.prog 66 (gate pD (sp dII fun a => iv (divP a.1 a.2))) := mG (rdE g66 (fn := Try.f66) (k := 2) (by kernel_rfl) (by kernel_rfl) (of_decide_eq_true (by kernel_rfl)) (by kernel_rfl)) (fun _ _ => hII) (fun _ => ⟨rfl, Nat.le_refl _⟩)
  fun ⟨a, b⟩ hp => by
    have hp' := of_decide_eq_true hp
    simp only at hp'
    refine (t66 a b).trans ?_
    rw [decide_eq_true hp']
    have h1 := Int.mul_ediv_add_emod a b
    have h2 := Int.emod_nonneg a (by omega : b ≠ 0)
    have h3 := Int.emod_lt_of_pos a (by omega : 0 < b)
    have h4 : 0 ≤ a / b := Int.ediv_nonneg (by omega) (by omega)
    have h5 : a / b ≤ a := Int.ediv_le_self _ (by omega)
    have h6 : 0 ≤ b * (a / b) := Int.mul_nonneg (by omega) h4
    show tail66 (a / b) a b = oi (divP a b)
    unfold tail66
    rw [divP_eq (by omega), Int.mul_comm (a / b) b, W_small (n := b * (a / b)) (by omega) (by omega), W_small (n := a - b * (a / b)) (by omega) (by omega), show a - b * (a / b) = a % b by omega, W_small (n := b - a % b) (by omega) (by omega), W_small (n := a / b + 1) (by omega) (by omega),
      beq_eq_false_iff_ne.mpr (by omega : b ≠ 0), beq_eq_false_iff_ne.mpr (by omega : b ≠ -1), decide_eq_true (by omega : b > 0), decide_eq_false (by omega : ¬ b < 0)]
    by_cases c : 2 * (a % b) ≥ b
    · rw [decide_eq_true (by omega), if_pos c]; rfl
    · rw [decide_eq_false (by omega), if_neg c]; rfl
def inEll (x y : Int) (r : Q) (A B C : Int) : Bool :=
  let u := W (W (W (2 * x) + 1) - W (16 * W (W (2 * r.1) + r.2.2.1)))
  let v := W (W (W (2 * y) + 1) - W (16 * W (W (2 * r.2.1) + r.2.2.2)))
  bif decide (u < W (0 - A)) then false else bif decide (u > A) then false else bif decide (v < W (0 - B)) then false else bif decide (v > B) then false else
    decide (W (W (W (W (u * B) * u) * B) + W (W (W (v * A) * v) * A)) ≤ C)
theorem t64 (x y a b c d A B C : Int) : evalF (EG []) Try.f64 (nKell (x, y, (a, b, c, d), A, B, C)) =
    let u := W (W (W (2 * x) + 1) - W (16 * W (W (2 * a) + c)))
    let v := W (W (W (2 * y) + 1) - W (16 * W (W (2 * b) + d)))
    bif decide (u < W (0 - A)) then ob false else bif decide (u > A) then ob false else bif decide (v < W (0 - B)) then ob false else bif decide (v > B) then ob false else
      ob (decide (W (W (W (W (u * B) * u) * B) + W (W (W (v * A) * v) * A)) ≤ C)) := by kernel_rfl
abbrev sEl : Spec := sp dKell fun a => bw (inEll a.1 a.2.1 a.2.2.1 a.2.2.2.1 a.2.2.2.2.1 a.2.2.2.2.2)
theorem m64 : Meets Try.prog 64 (gate (pT dKell) sEl) := mG (rdE eg_nil (fn := Try.f64) (k := 6) (by kernel_rfl) (by kernel_rfl) (of_decide_eq_true (by kernel_rfl)) (by kernel_rfl)) (fun _ _ => hKell) (fun _ => ⟨rfl, Nat.le_refl _⟩)
  fun ⟨x, y, ⟨a, b, c, d⟩, A, B, C⟩ _ => by
    refine (t64 x y a b c d A B C).trans ?_
    simp only [cb]
    rfl
def gC (st : St) (t : Nat) {R : Type} (K : Fn2 → Option R) : Option R := match getS st t with
  | .cbox 70 [.fn F] => K F
  | _ => none
@[reducible] def bC (F : Fn2) : AV := .cbox 70 [.fn F]
/-! ### The samples of a pixel -/
def smp (F : Fn2) (x y i j : Int) : Option Value := F [.int .i64 (W (W (16 * x) + i)), .int .i64 (W (W (16 * y) + j))]
def okS (F : Fn2) (x y j : Int) : Nat → Int → Bool
  | 0, _ => true
  | k + 1, i => okBool (smp F x y i j) && okS F x y j k (i + 1)
def okSs (F : Fn2) (x y : Int) : Nat → Int → Bool
  | 0, _ => true
  | k + 1, j => okS F x y j 16 0 && okSs F x y k (j + 1)
def cntS (F : Fn2) (x y j : Int) : Nat → Int → Int
  | 0, _ => 0
  | k + 1, i => (if valBool (smp F x y i j) = true then 1 else 0) + cntS F x y j k (i + 1)
def cntSs (F : Fn2) (x y : Int) : Nat → Int → Int
  | 0, _ => 0
  | k + 1, j => cntS F x y j 16 0 + cntSs F x y k (j + 1)
def lp65i (st : St) (R : Type) (K : Ex → St → Option R) : Option R := req (decide (st.length = 43)) (gI st 0 fun x => gI st 1 fun y => gC st 3 fun F => gI st 7 fun n => gI st 8 fun j => gI st 20 fun jj => gI st 23 fun i =>
  req (decide (i = 0) && decide (0 ≤ n) && decide (n ≤ 240) && okS F x y j 16 0) (K (.exit 2) (mk 43 [(0, iv x), (1, iv y), (3, bC F), (7, iv (n + cntS F x y j 16 0)), (20, iv jj)])))
def lp65o (st : St) (R : Type) (K : Ex → St → Option R) : Option R := req (decide (st.length = 43)) (gI st 0 fun x => gI st 1 fun y => gC st 3 fun F => gI st 7 fun n => gI st 20 fun j =>
  req (decide (j = 0) && decide (n = 0) && okSs F x y 16 0) (K (.exit 0) (mk 43 [(7, iv (cntSs F x y 16 0))])))
theorem gC_some {st : St} {t : Nat} {R : Type} {r : R} {K : Fn2 → Option R} (h : gC st t K = some r) : ∃ n, getS st t = bC n ∧ K n = some r := by
  unfold gC at h
  split at h
  · exact ⟨_, ‹_›, h⟩
  · cases h
def L65 : List Entry := [(47, pT dQ, sp dQ fun a => bw (empty a)), (62, pT dQP, sp dQP fun a => bw (has a.1 a.2)), (66, pD, sp dII fun a => iv (divP a.1 a.2))]
theorem g65 : ∀ f, Meets Try.prog f ((EG L65).sp f) := eg_cons m47 (eg_cons m62 (eg_cons m66 eg_nil))
def E65 : Env := { EG L65 with lv := fun id => match id with | 0 => [0, 1, 3, 7, 20] | _ => [0, 1, 3, 7, 8, 20, 23], lx := fun id => match id with | 0 => [7] | _ => [0, 1, 3, 7, 20], lp := fun id => match id with | 0 => lp65o | _ => lp65i }
def st65i (x y : Int) (F : Fn2) (n j jj i : Int) : St := mk 43 [(0, iv x), (1, iv y), (3, bC F), (7, iv n), (8, iv j), (20, iv jj), (23, iv i)]
def st65o (x y : Int) (F : Fn2) (n j : Int) : St := mk 43 [(0, iv x), (1, iv y), (3, bC F), (7, iv n), (20, iv j)]
theorem b65i (x y : Int) (F : Fn2) (n j jj i : Int) : evalCode E65 (loopAt Try.f65 1) 2 (st65i x y F n j jj i) (kp E65 2) = bif decide (i < 16) then bif okBool (smp F x y i j) then
    bif valBool (smp F x y i j) then some (.normal, st65i x y F (W (n + 1)) j jj (W (i + 1))) else some (.normal, st65i x y F n j jj (W (i + 1))) else none
    else some (.exit 2, mk 43 [(0, iv x), (1, iv y), (3, bC F), (7, iv n), (20, iv jj)]) := by kernel_rfl
theorem b65o (x y : Int) (F : Fn2) (n j : Int) : evalCode E65 (loopAt Try.f65 0) 0 (st65o x y F n j) (kp E65 0) = bif decide (j < 16) then
    bif decide ((0 : Int) = 0) && decide (0 ≤ n) && decide (n ≤ 240) && okS F x y j 16 0 then some (.normal, st65o x y F (n + cntS F x y j 16 0) (W (j + 1))) else none
    else some (.exit 0, mk 43 [(7, iv n)]) := by kernel_rfl
theorem cntS_le (F : Fn2) (x y j : Int) : ∀ (k : Nat) (i : Int), 0 ≤ cntS F x y j k i ∧ cntS F x y j k i ≤ k
  | 0, _ => ⟨Int.le_refl _, Int.le_refl _⟩
  | k + 1, i => by
    have := cntS_le F x y j k (i + 1)
    rw [cntS]
    split <;> omega
theorem cntSs_le (F : Fn2) (x y : Int) : ∀ (k : Nat) (j : Int), 0 ≤ cntSs F x y k j ∧ cntSs F x y k j ≤ 16 * k
  | 0, _ => ⟨Int.le_refl _, Int.le_refl _⟩
  | k + 1, j => by
    have := cntSs_le F x y k (j + 1)
    have := cntS_le F x y j 16 0
    rw [cntSs]
    omega
theorem runs65i (x y : Int) (F : Fn2) (j jj : Int) : ∀ (k : Nat) (i n : Int), i + k = 16 → 0 ≤ n → n + k ≤ 1000 → okS F x y j k i = true →
    Runs E65 2 (loopAt Try.f65 1) (st65i x y F n j jj i) (.exit 2) (mk 43 [(0, iv x), (1, iv y), (3, bC F), (7, iv (n + cntS F x y j k i)), (20, iv jj)]) := by
  intro k
  induction k with
  | zero =>
    intro i n hi _ _ _
    refine .stop ?_ (by simp)
    rw [b65i, decide_eq_false (by omega), cntS, Int.add_zero]
    rfl
  | succ k ih =>
    intro i n hi h0 hn ho
    simp only [okS, Bool.and_eq_true] at ho
    have hbd := b65i x y F n j jj i
    rw [decide_eq_true (by omega : i < 16), ho.1, W_small (n := n + 1) (by omega) (by omega), W_small (n := i + 1) (by omega) (by omega)] at hbd
    rw [cntS]
    cases hv : valBool (smp F x y i j)
    · rw [hv] at hbd
      have := ih (i + 1) n (by omega) h0 (by omega) ho.2
      rw [if_neg (by decide), Int.zero_add]
      exact .step hbd this
    · rw [hv] at hbd
      have := ih (i + 1) (n + 1) (by omega) (by omega) (by omega) ho.2
      rw [if_pos rfl, ← Int.add_assoc]
      exact .step hbd this
theorem runs65o (x y : Int) (F : Fn2) : ∀ (k : Nat) (j n : Int), j + k = 16 → 0 ≤ n → n ≤ 16 * j → okSs F x y k j = true →
    Runs E65 0 (loopAt Try.f65 0) (st65o x y F n j) (.exit 0) (mk 43 [(7, iv (n + cntSs F x y k j))]) := by
  intro k
  induction k with
  | zero =>
    intro i n hi _ _ _
    refine .stop ?_ (by simp)
    rw [b65o, decide_eq_false (by omega), cntSs, Int.add_zero]
    rfl
  | succ k ih =>
    intro j n hi h0 hn ho
    simp only [okSs, Bool.and_eq_true] at ho
    have hc := cntS_le F x y j 16 0
    have hbd := b65o x y F n j
    rw [decide_eq_true (by omega : j < 16), decide_eq_true h0, decide_eq_true (by omega : n ≤ 240), ho.1, W_small (n := j + 1) (by omega) (by omega)] at hbd
    have := ih (j + 1) (n + cntS F x y j 16 0) (by omega) (by omega) (by omega) ho.2
    rw [Int.add_assoc] at this
    exact .step hbd this
theorem loop65i : LoopOk E65 2 (loopAt Try.f65 1) := by
  intro st R K z h
  obtain ⟨hn, h⟩ := req_some h
  obtain ⟨x, e0, h⟩ := gI_some h
  obtain ⟨y, e1, h⟩ := gI_some h
  obtain ⟨F, e2, h⟩ := gC_some h
  obtain ⟨n, e3, h⟩ := gI_some h
  obtain ⟨j, e4, h⟩ := gI_some h
  obtain ⟨jj, e5, h⟩ := gI_some h
  obtain ⟨i, e6, h⟩ := gI_some h
  obtain ⟨hc, h⟩ := req_some h
  simp only [Bool.and_eq_true, decide_eq_true_eq] at hc
  obtain ⟨⟨⟨h1, h2⟩, h3⟩, h4⟩ := hc
  rw [keep_mk (of_decide_eq_true hn)]
  have e := runs65i x y F j jj 16 0 n (by omega) h2 (by omega) h4
  have es : mk 43 ((E65.lv 2).map fun i => (i, getS (keep (E65.lv 2) st) i)) = st65i x y F n j jj 0 := by
    show mk 43 [(0, getS (keep (E65.lv 2) st) 0), (1, getS (keep (E65.lv 2) st) 1), (3, getS (keep (E65.lv 2) st) 3), (7, getS (keep (E65.lv 2) st) 7), (8, getS (keep (E65.lv 2) st) 8), (20, getS (keep (E65.lv 2) st) 20), (23, getS (keep (E65.lv 2) st) 23)] = _
    rw [e0, e1, e2, e3, e4, e5, e6, h1]
    rfl
  rw [es]
  exact ⟨_, _, e, h⟩
theorem loop65o : LoopOk E65 0 (loopAt Try.f65 0) := by
  intro st R K z h
  obtain ⟨hn, h⟩ := req_some h
  obtain ⟨x, e0, h⟩ := gI_some h
  obtain ⟨y, e1, h⟩ := gI_some h
  obtain ⟨F, e2, h⟩ := gC_some h
  obtain ⟨n, e3, h⟩ := gI_some h
  obtain ⟨j, e4, h⟩ := gI_some h
  obtain ⟨hc, h⟩ := req_some h
  simp only [Bool.and_eq_true, decide_eq_true_eq] at hc
  obtain ⟨⟨h1, h2⟩, h3⟩ := hc
  rw [keep_mk (of_decide_eq_true hn)]
  have e := runs65o x y F 16 0 0 (by omega) (Int.le_refl _) (Int.le_refl _) h3
  have es : mk 43 ((E65.lv 0).map fun i => (i, getS (keep (E65.lv 0) st) i)) = st65o x y F 0 0 := by
    show mk 43 [(0, getS (keep (E65.lv 0) st) 0), (1, getS (keep (E65.lv 0) st) 1), (3, getS (keep (E65.lv 0) st) 3), (7, getS (keep (E65.lv 0) st) 7), (20, getS (keep (E65.lv 0) st) 20)] = _
    rw [e0, e1, e2, e3, e4, h1, h2]
    rfl
  rw [es]
  rw [Int.zero_add] at e
  exact ⟨_, _, e, h⟩
theorem t65 (x y a b c d : Int) (F : Fn2) : evalF E65 Try.f65 (nKqf (x, y, (a, b, c, d), F)) = bif empty (a, b, c, d) then oi 0 else bif !has (a, b, c, d) (x, y) then oi 0 else bif decide ((0 : Int) = 0) && decide ((0 : Int) = 0) && okSs F x y 16 0 then
    bif decide (0 ≤ W (65535 * cntSs F x y 16 0) ∧ W (65535 * cntSs F x y 16 0) ≤ 4503599627370496 ∧ 1 ≤ (256 : Int) ∧ (256 : Int) ≤ 1099511627776) then oi (divP (W (65535 * cntSs F x y 16 0)) 256) else none else none := by kernel_rfl
def ellV (r : Q) (F : Fn2) (x y : Int) : Int := bif empty r then 0 else bif has r (x, y) then divP (65535 * cntSs F x y 16 0) 256 else 0
abbrev pEl : List AV → Bool := ps dKqf fun a => okSs a.2.2.2 a.1 a.2.1 16 0
abbrev sEp : Spec := sp dKqf fun a => iv (ellV a.2.2.1 a.2.2.2 a.1 a.2.1)
theorem m65 : Meets Try.prog 65 (gate pEl sEp) := mG (rdL (e := E65) rfl g65 (fn := Try.f65) (k := 4) (by kernel_rfl) (by kernel_rfl) (of_decide_eq_true (by kernel_rfl)) (show loopsOf Try.f65 = [(0, loopAt Try.f65 0), (2, loopAt Try.f65 1)] by kernel_rfl) (fun p hp => by
  rcases List.mem_cons.mp hp with h | h
  · cases h; exact loop65o
  · cases List.mem_singleton.mp h; exact loop65i)) (fun _ _ => hKqf) (fun _ => ⟨rfl, Nat.le_refl _⟩)
  fun ⟨x, y, ⟨a, b, c, d⟩, F⟩ hp => by
    have hp' : okSs F x y 16 0 = true := hp
    refine (t65 x y a b c d F).trans ?_
    have hc := cntSs_le F x y 16 0
    rw [hp', W_small (n := 65535 * cntSs F x y 16 0) (by omega) (by omega), decide_eq_true (by omega : 0 ≤ 65535 * cntSs F x y 16 0 ∧ 65535 * cntSs F x y 16 0 ≤ 4503599627370496 ∧ 1 ≤ (256 : Int) ∧ (256 : Int) ≤ 1099511627776)]
    show _ = oi (ellV (a, b, c, d) F x y)
    unfold ellV
    cases empty (a, b, c, d)
    · cases has (a, b, c, d) (x, y) <;> rfl
    · rfl
end Go.Proofs.Ytkeildnpemiacaa.Ev

