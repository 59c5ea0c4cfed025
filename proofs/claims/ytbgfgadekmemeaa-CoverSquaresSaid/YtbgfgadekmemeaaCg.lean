/- The reference's coverage of a pixel. Conditions: none. Printed by gen.py of this session. -/
import Derived.Test.YtbgfgadekmemeaaCf
namespace Go.Proofs.Ytbgfgadekmemeaa.Ev
open Go.Proofs
set_option linter.unusedVariables false
set_option linter.unusedSimpArgs false
set_option maxRecDepth 100000
set_option maxHeartbeats 1000000

/-! ### An edge and a sample -/
/-- What an edge counts at a sample. -/
def crw (p q : Pt) (x y : Int) : Int := bif decide (lo2 p.2 q.2 > y) then 0 else bif decide (hi2 p.2 q.2 ≤ y) then 0 else bif decide (x < crs p q y) then (bif decide (p.2 > q.2) then -1 else 1) else 0
def lhsR (a b c d y : Int) : Int := W (W (W (2 * a) * W (d - b)) + W (W (W (W (2 * y) + 1) - W (2 * b)) * W (c - a)))
def rhsR (b d x : Int) : Int := W (W (W (2 * x) + 1) * W (d - b))
theorem tCw (a b c d x y : Int) : evalF (EG []) Try.f61 [p2 a b, p2 c d, iv x, iv y] = bif decide (b > d) then
      bif decide (d > y) then oi 0 else bif decide (b ≤ y) then oi 0 else bif decide (lhsR c d a b y > rhsR d b x) then oi (-1) else oi 0
    else bif decide (b > y) then oi 0 else bif decide (d ≤ y) then oi 0 else bif decide (lhsR a b c d y > rhsR b d x) then oi 1 else oi 0 := by kernel_rfl
def okC (x : Int) : Bool := decide (-67108864 ≤ x ∧ x ≤ 67108864)
abbrev pCw : List AV → Bool := ps dPPII fun a => okP a.1 && okP a.2.1 && okC a.2.2.1 && okC a.2.2.2
abbrev sCw : Spec := sp dPPII fun a => iv (crw a.1 a.2.1 a.2.2.1 a.2.2.2)
/-- Left of an edge that goes down. -/
theorem left_iff {a b c d x y : Int} (h : b < d) : (2 * a * (d - b) + (2 * y + 1 - 2 * b) * (c - a) > (2 * x + 1) * (d - b)) ↔ x < crs (a, b) (c, d) y := by
  unfold crs nmr
  simp only
  rw [decide_eq_false (by omega : ¬ d < b), cond_false]
  generalize 2 * a * (d - b) + (2 * y + 1 - 2 * b) * (c - a) = N
  have e : x < -(-(N - (d - b)) / (2 * (d - b))) ↔ -(N - (d - b)) / (2 * (d - b)) < -x := by omega
  rw [e, Int.ediv_lt_iff_lt_mul (by omega : 0 < 2 * (d - b))]
  have e2 : -x * (2 * (d - b)) = -(2 * (x * (d - b))) := by rw [Int.neg_mul, Int.mul_left_comm]
  have e3 : (2 * x + 1) * (d - b) = 2 * (x * (d - b)) + (d - b) := by rw [Int.add_mul, Int.mul_assoc, Int.one_mul]
  rw [e2, e3]
  omega
/-- The same edge the other way round. -/
theorem crs_swap {a b c d y : Int} (h : b < d) : crs (c, d) (a, b) y = crs (a, b) (c, d) y := by
  unfold crs nmr
  simp only
  rw [decide_eq_true (by omega : b < d), decide_eq_false (by omega : ¬ d < b), cond_true, cond_false]
  have e : 2 * c * (b - d) + (2 * y + 1 - 2 * d) * (a - c) - (b - d) = -(2 * a * (d - b) + (2 * y + 1 - 2 * b) * (c - a) - (d - b)) := by
    simp only [Int.mul_sub, Int.sub_mul, Int.add_mul, Int.mul_assoc]
    have f1 := Int.mul_comm a d
    have f2 := Int.mul_comm b c
    have f3 := Int.mul_comm a b
    have f4 := Int.mul_comm c d
    omega
  rw [e]
theorem sides_le {a b c d y : Int} (hp : okP (a, b) = true) (hq : okP (c, d) = true) (hy : okC y = true) : lhsR a b c d y = 2 * a * (d - b) + (2 * y + 1 - 2 * b) * (c - a) := by
  rw [okP_iff] at hp hq
  have hy := of_decide_eq_true hy
  obtain ⟨e1, e2⟩ := mul_abs (x := 2 * a) (y := d - b) (X := 33554432) (Y := 33554432) (by omega) (by omega) (by omega) (by omega)
  obtain ⟨e3, e4⟩ := mul_abs (x := 2 * y + 1 - 2 * b) (y := c - a) (X := 268435456) (Y := 33554432) (by omega) (by omega) (by omega) (by omega)
  unfold lhsR
  rw [W_small (n := 2 * a) (by omega) (by omega), W_small (n := d - b) (by omega) (by omega), W_small (n := 2 * y) (by omega) (by omega), W_small (n := 2 * y + 1) (by omega) (by omega), W_small (n := 2 * b) (by omega) (by omega), W_small (n := 2 * y + 1 - 2 * b) (by omega) (by omega), W_small (n := c - a) (by omega) (by omega),
    W_small (n := 2 * a * (d - b)) (by omega) (by omega), W_small (n := (2 * y + 1 - 2 * b) * (c - a)) (by omega) (by omega), W_small (n := 2 * a * (d - b) + (2 * y + 1 - 2 * b) * (c - a)) (by omega) (by omega)]
theorem rhs_le {a b c d x : Int} (hp : okP (a, b) = true) (hq : okP (c, d) = true) (hx : okC x = true) : rhsR b d x = (2 * x + 1) * (d - b) := by
  rw [okP_iff] at hp hq
  have hx := of_decide_eq_true hx
  obtain ⟨e1, e2⟩ := mul_abs (x := 2 * x + 1) (y := d - b) (X := 268435456) (Y := 33554432) (by omega) (by omega) (by omega) (by omega)
  unfold rhsR
  rw [W_small (n := 2 * x) (by omega) (by omega), W_small (n := 2 * x + 1) (by omega) (by omega), W_small (n := d - b) (by omega) (by omega), W_small (by omega) (by omega)]
theorem mCw : Meets Try.prog 61 (gate pCw sCw) := mG (rdE eg_nil (fn := Try.f61) (k := 4) (by kernel_rfl) (by kernel_rfl) (of_decide_eq_true (by kernel_rfl)) (by kernel_rfl)) (fun _ _ => hPPII) (fun _ => ⟨rfl, Nat.le_refl _⟩)
  fun ⟨⟨a, b⟩, ⟨c, d⟩, x, y⟩ hp => by
    simp only [Bool.and_eq_true] at hp
    obtain ⟨⟨⟨hp, hq⟩, hx⟩, hy⟩ := hp
    refine (tCw a b c d x y).trans ?_
    show _ = oi (crw (a, b) (c, d) x y)
    unfold crw lo2 hi2
    simp only
    by_cases h : b > d
    · rw [decide_eq_true h, if_pos (by omega : d < b), if_neg (by omega : ¬ d > b), sides_le hq hp hy, rhs_le hq hp hx]
      have e := left_iff (a := c) (c := a) (x := x) (y := y) (by omega : d < b)
      rw [← crs_swap (a := c) (b := d) (c := a) (d := b) (y := y) (by omega)] at e
      rw [decide_eq_decide.mpr e]
      cases decide (d > y) <;> cases decide (b ≤ y) <;> cases decide (x < crs (a, b) (c, d) y) <;> rfl
    · rw [decide_eq_false h, if_neg (by omega : ¬ d < b), sides_le hp hq hy, rhs_le hp hq hx]
      by_cases h2 : b = d
      · subst h2
        rw [if_neg (by omega : ¬ b > b)]
        by_cases c1 : b > y
        · rw [decide_eq_true c1]; rfl
        · rw [decide_eq_false c1, decide_eq_true (by omega : b ≤ y)]; rfl
      · rw [if_pos (by omega : d > b)]
        have e := left_iff (a := a) (c := c) (x := x) (y := y) (by omega : b < d)
        rw [decide_eq_decide.mpr e]
        cases decide (b > y) <;> cases decide (d ≤ y) <;> cases decide (x < crs (a, b) (c, d) y) <;> rfl
/-! ### The turns around a sample -/
def accL (l : List Pt) (x y : Int) : Nat → Nat → Int → Int
  | 0, _, n => n
  | k + 1, i, n => accL l x y k (i + 1) (W (n + crw (l.getD i (0, 0)) (l.getD (nx l i) (0, 0)) x y))
def accP (x y : Int) : Ps → Int → Int
  | [], n => n
  | l :: ls, n => accP x y ls (accL l x y l.length 0 n)
def wnd (ps : Ps) (x y : Int) : Int := accP x y ps 0
@[reducible] def nPRII (a : Ps × Int × Int × Int) : List AV := [plv a.1, iv a.2.1, iv a.2.2.1, iv a.2.2.2]
def dPRII : List AV → Option (Ps × Int × Int × Int)
  | [.rv (.sc (.sl none (.polys l))), .rv (.sc (.int .i64 b)), .rv (.sc (.int .i64 x)), .rv (.sc (.int .i64 y))] => some (l, b, x, y)
  | _ => none
theorem hPRII {us : List AV} {a} (h : dPRII us = some a) : us = nPRII a := by unfold dPRII at h; split at h <;> cases h; rfl
def okSm (ps : Ps) (x y : Int) : Bool := shortPs ps && allPts ps && okC x && okC y
def lp106a (st : St) (R : Type) (K : Ex → St → Option R) : Option R := req (decide (st.length = 53)) (gPl st 0 fun ps => gI st 1 fun rule => gI st 2 fun x => gI st 3 fun y => gI st 9 fun n => gI st 10 fun i =>
  req (decide (i = 0 ∧ n = 0) && okSm ps x y) (K (.exit 0) (mk 53 [(1, iv rule), (9, iv (wnd ps x y))])))
def lp106b (st : St) (R : Type) (K : Ex → St → Option R) : Option R := req (decide (st.length = 53)) (gPl st 0 fun ps => gI st 1 fun rule => gI st 2 fun x => gI st 3 fun y => gI st 9 fun n => gI st 10 fun i => gPs st 11 fun l => gI st 12 fun j =>
  req (decide (j = 0 ∧ l.length < 4611686018427387904) && okPts l && okC x && okC y) (K (.exit 2) (mk 53 [(0, plv ps), (1, iv rule), (2, iv x), (3, iv y), (9, iv (accL l x y l.length 0 n)), (10, iv i)])))
def E106 : Env := { EG [(61, pCw, sCw)] with lv := fun id => match id with | 0 => [0, 1, 2, 3, 9, 10] | _ => [0, 1, 2, 3, 9, 10, 11, 12], lx := fun id => match id with | 0 => [1, 9] | _ => [0, 1, 2, 3, 9, 10], lp := fun id => match id with | 0 => lp106a | _ => lp106b }
def st106a (ps : Ps) (rule x y n i : Int) : St := mk 53 [(0, plv ps), (1, iv rule), (2, iv x), (3, iv y), (9, iv n), (10, iv i)]
def st106b (ps : Ps) (rule x y n i : Int) (l : List Pt) (j : Int) : St := mk 53 [(0, plv ps), (1, iv rule), (2, iv x), (3, iv y), (9, iv n), (10, iv i), (11, psv l), (12, iv j)]
theorem b106a (ps : Ps) (rule x y n i : Int) : evalCode E106 (loopAt Try.f51 0) 0 (st106a ps rule x y n i) (kp E106 0) = bif decide (i < ps.length) then bif decide (0 ≤ i) && decide (i < ps.length) then
      bif decide ((0 : Int) = 0 ∧ (ps.getD i.toNat []).length < 4611686018427387904) && okPts (ps.getD i.toNat []) && okC x && okC y then some (.normal, st106a ps rule x y (accL (ps.getD i.toNat []) x y (ps.getD i.toNat []).length 0 n) (W (i + 1))) else none else none
    else some (.exit 0, mk 53 [(1, iv rule), (9, iv n)]) := by kernel_rfl
theorem b106b (ps : Ps) (rule x y n i : Int) (l : List Pt) (j : Int) : evalCode E106 (loopAt Try.f51 1) 2 (st106b ps rule x y n i l j) (kp E106 2) = bif decide (j < l.length) then bif decide (0 ≤ j) && decide (j < l.length) then bif decide ((l.length : Int) = 0) then none else
      bif decide (0 ≤ (W (j + 1)).tmod l.length) && decide ((W (j + 1)).tmod l.length < l.length) then
        bif okP (l.getD j.toNat (0, 0)) && okP (l.getD ((W (j + 1)).tmod l.length).toNat (0, 0)) && okC x && okC y then
          some (.normal, st106b ps rule x y (W (n + crw (l.getD j.toNat (0, 0)) (l.getD ((W (j + 1)).tmod l.length).toNat (0, 0)) x y)) i l (W (j + 1))) else none else none else none
    else some (.exit 2, mk 53 [(0, plv ps), (1, iv rule), (2, iv x), (3, iv y), (9, iv n), (10, iv i)]) := by kernel_rfl
theorem runs106b (ps : Ps) (rule x y i : Int) (l : List Pt) (hl : l.length < 4611686018427387904) (ho : okPts l = true) (hx : okC x = true) (hy : okC y = true) : ∀ (k j : Nat) (n : Int), j + k = l.length →
    Runs E106 2 (loopAt Try.f51 1) (st106b ps rule x y n i l j) (.exit 2) (mk 53 [(0, plv ps), (1, iv rule), (2, iv x), (3, iv y), (9, iv (accL l x y k j n)), (10, iv i)]) := by
  intro k
  induction k with
  | zero =>
    intro j n hj
    refine .stop ?_ (by simp)
    rw [b106b, decide_eq_false (by omega)]
    rfl
  | succ k ih =>
    intro j n hj
    have h1 : j < l.length := by omega
    have hbd := b106b ps rule x y n i l j
    have ht1 : 0 ≤ (W ((j : Int) + 1)).tmod l.length := by rw [W_small (by omega) (by omega)]; exact Int.tmod_nonneg _ (by omega)
    have ht2 : (W ((j : Int) + 1)).tmod l.length < l.length := by rw [W_small (by omega) (by omega)]; exact Int.tmod_lt_of_pos _ (by omega)
    rw [decide_eq_true (by omega : (j : Int) < l.length), decide_eq_true (by omega : (0 : Int) ≤ j), decide_eq_false (by omega : ¬ (l.length : Int) = 0), decide_eq_true ht1, decide_eq_true ht2, nx_eq h1 hl, Int.toNat_natCast, okPts_at ho, okPts_at ho, hx, hy, W_small (n := (j : Int) + 1) (by omega) (by omega)] at hbd
    exact .step hbd (ih (j + 1) _ (by omega))
theorem runs106a (ps : Ps) (rule x y : Int) (hs : shortPs ps = true) (ho : allPts ps = true) (hx : okC x = true) (hy : okC y = true) : ∀ (k i : Nat) (n : Int), i + k = ps.length →
    Runs E106 0 (loopAt Try.f51 0) (st106a ps rule x y n i) (.exit 0) (mk 53 [(1, iv rule), (9, iv (accP x y (ps.drop i) n))]) := by
  simp only [shortPs, Bool.and_eq_true, decide_eq_true_eq] at hs
  intro k
  induction k with
  | zero =>
    intro i n hi
    rw [List.drop_eq_nil_of_le (by omega)]
    refine .stop ?_ (by simp)
    rw [b106a, decide_eq_false (by omega)]
    rfl
  | succ k ih =>
    intro i n hi
    have h1 : i < ps.length := by omega
    have h2 := short_at hs.2 i
    have h3 : okPts (ps.getD i []) = true := by rw [getL_at h1]; exact List.all_eq_true.1 ho _ (List.getElem_mem h1)
    rw [List.drop_eq_getElem_cons h1]
    have hbd := b106a ps rule x y n i
    rw [decide_eq_true (by omega : (i : Int) < ps.length), decide_eq_true (by omega : (0 : Int) ≤ i), Int.toNat_natCast, decide_eq_true ⟨rfl, h2⟩, h3, hx, hy, getL_at h1, W_small (n := (i : Int) + 1) (by omega) (by omega)] at hbd
    exact .step hbd (ih (i + 1) _ (by omega))
theorem loop106a : LoopOk E106 0 (loopAt Try.f51 0) := by
  intro st R K z h
  obtain ⟨hn, h⟩ := req_some h
  obtain ⟨ps, e0, h⟩ := gPl_some h
  obtain ⟨rule, e1, h⟩ := gI_some h
  obtain ⟨x, e2, h⟩ := gI_some h
  obtain ⟨y, e3, h⟩ := gI_some h
  obtain ⟨n, e4, h⟩ := gI_some h
  obtain ⟨i, e5, h⟩ := gI_some h
  obtain ⟨hc, h⟩ := req_some h
  simp only [Bool.and_eq_true, decide_eq_true_eq] at hc
  obtain ⟨⟨h1, h2⟩, h3⟩ := hc
  rw [keep_mk (of_decide_eq_true hn)]
  have e := runs106a ps rule x y (by simp only [okSm, Bool.and_eq_true] at h3; exact h3.1.1.1) (by simp only [okSm, Bool.and_eq_true] at h3; exact h3.1.1.2) (by simp only [okSm, Bool.and_eq_true] at h3; exact h3.1.2) (by simp only [okSm, Bool.and_eq_true] at h3; exact h3.2) ps.length 0 0 (by omega)
  have es : mk 53 ((E106.lv 0).map fun i => (i, getS (keep (E106.lv 0) st) i)) = st106a ps rule x y 0 (0 : Nat) := by
    show mk 53 [(0, getS (keep (E106.lv 0) st) 0), (1, getS (keep (E106.lv 0) st) 1), (2, getS (keep (E106.lv 0) st) 2), (3, getS (keep (E106.lv 0) st) 3), (9, getS (keep (E106.lv 0) st) 9), (10, getS (keep (E106.lv 0) st) 10)] = _
    rw [e0, e1, e2, e3, e4, e5, h1, h2]
    rfl
  rw [es]
  exact ⟨_, _, e, h⟩
theorem loop106b : LoopOk E106 2 (loopAt Try.f51 1) := by
  intro st R K z h
  obtain ⟨hn, h⟩ := req_some h
  obtain ⟨ps, e0, h⟩ := gPl_some h
  obtain ⟨rule, e1, h⟩ := gI_some h
  obtain ⟨x, e2, h⟩ := gI_some h
  obtain ⟨y, e3, h⟩ := gI_some h
  obtain ⟨n, e4, h⟩ := gI_some h
  obtain ⟨i, e5, h⟩ := gI_some h
  obtain ⟨l, e6, h⟩ := gPs_some h
  obtain ⟨j, e7, h⟩ := gI_some h
  obtain ⟨hc, h⟩ := req_some h
  simp only [Bool.and_eq_true, decide_eq_true_eq] at hc
  obtain ⟨⟨⟨⟨h1, h2⟩, h3⟩, h4⟩, h5⟩ := hc
  rw [keep_mk (of_decide_eq_true hn)]
  have e := runs106b ps rule x y i l h2 h3 h4 h5 l.length 0 n (by omega)
  have es : mk 53 ((E106.lv 2).map fun i => (i, getS (keep (E106.lv 2) st) i)) = st106b ps rule x y n i l (0 : Nat) := by
    show mk 53 [(0, getS (keep (E106.lv 2) st) 0), (1, getS (keep (E106.lv 2) st) 1), (2, getS (keep (E106.lv 2) st) 2), (3, getS (keep (E106.lv 2) st) 3), (9, getS (keep (E106.lv 2) st) 9), (10, getS (keep (E106.lv 2) st) 10), (11, getS (keep (E106.lv 2) st) 11), (12, getS (keep (E106.lv 2) st) 12)] = _
    rw [e0, e1, e2, e3, e4, e5, e6, e7, h1]
    rfl
  rw [es]
  exact ⟨_, _, e, h⟩
/-- Is a sample inside? As the reference says it. -/
def insR (rule w : Int) : Bool := bif rule == 1 then w.tmod 2 != 0 else w != 0
theorem t106 (ps : Ps) (rule x y : Int) : evalF E106 Try.f51 (nPRII (ps, rule, x, y)) = bif decide ((0 : Int) = 0 ∧ (0 : Int) = 0) && okSm ps x y then bif rule == 1 then bif decide ((2 : Int) = 0) then none else ob ((wnd ps x y).tmod 2 != 0) else ob (wnd ps x y != 0) else none := by kernel_rfl
abbrev pIn : List AV → Bool := ps dPRII fun a => okSm a.1 a.2.2.1 a.2.2.2
abbrev sIn : Spec := sp dPRII fun a => bw (insR a.2.1 (wnd a.1 a.2.2.1 a.2.2.2))
theorem m106 : Meets Try.prog 51 (gate pIn sIn) := mG (rdL (e := E106) rfl (eg_cons mCw eg_nil) (fn := Try.f51) (k := 4) (by kernel_rfl) (by kernel_rfl) (of_decide_eq_true (by kernel_rfl)) (show loopsOf Try.f51 = [(0, loopAt Try.f51 0), (2, loopAt Try.f51 1)] by kernel_rfl)
    (fun p hp => by rcases List.mem_cons.mp hp with rfl | hp; exact loop106a; cases List.mem_singleton.mp hp; exact loop106b)) (fun _ _ => hPRII) (fun _ => ⟨rfl, Nat.le_refl _⟩)
  fun ⟨ps, rule, x, y⟩ hp => by
    have hp : okSm ps x y = true := hp
    refine (t106 ps rule x y).trans ?_
    rw [hp, decide_eq_true (⟨rfl, rfl⟩ : (0 : Int) = 0 ∧ (0 : Int) = 0), decide_eq_false (by omega : ¬ (2 : Int) = 0)]
    show _ = ob (insR rule (wnd ps x y))
    unfold insR
    cases rule == 1 <;> rfl
end Go.Proofs.Ytbgfgadekmemeaa.Ev

