/- The functions without loops that masks use: their evaluations, and their contracts. Conditions: none. -/
import Derived.Test.YtkeildnpemiacaaMb
namespace Go.Proofs.Ytkeildnpemiacaa.Ev
open Go.Proofs
set_option linter.unusedVariables false
set_option maxRecDepth 100000
set_option maxHeartbeats 1000000
set_option linter.unusedSimpArgs false

theorem W_small {n : Int} (h1 : -9223372036854775808 ≤ n) (h2 : n < 9223372036854775808) : W n = n := by
  unfold W
  rw [IntKind.wrap_i64]
  omega
theorem cb (p x y : Bool) : (bif p then ob x else ob y) = ob (bif p then x else y) := by cases p <;> rfl
theorem ci2 (p : Bool) (x y : Int) : (bif p then oi x else oi y) = oi (bif p then x else y) := by cases p <;> rfl
theorem cand (p x : Bool) : (bif p then x else false) = (p && x) := by cases p <;> rfl
theorem cnot (p x : Bool) : (bif p then false else x) = (!p && x) := by cases p <;> rfl
theorem idx_ok {x y w h : Int} (hx0 : 0 ≤ x) (hx : x < w) (hy0 : 0 ≤ y) (hy : y < h) (hw : w ≤ 256) (hh : h ≤ 256) : 0 ≤ y * w ∧ 0 ≤ y * w + x ∧ y * w + x < w * h ∧ w * h ≤ 65536 := by
  have h1 : 0 ≤ y * w := Int.mul_nonneg hy0 (by omega)
  have h2 : (y + 1) * w ≤ h * w := Int.mul_le_mul_of_nonneg_right (by omega) (by omega)
  have h3 : w * h ≤ 256 * 256 := Int.mul_le_mul hw hh (by omega) (by omega)
  rw [Int.add_mul, Int.one_mul, Int.mul_comm h w] at h2
  omega
theorem okSize_iff (w h : Int) (l : List Int) : okSize (w, h, l) = true ↔ 0 ≤ w ∧ w ≤ 256 ∧ 0 ≤ h ∧ h ≤ 256 ∧ (l.length : Int) = w * h := by
  simp only [okSize, decide_eq_true_eq]
def treeGet (w h : Int) (l : List Int) (x y : Int) : Option (AV × List AV) :=
  bif decide (x < 0) then oi 0 else bif decide (x ≥ w) then oi 0 else bif decide (y < 0) then oi 0 else bif decide (y ≥ h) then oi 0 else
    bif decide (0 ≤ W (W (y * w) + x)) && decide (W (W (y * w) + x) < (l.length : Int)) then oi (l.getD (W (W (y * w) + x)).toNat 0) else none
theorem treeGet_eq {w h : Int} {l : List Int} (x y : Int) (hk : okSize (w, h, l) = true) : treeGet w h l x y = oi (getM (w, h, l) x y) := by
  have hs := (okSize_iff w h l).mp hk
  unfold treeGet getM inM
  simp only
  by_cases h1 : x < 0
  · rw [decide_eq_true h1, if_neg (by simp only [decide_eq_true_eq]; omega)]; rfl
  by_cases h2 : x ≥ w
  · rw [decide_eq_false h1, decide_eq_true h2, if_neg (by simp only [decide_eq_true_eq]; omega)]; rfl
  by_cases h3 : y < 0
  · rw [decide_eq_false h1, decide_eq_false h2, decide_eq_true h3, if_neg (by simp only [decide_eq_true_eq]; omega)]; rfl
  by_cases h4 : y ≥ h
  · rw [decide_eq_false h1, decide_eq_false h2, decide_eq_false h3, decide_eq_true h4, if_neg (by simp only [decide_eq_true_eq]; omega)]; rfl
  have hi := idx_ok (x := x) (y := y) (w := w) (h := h) (by omega) (by omega) (by omega) (by omega) (by omega) (by omega)
  have e1 : W (y * w) = y * w := W_small (by omega) (by omega)
  have e2 : W (y * w + x) = y * w + x := W_small (by omega) (by omega)
  rw [decide_eq_false h1, decide_eq_false h2, decide_eq_false h3, decide_eq_false h4, e1, e2, decide_eq_true (by omega : 0 ≤ y * w + x), decide_eq_true (by omega : y * w + x < (l.length : Int)), if_pos (decide_eq_true (by omega))]
  rfl
theorem t50 (w h : Int) (l : List Int) (x y : Int) : evalF (EG []) Try.f50 [mk3 w h l, iv x, iv y] = treeGet w h l x y := by kernel_rfl
theorem t53 (w h : Int) (l : List Int) (x y : Int) : evalF (EG []) Try.f53 [mk3 w h l, iv x, iv y] = treeGet w h l x y := by kernel_rfl
abbrev pG : List AV → Bool := ps dMII fun m => okSize m.1
abbrev sG : Spec := sp dMII fun m => iv (getM m.1 m.2.1 m.2.2)
theorem m50 : Meets Try.prog 50 (gate pG sG) := mG (rdE eg_nil (fn := Try.f50) (k := 3) (by kernel_rfl) (by kernel_rfl) (of_decide_eq_true (by kernel_rfl)) (by kernel_rfl)) (fun _ _ => hMII) (fun _ => ⟨rfl, Nat.le_refl _⟩)
  fun ⟨⟨w, h, l⟩, x, y⟩ hp => (t50 w h l x y).trans (treeGet_eq x y hp)
theorem m53 : Meets Try.prog 53 (gate pG sG) := mG (rdE eg_nil (fn := Try.f53) (k := 3) (by kernel_rfl) (by kernel_rfl) (of_decide_eq_true (by kernel_rfl)) (by kernel_rfl)) (fun _ _ => hMII) (fun _ => ⟨rfl, Nat.le_refl _⟩)
  fun ⟨⟨w, h, l⟩, x, y⟩ hp => (t53 w h l x y).trans (treeGet_eq x y hp)
/-! ### Sizes -/
theorem t56 (w h : Int) : evalF (EG []) Try.f56 [iv w, iv h] = bif decide (w < 1) then oi 15 else bif decide (w > 256) then oi 15 else bif decide (h < 1) then oi 15 else bif decide (h > 256) then oi 15 else oi 0 := by kernel_rfl
theorem t58 (w h : Int) : evalF (EG []) Try.f58 [iv w, iv h] = bif decide (w ≥ 1) then bif decide (w ≤ 256) then bif decide (h ≥ 1) then ob (decide (h ≤ 256)) else ob false else ob false else ob false := by kernel_rfl
abbrev pT {α : Type} (dec : List AV → Option α) : List AV → Bool := ps dec fun _ => true
theorem m56 : Meets Try.prog 56 (gate (pT dII) (sp dII fun a => iv (sizeE a.1 a.2))) := mG (rdE eg_nil (fn := Try.f56) (k := 2) (by kernel_rfl) (by kernel_rfl) (of_decide_eq_true (by kernel_rfl)) (by kernel_rfl)) (fun _ _ => hII) (fun _ => ⟨rfl, Nat.le_refl _⟩)
  fun ⟨w, h⟩ _ => by
    refine (t56 w h).trans ?_
    simp only [ci2]
    refine congrArg oi ?_
    unfold sizeE
    simp only [cond_eq_ite, decide_eq_true_eq]
    repeat' split
    all_goals first | rfl | omega
theorem m58 : Meets Try.prog 58 (gate (pT dII) (sp dII fun a => bw (sizeE a.1 a.2 == 0))) := mG (rdE eg_nil (fn := Try.f58) (k := 2) (by kernel_rfl) (by kernel_rfl) (of_decide_eq_true (by kernel_rfl)) (by kernel_rfl)) (fun _ _ => hII) (fun _ => ⟨rfl, Nat.le_refl _⟩)
  fun ⟨w, h⟩ _ => by
    refine (t58 w h).trans ?_
    simp only [cb]
    refine congrArg ob ?_
    unfold sizeE
    rw [Bool.eq_iff_iff]
    simp only [cand, Bool.and_eq_true, decide_eq_true_eq, beq_iff_eq]
    split
    · simp only [iff_true]; omega
    · simp only [show ¬ (15 : Int) = 0 by decide, iff_false]; omega
/-! ### Rectangles -/
def spn (a n : Int) : Bool := decide (-1048576 ≤ a ∧ a ≤ 1048576 ∧ 0 ≤ n ∧ n ≤ 1048576 - a)
def valid (r : Q) : Bool := spn r.1 r.2.2.1 && spn r.2.1 r.2.2.2
def known (r : Q) : Q := if valid r = true then r else (0, 0, 0, 0)
def empty (r : Q) : Bool := ((known r).2.2.1 == 0) || ((known r).2.2.2 == 0)
def has (r : Q) (p : Pt) : Bool := decide ((known r).1 ≤ p.1 ∧ p.1 < (known r).1 + (known r).2.2.1 ∧ (known r).2.1 ≤ p.2 ∧ p.2 < (known r).2.1 + (known r).2.2.2)
def rlo (r : Q) (n : Int) : Int := if empty r = true then 0 else if n = 0 then r.1 else r.2.1
def rhi (r : Q) (n : Int) : Int := if empty r = true then -1 else if n = 0 then r.1 + r.2.2.1 - 1 else r.2.1 + r.2.2.2 - 1
@[reducible] def tv (a b : Int) : AV := .tup [.sc (.int .i64 a), .sc (.int .i64 b)]
theorem valid_iff (a b c d : Int) : valid (a, b, c, d) = true ↔ (-1048576 ≤ a ∧ a ≤ 1048576 ∧ 0 ≤ c ∧ c ≤ 1048576 - a) ∧ (-1048576 ≤ b ∧ b ≤ 1048576 ∧ 0 ≤ d ∧ d ≤ 1048576 - b) := by
  simp only [valid, spn, Bool.and_eq_true, decide_eq_true_eq]
theorem known_cases (a b c d : Int) : (valid (a, b, c, d) = true ∧ known (a, b, c, d) = (a, b, c, d)) ∨ (valid (a, b, c, d) = false ∧ known (a, b, c, d) = (0, 0, 0, 0)) := by
  unfold known
  cases h : valid (a, b, c, d)
  · exact .inr ⟨rfl, rfl⟩
  · exact .inl ⟨rfl, rfl⟩
theorem empty_iff (a b c d : Int) : empty (a, b, c, d) = true ↔ ¬ valid (a, b, c, d) = true ∨ c = 0 ∨ d = 0 := by
  unfold empty
  rcases known_cases a b c d with ⟨h, e⟩ | ⟨h, e⟩ <;> rw [e, h] <;> simp [beq_iff_eq]
theorem nonempty_iff (a b c d : Int) : empty (a, b, c, d) = false ↔ valid (a, b, c, d) = true ∧ 0 < c ∧ 0 < d := by
  have := empty_iff a b c d
  have hv := valid_iff a b c d
  cases h : empty (a, b, c, d)
  · rw [h] at this
    simp only [Bool.false_eq_true, false_iff, not_or, Classical.not_not] at this
    refine ⟨fun _ => ⟨this.1, ?_, ?_⟩, fun _ => rfl⟩
    · have := hv.mp this.1; omega
    · have := hv.mp this.1; omega
  · rw [h] at this
    simp only [true_iff] at this
    refine ⟨fun h => (nomatch h), fun ⟨h1, h2, h3⟩ => ?_⟩
    rcases this with h | h | h
    · exact absurd h1 h
    · omega
    · omega
theorem t84 (a b : Int) : evalF (EG []) Try.f84 [iv a, iv b] = bif decide (a ≥ -1048576) then bif decide (a ≤ 1048576) then bif decide (b ≥ 0) then ob (decide (b ≤ W (1048576 - a))) else ob false else ob false else ob false := by kernel_rfl
theorem m84 : Meets Try.prog 84 (gate (pT dII) (sp dII fun a => bw (spn a.1 a.2))) := mG (rdE eg_nil (fn := Try.f84) (k := 2) (by kernel_rfl) (by kernel_rfl) (of_decide_eq_true (by kernel_rfl)) (by kernel_rfl)) (fun _ _ => hII) (fun _ => ⟨rfl, Nat.le_refl _⟩)
  fun ⟨a, b⟩ _ => by
    refine (t84 a b).trans ?_
    simp only [cb]; refine congrArg ob ?_
    rw [Bool.eq_iff_iff]
    simp only [cand, spn, W, IntKind.wrap_i64, Bool.and_eq_true, decide_eq_true_eq]
    omega
def L46 : List Entry := [(84, pT dII, sp dII fun a => bw (spn a.1 a.2))]
theorem t46 (a b c d : Int) : evalF (EG L46) Try.f46 [q4 a b c d] = bif spn a c then ob (spn b d) else ob false := by kernel_rfl
theorem m46 : Meets Try.prog 46 (gate (pT dQ) (sp dQ fun a => bw (valid a))) := mG (rdE (l := L46) (eg_cons m84 eg_nil) (fn := Try.f46) (k := 1) (by kernel_rfl) (by kernel_rfl) (of_decide_eq_true (by kernel_rfl)) (by kernel_rfl)) (fun _ _ => hQ) (fun _ => ⟨rfl, Nat.le_refl _⟩)
  fun ⟨a, b, c, d⟩ _ => by
    refine (t46 a b c d).trans ?_
    simp only [cb]; refine congrArg ob ?_
    cases h : spn a c <;> simp [valid, h]
theorem t51 (a b c d : Int) : evalF (EG []) Try.f51 [q4 a b c d] = bif decide (a < -1048576) then ob false else bif decide (a > 1048576) then ob false else bif decide (b < -1048576) then ob false else bif decide (b > 1048576) then ob false else bif decide (c ≥ 0) then bif decide (d ≥ 0) then bif decide (c ≤ W (1048576 - a)) then ob (decide (d ≤ W (1048576 - b))) else ob false else ob false else ob false := by kernel_rfl
theorem m51 : Meets Try.prog 51 (gate (pT dQ) (sp dQ fun a => bw (valid a))) := mG (rdE eg_nil (fn := Try.f51) (k := 1) (by kernel_rfl) (by kernel_rfl) (of_decide_eq_true (by kernel_rfl)) (by kernel_rfl)) (fun _ _ => hQ) (fun _ => ⟨rfl, Nat.le_refl _⟩)
  fun ⟨a, b, c, d⟩ _ => by
    refine (t51 a b c d).trans ?_
    simp only [cb]; refine congrArg ob ?_
    rw [Bool.eq_iff_iff, valid_iff]
    simp only [cand, cnot, W, IntKind.wrap_i64, Bool.and_eq_true, Bool.not_eq_true', decide_eq_true_eq, decide_eq_false_iff_not]
    omega
@[reducible] def oq (r : Q) : Option (AV × List AV) := some (qv r, [])
theorem cqq (p : Bool) (x y : Q) : (bif p then oq x else oq y) = oq (bif p then x else y) := by cases p <;> rfl
def L85 : List Entry := [(46, pT dQ, sp dQ fun a => bw (valid a))]
theorem g85 : ∀ f, Meets Try.prog f ((EG L85).sp f) := eg_cons m46 eg_nil
theorem t85 (a b c d : Int) : evalF (EG L85) Try.f85 [q4 a b c d] = bif !valid (a, b, c, d) then oq (0, 0, 0, 0) else oq (a, b, c, d) := by kernel_rfl
theorem m85 : Meets Try.prog 85 (gate (pT dQ) (sp dQ fun a => qv (known a))) := mG (rdE g85 (fn := Try.f85) (k := 1) (by kernel_rfl) (by kernel_rfl) (of_decide_eq_true (by kernel_rfl)) (by kernel_rfl)) (fun _ _ => hQ) (fun _ => ⟨rfl, Nat.le_refl _⟩)
  fun ⟨a, b, c, d⟩ _ => by
    refine (t85 a b c d).trans ?_
    simp only [cqq]; refine congrArg oq ?_
    unfold known
    cases valid (a, b, c, d) <;> rfl
def L47 : List Entry := [(85, pT dQ, sp dQ fun a => qv (known a))]
theorem g47 : ∀ f, Meets Try.prog f ((EG L47).sp f) := eg_cons m85 eg_nil
theorem t47 (a b c d : Int) : evalF (EG L47) Try.f47 [q4 a b c d] = bif (known (a, b, c, d)).2.2.1 == 0 then ob true else ob ((known (a, b, c, d)).2.2.2 == 0) := by kernel_rfl
theorem m47 : Meets Try.prog 47 (gate (pT dQ) (sp dQ fun a => bw (empty a))) := mG (rdE g47 (fn := Try.f47) (k := 1) (by kernel_rfl) (by kernel_rfl) (of_decide_eq_true (by kernel_rfl)) (by kernel_rfl)) (fun _ _ => hQ) (fun _ => ⟨rfl, Nat.le_refl _⟩)
  fun ⟨a, b, c, d⟩ _ => by
    refine (t47 a b c d).trans ?_
    simp only [cb]; refine congrArg ob ?_
    unfold empty
    cases ((known (a, b, c, d)).2.2.1 == 0) <;> rfl
theorem t62 (a b c d x y : Int) : evalF (EG L47) Try.f62 [q4 a b c d, p2 x y] = bif decide (x ≥ (known (a, b, c, d)).1) then bif decide (x < W ((known (a, b, c, d)).1 + (known (a, b, c, d)).2.2.1)) then bif decide (y ≥ (known (a, b, c, d)).2.1) then ob (decide (y < W ((known (a, b, c, d)).2.1 + (known (a, b, c, d)).2.2.2))) else ob false else ob false else ob false := by kernel_rfl
theorem m62 : Meets Try.prog 62 (gate (pT dQP) (sp dQP fun a => bw (has a.1 a.2))) := mG (rdE g47 (fn := Try.f62) (k := 2) (by kernel_rfl) (by kernel_rfl) (of_decide_eq_true (by kernel_rfl)) (by kernel_rfl)) (fun _ _ => hQP) (fun _ => ⟨rfl, Nat.le_refl _⟩)
  fun ⟨⟨a, b, c, d⟩, x, y⟩ _ => by
    refine (t62 a b c d x y).trans ?_
    simp only [cb]; refine congrArg ob ?_
    rw [Bool.eq_iff_iff]
    unfold has
    have hv := valid_iff a b c d
    rcases known_cases a b c d with ⟨h, e⟩ | ⟨h, e⟩ <;> rw [e] <;> simp only [cand, W, IntKind.wrap_i64, Bool.and_eq_true, decide_eq_true_eq]
    · have hv := hv.mp h
      omega
    · omega
def L52 : List Entry := [(51, pT dQ, sp dQ fun a => bw (valid a))]
theorem g52 : ∀ f, Meets Try.prog f ((EG L52).sp f) := eg_cons m51 eg_nil
theorem t52 (a b c d : Int) : evalF (EG L52) Try.f52 [q4 a b c d] = bif !valid (a, b, c, d) then ob true else bif c == 0 then ob true else ob (d == 0) := by kernel_rfl
theorem m52 : Meets Try.prog 52 (gate (pT dQ) (sp dQ fun a => bw (empty a))) := mG (rdE g52 (fn := Try.f52) (k := 1) (by kernel_rfl) (by kernel_rfl) (of_decide_eq_true (by kernel_rfl)) (by kernel_rfl)) (fun _ _ => hQ) (fun _ => ⟨rfl, Nat.le_refl _⟩)
  fun ⟨a, b, c, d⟩ _ => by
    refine (t52 a b c d).trans ?_
    simp only [cb]; refine congrArg ob ?_
    rw [Bool.eq_iff_iff, empty_iff]
    cases valid (a, b, c, d) <;> simp [cond_eq_ite]
theorem t86 (a b c d n : Int) : evalF (EG L52) Try.f86 [q4 a b c d, iv n] = bif !valid (a, b, c, d) then some (tv 0 (-1), []) else bif c == 0 then some (tv 0 (-1), []) else bif d == 0 then some (tv 0 (-1), []) else bif n == 0 then some (tv a (W (W (a + c) - 1)), []) else some (tv b (W (W (b + d) - 1)), []) := by kernel_rfl
@[reducible] def nQI (a : Q × Int) : List AV := [qv a.1, iv a.2]
def dQI : List AV → Option (Q × Int)
  | [.rv (.agg [.int .i64 a, .int .i64 b, .int .i64 c, .int .i64 d]), .rv (.sc (.int .i64 n))] => some ((a, b, c, d), n)
  | _ => none
theorem hQI {us : List AV} {a} (h : dQI us = some a) : us = nQI a := by unfold dQI at h; split at h <;> cases h; rfl
theorem m86 : Meets Try.prog 86 (gate (pT dQI) (sp dQI fun a => tv (rlo a.1 a.2) (rhi a.1 a.2))) := mG (rdE g52 (fn := Try.f86) (k := 2) (by kernel_rfl) (by kernel_rfl) (of_decide_eq_true (by kernel_rfl)) (by kernel_rfl)) (fun _ _ => hQI) (fun _ => ⟨rfl, Nat.le_refl _⟩)
  fun ⟨⟨a, b, c, d⟩, n⟩ _ => by
    refine (t86 a b c d n).trans ?_
    unfold rlo rhi
    cases h2 : empty (a, b, c, d)
    · have h3 := (nonempty_iff a b c d).mp h2
      have hv := (valid_iff a b c d).mp h3.1
      have e1 : W (W (a + c) - 1) = a + c - 1 := by unfold W; simp only [IntKind.wrap_i64]; omega
      have e2 : W (W (b + d) - 1) = b + d - 1 := by unfold W; simp only [IntKind.wrap_i64]; omega
      have e3 : (c == 0) = false := by rw [beq_eq_false_iff_ne]; omega
      have e4 : (d == 0) = false := by rw [beq_eq_false_iff_ne]; omega
      rw [e1, e2, e3, e4, h3.1]
      by_cases hn : n = 0
      · subst hn; simp only [h2]; rfl
      · rw [beq_eq_false_iff_ne.mpr hn]; simp only [h2, if_neg hn]; rfl
    · have h3 := (empty_iff a b c d).mp h2
      simp only [h2]
      by_cases hv : valid (a, b, c, d) = true
      · rw [hv]
        by_cases hc : c = 0
        · subst hc; rfl
        · have hd : d = 0 := by simp only [hv, not_true_eq_false, false_or] at h3; omega
          rw [beq_eq_false_iff_ne.mpr hc]; subst hd; rfl
      · rw [Bool.not_eq_true] at hv; rw [hv]; rfl
def L63 : List Entry := [(86, pT dQI, sp dQI fun a => tv (rlo a.1 a.2) (rhi a.1 a.2))]
theorem g63 : ∀ f, Meets Try.prog f ((EG L63).sp f) := eg_cons m86 eg_nil
theorem t63 (a b c d x y : Int) : evalF (EG L63) Try.f63 [q4 a b c d, p2 x y] = bif decide (x ≥ rlo (a, b, c, d) 0) then bif decide (x ≤ rhi (a, b, c, d) 0) then bif decide (y ≥ rlo (a, b, c, d) 1) then ob (decide (y ≤ rhi (a, b, c, d) 1)) else ob false else ob false else ob false := by kernel_rfl
theorem m63 : Meets Try.prog 63 (gate (pT dQP) (sp dQP fun a => bw (has a.1 a.2))) := mG (rdE g63 (fn := Try.f63) (k := 2) (by kernel_rfl) (by kernel_rfl) (of_decide_eq_true (by kernel_rfl)) (by kernel_rfl)) (fun _ _ => hQP) (fun _ => ⟨rfl, Nat.le_refl _⟩)
  fun ⟨⟨a, b, c, d⟩, x, y⟩ _ => by
    refine (t63 a b c d x y).trans ?_
    simp only [cb]; refine congrArg ob ?_
    rw [Bool.eq_iff_iff]
    unfold has
    have hv := valid_iff a b c d
    have he := empty_iff a b c d
    unfold rlo rhi
    rcases known_cases a b c d with ⟨h, e⟩ | ⟨h, e⟩ <;> rw [e] <;> rw [h] at hv he <;> simp only [cand, Bool.and_eq_true, decide_eq_true_eq]
    · simp only [true_iff] at hv
      simp only [not_true_eq_false, false_or] at he
      cases h2 : empty (a, b, c, d) <;> rw [h2] at he <;> simp only [Bool.false_eq_true, if_false, if_pos, false_iff, true_iff, Int.one_ne_zero] at he ⊢
      all_goals omega
    · simp only [Bool.false_eq_true, not_false_eq_true, true_or, iff_true] at he
      simp only [he, if_true]
      omega
end Go.Proofs.Ytkeildnpemiacaa.Ev
