/- The functions without loops that masks use: their evaluations, and their contracts. Conditions: none. -/
import Derived.Test.YtbgfgadekmemeaaKb
namespace Go.Proofs.Ytbgfgadekmemeaa.Ev
open Go.Proofs
set_option linter.unusedVariables false
set_option maxRecDepth 100000
set_option maxHeartbeats 1000000
set_option linter.unusedSimpArgs false

theorem W_small {n : Int} (h1 : -9223372036854775808 ≤ n) (h2 : n < 9223372036854775808) : W n = n := by
  unfold W
  rw [IntKind.wrap_i64]
  omega
theorem cb (p x y : Bool) : (bif p then ob x else ob y) = ob (bif p then x else y) := by cases p <;> rfl
theorem ci2 (p : Bool) (x y : Int) : (bif p then oi x else oi y) = oi (bif p then x else y) := by cases p <;> rfl
theorem cand (p x : Bool) : (bif p then x else false) = (p && x) := by cases p <;> rfl
theorem cnot (p x : Bool) : (bif p then false else x) = (!p && x) := by cases p <;> rfl
theorem idx_ok {x y w h : Int} (hx0 : 0 ≤ x) (hx : x < w) (hy0 : 0 ≤ y) (hy : y < h) (hw : w ≤ 256) (hh : h ≤ 256) : 0 ≤ y * w ∧ 0 ≤ y * w + x ∧ y * w + x < w * h ∧ w * h ≤ 65536 := by
  have h1 : 0 ≤ y * w := Int.mul_nonneg hy0 (by omega)
  have h2 : (y + 1) * w ≤ h * w := Int.mul_le_mul_of_nonneg_right (by omega) (by omega)
  have h3 : w * h ≤ 256 * 256 := Int.mul_le_mul hw hh (by omega) (by omega)
  rw [Int.add_mul, Int.one_mul, Int.mul_comm h w] at h2
  omega
abbrev pT {α : Type} (dec : List AV → Option α) : List AV → Bool := ps dec fun _ => true
/-! ### Rectangles -/
def spn (a n : Int) : Bool := decide (-1048576 ≤ a ∧ a ≤ 1048576 ∧ 0 ≤ n ∧ n ≤ 1048576 - a)
def valid (r : Q) : Bool := spn r.1 r.2.2.1 && spn r.2.1 r.2.2.2
def known (r : Q) : Q := if valid r = true then r else (0, 0, 0, 0)
def empty (r : Q) : Bool := ((known r).2.2.1 == 0) || ((known r).2.2.2 == 0)
def has (r : Q) (p : Pt) : Bool := decide ((known r).1 ≤ p.1 ∧ p.1 < (known r).1 + (known r).2.2.1 ∧ (known r).2.1 ≤ p.2 ∧ p.2 < (known r).2.1 + (known r).2.2.2)
def rlo (r : Q) (n : Int) : Int := if empty r = true then 0 else if n = 0 then r.1 else r.2.1
def rhi (r : Q) (n : Int) : Int := if empty r = true then -1 else if n = 0 then r.1 + r.2.2.1 - 1 else r.2.1 + r.2.2.2 - 1
@[reducible] def tv (a b : Int) : AV := .tup [.sc (.int .i64 a), .sc (.int .i64 b)]
theorem valid_iff (a b c d : Int) : valid (a, b, c, d) = true ↔ (-1048576 ≤ a ∧ a ≤ 1048576 ∧ 0 ≤ c ∧ c ≤ 1048576 - a) ∧ (-1048576 ≤ b ∧ b ≤ 1048576 ∧ 0 ≤ d ∧ d ≤ 1048576 - b) := by
  simp only [valid, spn, Bool.and_eq_true, decide_eq_true_eq]
theorem known_cases (a b c d : Int) : (valid (a, b, c, d) = true ∧ known (a, b, c, d) = (a, b, c, d)) ∨ (valid (a, b, c, d) = false ∧ known (a, b, c, d) = (0, 0, 0, 0)) := by
  unfold known
  cases h : valid (a, b, c, d)
  · exact .inr ⟨rfl, rfl⟩
  · exact .inl ⟨rfl, rfl⟩
theorem empty_iff (a b c d : Int) : empty (a, b, c, d) = true ↔ ¬ valid (a, b, c, d) = true ∨ c = 0 ∨ d = 0 := by
  unfold empty
  rcases known_cases a b c d with ⟨h, e⟩ | ⟨h, e⟩ <;> rw [e, h] <;> simp [beq_iff_eq]
theorem nonempty_iff (a b c d : Int) : empty (a, b, c, d) = false ↔ valid (a, b, c, d) = true ∧ 0 < c ∧ 0 < d := by
  have := empty_iff a b c d
  have hv := valid_iff a b c d
  cases h : empty (a, b, c, d)
  · rw [h] at this
    simp only [Bool.false_eq_true, false_iff, not_or, Classical.not_not] at this
    refine ⟨fun _ => ⟨this.1, ?_, ?_⟩, fun _ => rfl⟩
    · have := hv.mp this.1; omega
    · have := hv.mp this.1; omega
  · rw [h] at this
    simp only [true_iff] at this
    refine ⟨fun h => (nomatch h), fun ⟨h1, h2, h3⟩ => ?_⟩
    rcases this with h | h | h
    · exact absurd h1 h
    · omega
    · omega
theorem t58 (a b : Int) : evalF (EG []) Try.f58 [iv a, iv b] = bif decide (a ≥ -1048576) then bif decide (a ≤ 1048576) then bif decide (b ≥ 0) then ob (decide (b ≤ W (1048576 - a))) else ob false else ob false else ob false := by kernel_rfl
theorem m58 : Meets Try.prog 58 (gate (pT dII) (sp dII fun a => bw (spn a.1 a.2))) := mG (rdE eg_nil (fn := Try.f58) (k := 2) (by kernel_rfl) (by kernel_rfl) (of_decide_eq_true (by kernel_rfl)) (by kernel_rfl)) (fun _ _ => hII) (fun _ => ⟨rfl, Nat.le_refl _⟩)
  fun ⟨a, b⟩ _ => by
    refine (t58 a b).trans ?_
    simp only [cb]; refine congrArg ob ?_
    rw [Bool.eq_iff_iff]
    simp only [cand, spn, W, IntKind.wrap_i64, Bool.and_eq_true, decide_eq_true_eq]
    omega
def L49 : List Entry := [(58, pT dII, sp dII fun a => bw (spn a.1 a.2))]
theorem t49 (a b c d : Int) : evalF (EG L49) Try.f49 [q4 a b c d] = bif spn a c then ob (spn b d) else ob false := by kernel_rfl
theorem m49 : Meets Try.prog 49 (gate (pT dQ) (sp dQ fun a => bw (valid a))) := mG (rdE (l := L49) (eg_cons m58 eg_nil) (fn := Try.f49) (k := 1) (by kernel_rfl) (by kernel_rfl) (of_decide_eq_true (by kernel_rfl)) (by kernel_rfl)) (fun _ _ => hQ) (fun _ => ⟨rfl, Nat.le_refl _⟩)
  fun ⟨a, b, c, d⟩ _ => by
    refine (t49 a b c d).trans ?_
    simp only [cb]; refine congrArg ob ?_
    cases h : spn a c <;> simp [valid, h]
theorem t37 (a b c d : Int) : evalF (EG []) Try.f37 [q4 a b c d] = bif decide (a < -1048576) then ob false else bif decide (a > 1048576) then ob false else bif decide (b < -1048576) then ob false else bif decide (b > 1048576) then ob false else bif decide (c ≥ 0) then bif decide (d ≥ 0) then bif decide (c ≤ W (1048576 - a)) then ob (decide (d ≤ W (1048576 - b))) else ob false else ob false else ob false := by kernel_rfl
theorem m37 : Meets Try.prog 37 (gate (pT dQ) (sp dQ fun a => bw (valid a))) := mG (rdE eg_nil (fn := Try.f37) (k := 1) (by kernel_rfl) (by kernel_rfl) (of_decide_eq_true (by kernel_rfl)) (by kernel_rfl)) (fun _ _ => hQ) (fun _ => ⟨rfl, Nat.le_refl _⟩)
  fun ⟨a, b, c, d⟩ _ => by
    refine (t37 a b c d).trans ?_
    simp only [cb]; refine congrArg ob ?_
    rw [Bool.eq_iff_iff, valid_iff]
    simp only [cand, cnot, W, IntKind.wrap_i64, Bool.and_eq_true, Bool.not_eq_true', decide_eq_true_eq, decide_eq_false_iff_not]
    omega
@[reducible] def oq (r : Q) : Option (AV × List AV) := some (qv r, [])
theorem cqq (p : Bool) (x y : Q) : (bif p then oq x else oq y) = oq (bif p then x else y) := by cases p <;> rfl
def L44 : List Entry := [(49, pT dQ, sp dQ fun a => bw (valid a))]
theorem g44 : ∀ f, Meets Try.prog f ((EG L44).sp f) := eg_cons m49 eg_nil
theorem t44 (a b c d : Int) : evalF (EG L44) Try.f44 [q4 a b c d] = bif !valid (a, b, c, d) then oq (0, 0, 0, 0) else oq (a, b, c, d) := by kernel_rfl
theorem m44 : Meets Try.prog 44 (gate (pT dQ) (sp dQ fun a => qv (known a))) := mG (rdE g44 (fn := Try.f44) (k := 1) (by kernel_rfl) (by kernel_rfl) (of_decide_eq_true (by kernel_rfl)) (by kernel_rfl)) (fun _ _ => hQ) (fun _ => ⟨rfl, Nat.le_refl _⟩)
  fun ⟨a, b, c, d⟩ _ => by
    refine (t44 a b c d).trans ?_
    simp only [cqq]; refine congrArg oq ?_
    unfold known
    cases valid (a, b, c, d) <;> rfl
def L24 : List Entry := [(44, pT dQ, sp dQ fun a => qv (known a))]
theorem g24 : ∀ f, Meets Try.prog f ((EG L24).sp f) := eg_cons m44 eg_nil
theorem t24 (a b c d : Int) : evalF (EG L24) Try.f24 [q4 a b c d] = bif (known (a, b, c, d)).2.2.1 == 0 then ob true else ob ((known (a, b, c, d)).2.2.2 == 0) := by kernel_rfl
theorem m24 : Meets Try.prog 24 (gate (pT dQ) (sp dQ fun a => bw (empty a))) := mG (rdE g24 (fn := Try.f24) (k := 1) (by kernel_rfl) (by kernel_rfl) (of_decide_eq_true (by kernel_rfl)) (by kernel_rfl)) (fun _ _ => hQ) (fun _ => ⟨rfl, Nat.le_refl _⟩)
  fun ⟨a, b, c, d⟩ _ => by
    refine (t24 a b c d).trans ?_
    simp only [cb]; refine congrArg ob ?_
    unfold empty
    cases ((known (a, b, c, d)).2.2.1 == 0) <;> rfl
theorem t26 (a b c d x y : Int) : evalF (EG L24) Try.f26 [q4 a b c d, p2 x y] = bif decide (x ≥ (known (a, b, c, d)).1) then bif decide (x < W ((known (a, b, c, d)).1 + (known (a, b, c, d)).2.2.1)) then bif decide (y ≥ (known (a, b, c, d)).2.1) then ob (decide (y < W ((known (a, b, c, d)).2.1 + (known (a, b, c, d)).2.2.2))) else ob false else ob false else ob false := by kernel_rfl
theorem m26 : Meets Try.prog 26 (gate (pT dQP) (sp dQP fun a => bw (has a.1 a.2))) := mG (rdE g24 (fn := Try.f26) (k := 2) (by kernel_rfl) (by kernel_rfl) (of_decide_eq_true (by kernel_rfl)) (by kernel_rfl)) (fun _ _ => hQP) (fun _ => ⟨rfl, Nat.le_refl _⟩)
  fun ⟨⟨a, b, c, d⟩, x, y⟩ _ => by
    refine (t26 a b c d x y).trans ?_
    simp only [cb]; refine congrArg ob ?_
    rw [Bool.eq_iff_iff]
    unfold has
    have hv := valid_iff a b c d
    rcases known_cases a b c d with ⟨h, e⟩ | ⟨h, e⟩ <;> rw [e] <;> simp only [cand, W, IntKind.wrap_i64, Bool.and_eq_true, decide_eq_true_eq]
    · have hv := hv.mp h
      omega
    · omega
def L38 : List Entry := [(37, pT dQ, sp dQ fun a => bw (valid a))]
theorem g38 : ∀ f, Meets Try.prog f ((EG L38).sp f) := eg_cons m37 eg_nil
theorem t38 (a b c d : Int) : evalF (EG L38) Try.f38 [q4 a b c d] = bif !valid (a, b, c, d) then ob true else bif c == 0 then ob true else ob (d == 0) := by kernel_rfl
theorem m38 : Meets Try.prog 38 (gate (pT dQ) (sp dQ fun a => bw (empty a))) := mG (rdE g38 (fn := Try.f38) (k := 1) (by kernel_rfl) (by kernel_rfl) (of_decide_eq_true (by kernel_rfl)) (by kernel_rfl)) (fun _ _ => hQ) (fun _ => ⟨rfl, Nat.le_refl _⟩)
  fun ⟨a, b, c, d⟩ _ => by
    refine (t38 a b c d).trans ?_
    simp only [cb]; refine congrArg ob ?_
    rw [Bool.eq_iff_iff, empty_iff]
    cases valid (a, b, c, d) <;> simp [cond_eq_ite]

end Go.Proofs.Ytbgfgadekmemeaa.Ev
