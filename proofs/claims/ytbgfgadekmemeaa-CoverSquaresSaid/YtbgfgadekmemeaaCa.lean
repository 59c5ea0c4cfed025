/- Quotients rounded down, rounded quotients, the program's own and the reference's, and where an edge crosses a row of samples. Conditions: none. -/
import Derived.Test.YtbgfgadekmemeaaKe
namespace Go.Proofs.Ytbgfgadekmemeaa.Ev
open Go.Proofs
set_option linter.unusedVariables false
set_option linter.unusedSimpArgs false
set_option maxRecDepth 100000
set_option maxHeartbeats 1000000

/-! ### Quotients -/
theorem tdiv_floor {a b : Int} (hb : 0 < b) : (a.tmod b != 0) = decide (a % b ≠ 0) ∧ (a.tdiv b = if a % b ≠ 0 ∧ a < 0 then a / b + 1 else a / b) := by
  have h1 : a.tmod b = 0 ↔ a % b = 0 := by rw [← Int.dvd_iff_emod_eq_zero, ← Int.dvd_iff_tmod_eq_zero]
  refine ⟨?_, ?_⟩
  · by_cases h : a % b = 0
    · rw [decide_eq_false (fun hn => hn h), bne_eq_false_iff_eq, h1]; exact h
    · rw [decide_eq_true h, bne_iff_ne, ne_eq, h1]; exact h
  · rw [Int.tdiv_eq_ediv]
    have h2 : b.sign = 1 := Int.sign_eq_one_of_pos hb
    rw [h2]
    have h3 : b ∣ a ↔ a % b = 0 := Int.dvd_iff_emod_eq_zero
    by_cases h : a % b = 0
    · rw [if_pos (.inr (h3.mpr h)), if_neg (fun hn => hn.1 h), Int.add_zero]
    · by_cases h0 : 0 ≤ a
      · rw [if_pos (.inl h0), if_neg (fun hn => by omega), Int.add_zero]
      · rw [if_neg (fun hn => hn.elim h0 (fun hn => h (h3.mp hn))), if_pos ⟨h, by omega⟩]
theorem ediv_abs {a b M : Int} (hb : 1 ≤ b) (h1 : -M ≤ a) (h2 : a ≤ M) (hM : 0 ≤ M) : -M - 1 ≤ a / b ∧ a / b ≤ M := by
  have e1 := Int.mul_ediv_add_emod a b
  have e2 := Int.emod_nonneg a (by omega : b ≠ 0)
  have e3 := Int.emod_lt_of_pos a (by omega : 0 < b)
  refine ⟨?_, ?_⟩
  · have : (-M - 1) ≤ a / b := by
      rw [Int.le_ediv_iff_mul_le (by omega)]
      have : (M + 1) * 1 ≤ (M + 1) * b := Int.mul_le_mul_of_nonneg_left hb (by omega)
      have e : (-M - 1) * b = -((M + 1) * b) := by rw [← Int.neg_mul]; congr 1; omega
      omega
    exact this
  · have : a / b < M + 1 := by
      rw [Int.ediv_lt_iff_lt_mul (by omega)]
      have : (M + 1) * 1 ≤ (M + 1) * b := Int.mul_le_mul_of_nonneg_left hb (by omega)
      omega
    omega
abbrev pFl : List AV → Bool := ps dII fun a => decide (-1152921504606846976 ≤ a.1 ∧ a.1 ≤ 1152921504606846976 ∧ 1 ≤ a.2 ∧ a.2 ≤ 1152921504606846976)
abbrev sFl : Spec := sp dII fun a => iv (a.1 / a.2)
theorem tFloor (a b : Int) : evalF (EG []) Try.f45 [iv a, iv b] = bif b == 0 then oi 0 else bif b == -1 then bif a == -9223372036854775808 then oi 9223372036854775807 else oi (W (0 - a)) else bif decide (b = 0) then none else bif decide (b = 0) then none else
    bif a.tmod b != 0 then bif decide (a < 0) != decide (b < 0) then oi (W (W (a.tdiv b) - 1)) else oi (W (a.tdiv b)) else oi (W (a.tdiv b)) := by kernel_rfl
theorem mFloor : Meets Try.prog 45 (gate pFl sFl) := mG (rdE eg_nil (fn := Try.f45) (k := 2) (by kernel_rfl) (by kernel_rfl) (of_decide_eq_true (by kernel_rfl)) (by kernel_rfl)) (fun _ _ => hII) (fun _ => ⟨rfl, Nat.le_refl _⟩)
  fun ⟨a, b⟩ hp => by
    have hp := of_decide_eq_true hp
    simp only at hp
    refine (tFloor a b).trans ?_
    obtain ⟨e1, e2⟩ := tdiv_floor (a := a) (b := b) (by omega)
    obtain ⟨e3, e4⟩ := ediv_abs (a := a) (b := b) (M := 1152921504606846976) (by omega) (by omega) (by omega) (by omega)
    rw [beq_eq_false_iff_ne.mpr (by omega : b ≠ 0), beq_eq_false_iff_ne.mpr (by omega : b ≠ -1), decide_eq_false (by omega : ¬ b = 0), decide_eq_false (by omega : ¬ b < 0), e1, e2]
    by_cases h : a % b = 0
    · rw [if_neg (fun hn => hn.1 h), decide_eq_false (fun hn => hn h), W_small (n := a / b) (by omega) (by omega)]; rfl
    · by_cases h0 : a < 0
      · rw [if_pos ⟨h, h0⟩, decide_eq_true h, decide_eq_true h0, W_small (n := a / b + 1) (by omega) (by omega), show a / b + 1 - 1 = a / b by omega, W_small (n := a / b) (by omega) (by omega)]; rfl
      · rw [if_neg (fun hn => h0 hn.2), decide_eq_true h, decide_eq_false h0, W_small (n := a / b) (by omega) (by omega)]; rfl
theorem tRFloor (a b : Int) : evalF (EG []) Try.f32 [iv a, iv b] = bif b == 0 then oi 0 else bif a == -9223372036854775808 then bif b == -1 then oi 9223372036854775807 else
      bif decide (b = 0) then none else bif decide (b = 0) then none else bif a.tmod b != 0 then bif decide (a.tmod b < 0) != decide (b < 0) then oi (W (W (a.tdiv b) - 1)) else oi (W (a.tdiv b)) else oi (W (a.tdiv b))
    else bif decide (b = 0) then none else bif decide (b = 0) then none else bif a.tmod b != 0 then bif decide (a.tmod b < 0) != decide (b < 0) then oi (W (W (a.tdiv b) - 1)) else oi (W (a.tdiv b)) else oi (W (a.tdiv b)) := by kernel_rfl
theorem mRFloor : Meets Try.prog 32 (gate pFl sFl) := mG (rdE eg_nil (fn := Try.f32) (k := 2) (by kernel_rfl) (by kernel_rfl) (of_decide_eq_true (by kernel_rfl)) (by kernel_rfl)) (fun _ _ => hII) (fun _ => ⟨rfl, Nat.le_refl _⟩)
  fun ⟨a, b⟩ hp => by
    have hp := of_decide_eq_true hp
    simp only at hp
    refine (tRFloor a b).trans ?_
    obtain ⟨e1, e2⟩ := tdiv_floor (a := a) (b := b) (by omega)
    obtain ⟨e3, e4⟩ := ediv_abs (a := a) (b := b) (M := 1152921504606846976) (by omega) (by omega) (by omega) (by omega)
    have e5 : a % b ≠ 0 → (a.tmod b < 0 ↔ a < 0) := fun h => by
      have h1 := Int.mul_tdiv_add_tmod a b
      have h2 := Int.mul_ediv_add_emod a b
      have h3 := Int.emod_nonneg a (by omega : b ≠ 0)
      have h4 := Int.emod_lt_of_pos a (by omega : 0 < b)
      rw [e2] at h1
      split at h1
      · rename_i hc
        rw [Int.mul_add, Int.mul_one] at h1
        omega
      · rename_i hc
        omega
    rw [beq_eq_false_iff_ne.mpr (by omega : b ≠ 0), beq_eq_false_iff_ne.mpr (by omega : a ≠ -9223372036854775808), decide_eq_false (by omega : ¬ b = 0), decide_eq_false (by omega : ¬ b < 0), e1, e2]
    by_cases h : a % b = 0
    · rw [if_neg (fun hn => hn.1 h), decide_eq_false (fun hn => hn h), W_small (n := a / b) (by omega) (by omega)]; rfl
    · have e6 := e5 h
      by_cases h0 : a < 0
      · rw [if_pos ⟨h, h0⟩, decide_eq_true h, decide_eq_true (e6.mpr h0), W_small (n := a / b + 1) (by omega) (by omega), show a / b + 1 - 1 = a / b by omega, W_small (n := a / b) (by omega) (by omega)]; rfl
      · rw [if_neg (fun hn => h0 hn.2), decide_eq_true h, decide_eq_false (fun hn => h0 (e6.mp hn)), W_small (n := a / b) (by omega) (by omega)]; rfl
/-! ### Rounded quotients -/
theorem mDiv : Meets Try.prog 25 (gate pD (sp dII fun a => iv (divP a.1 a.2))) := m25
def TU : TypeId → TK := tabOf ((82, .int .u64) :: tyTab)
theorem tabU_all : ((82, TK.int .u64) :: tyTab).all (fun p => tyB Try.prog p.1 p.2) = true := by kernel_rfl
theorem hTU : ∀ t, TyOk Try.prog t (TU t) := tab_ok tabU_all
def EU2 (l : List Entry) : Env := { EG l with T := TU }
theorem rdU2 {l : List Entry} (hl : ∀ f, Meets Try.prog f ((EG l).sp f)) {n : FuncId} {fn : Func} {k : Nat} (hf : Try.prog.funcs[n]? = some fn) (hn : (fn.name == "runtime.NumGoroutine") = false) (hk : k ≤ fn.ntmps) (h0 : loopsOf fn = []) : Ready (EU2 l) n fn k :=
  ⟨hTU, hl, hf, hn, hk, by rw [h0]; exact fun p hp => nomatch hp⟩
@[reducible] def u64v (a : Int) : AV := .rv (.sc (.int .u64 a))
theorem tAbs (a : Int) : evalF (EU2 []) Try.f62 [iv a] = bif decide (a < 0) then some (u64v (IntKind.u64.wrap (0 - IntKind.u64.wrap a)), []) else some (u64v (IntKind.u64.wrap a), []) := by kernel_rfl
theorem u64_small {n : Int} (h1 : 0 ≤ n) (h2 : n < 9223372036854775808) : IntKind.u64.wrap n = n := by
  simp only [IntKind.wrap, IntKind.bits, IntKind.signed, Bool.false_and, Bool.false_eq_true, if_false]
  omega
abbrev pAb : List AV → Bool := ps dI fun a => decide (0 ≤ a ∧ a < 9223372036854775808)
theorem mAbs : Meets Try.prog 62 (gate pAb (sp dI fun a => u64v a)) := mG (rdU2 (l := []) eg_nil (fn := Try.f62) (k := 1) (by kernel_rfl) (by kernel_rfl) (of_decide_eq_true (by kernel_rfl)) (by kernel_rfl)) (fun _ _ => hI) (fun _ => ⟨rfl, Nat.le_refl _⟩)
  fun a hp => by
    have hp := of_decide_eq_true hp
    refine (tAbs a).trans ?_
    rw [decide_eq_false (by omega : ¬ a < 0), u64_small hp.1 hp.2]
    rfl
def LRDiv : List Entry := [(32, pFl, sFl), (62, pAb, sp dI fun a => u64v a)]
def gFl (a b : Int) (K : Option (AV × List AV)) : Option (AV × List AV) := bif decide (-1152921504606846976 ≤ a ∧ a ≤ 1152921504606846976 ∧ 1 ≤ b ∧ b ≤ 1152921504606846976) then K else none
def gAb (a : Int) (K : Option (AV × List AV)) : Option (AV × List AV) := bif decide (0 ≤ a ∧ a < 9223372036854775808) then K else none
theorem tRDiv (a b : Int) : evalF (EU2 LRDiv) Try.f52 [iv a, iv b] = bif b == 0 then oi 0 else gFl a b (
    let z := gAb (W (a - W (b * (a / b)))) (gAb b (bif decide (W (a - W (b * (a / b))) ≥ IntKind.u64.wrap (b - W (a - W (b * (a / b))))) then oi (W (a / b + 1)) else oi (a / b)))
    bif a == -9223372036854775808 then bif b == -1 then oi (a / b) else z else z) := by kernel_rfl
theorem mRDiv : Meets Try.prog 52 (gate pD (sp dII fun a => iv (divP a.1 a.2))) := mG (rdU2 (l := LRDiv) (eg_cons mRFloor (eg_cons mAbs eg_nil)) (fn := Try.f52) (k := 2) (by kernel_rfl) (by kernel_rfl) (of_decide_eq_true (by kernel_rfl)) (by kernel_rfl)) (fun _ _ => hII) (fun _ => ⟨rfl, Nat.le_refl _⟩)
  fun ⟨a, b⟩ hp => by
    have hp' := of_decide_eq_true hp
    simp only at hp'
    refine (tRDiv a b).trans ?_
    have h1 := Int.mul_ediv_add_emod a b
    have h2 := Int.emod_nonneg a (by omega : b ≠ 0)
    have h3 := Int.emod_lt_of_pos a (by omega : 0 < b)
    have h4 : 0 ≤ a / b := Int.ediv_nonneg (by omega) (by omega)
    have h5 : a / b ≤ a := Int.ediv_le_self _ (by omega)
    have h6 : 0 ≤ b * (a / b) := Int.mul_nonneg (by omega) h4
    show _ = oi (divP a b)
    unfold gFl gAb
    rw [decide_eq_true (by omega : -1152921504606846976 ≤ a ∧ a ≤ 1152921504606846976 ∧ 1 ≤ b ∧ b ≤ 1152921504606846976), beq_eq_false_iff_ne.mpr (by omega : b ≠ 0), beq_eq_false_iff_ne.mpr (by omega : a ≠ -9223372036854775808)]
    simp only [cond_true, cond_false]
    rw [W_small (n := b * (a / b)) (by omega) (by omega), W_small (n := a - b * (a / b)) (by omega) (by omega), show a - b * (a / b) = a % b by omega, u64_small (n := b - a % b) (by omega) (by omega), W_small (n := a / b + 1) (by omega) (by omega),
      decide_eq_true (by omega : 0 ≤ a % b ∧ a % b < 9223372036854775808), decide_eq_true (by omega : 0 ≤ b ∧ b < 9223372036854775808), divP_eq (by omega)]
    simp only [cond_true]
    by_cases c : 2 * (a % b) ≥ b
    · rw [decide_eq_true (by omega), if_pos c]; rfl
    · rw [decide_eq_false (by omega), if_neg c]; rfl
end Go.Proofs.Ytbgfgadekmemeaa.Ev
