/- The reference's rounded quotient. Conditions: none. -/
import Derived.Test.YtkeildnpemiacaaMo
namespace Go.Proofs.Ytkeildnpemiacaa.Ev
open Go.Proofs
set_option linter.unusedVariables false
set_option linter.unusedSimpArgs false
set_option maxRecDepth 100000
set_option maxHeartbeats 1000000

/-! ### The reference's quotient -/
def T2 : TypeId → TK := tabOf ((88, .int .u64) :: tab)
theorem tab2_all : ((88, TK.int .u64) :: tab).all (fun p => tyB Try.prog p.1 p.2) = true := by kernel_rfl
theorem hT2 : ∀ t, TyOk Try.prog t (T2 t) := tab_ok tab2_all
def EU (l : List Entry) : Env := { EG l with T := T2 }
theorem rdU {l : List Entry} (hl : ∀ f, Meets Try.prog f ((EG l).sp f)) {n : FuncId} {fn : Func} {k : Nat} (hf : Try.prog.funcs[n]? = some fn) (hn : (fn.name == "runtime.NumGoroutine") = false) (hk : k ≤ fn.ntmps) (h0 : loopsOf fn = []) : Ready (EU l) n fn k :=
  ⟨hT2, hl, hf, hn, hk, by rw [h0]; exact fun p hp => nomatch hp⟩
@[reducible] def uv (a : Int) : AV := .rv (.sc (.int .u64 a))
theorem t94 (a b : Int) : evalF (EG []) Try.f94 [iv a, iv b] = bif b == 0 then oi 0 else bif a == -9223372036854775808 then bif b == -1 then oi 9223372036854775807 else
      bif decide (b = 0) then none else bif decide (b = 0) then none else bif a.tmod b != 0 then bif decide (a.tmod b < 0) != decide (b < 0) then oi (W (W (a.tdiv b) - 1)) else oi (W (a.tdiv b)) else oi (W (a.tdiv b))
    else bif decide (b = 0) then none else bif decide (b = 0) then none else bif a.tmod b != 0 then bif decide (a.tmod b < 0) != decide (b < 0) then oi (W (W (a.tdiv b) - 1)) else oi (W (a.tdiv b)) else oi (W (a.tdiv b)) := by kernel_rfl
theorem m94 : Meets Try.prog 94 (gate pD (sp dII fun a => iv (a.1 / a.2))) := mG (rdE eg_nil (fn := Try.f94) (k := 2) (by kernel_rfl) (by kernel_rfl) (of_decide_eq_true (by kernel_rfl)) (by kernel_rfl)) (fun _ _ => hII) (fun _ => ⟨rfl, Nat.le_refl _⟩)
  fun ⟨a, b⟩ hp => by
    have hp := of_decide_eq_true hp
    simp only at hp
    refine (t94 a b).trans ?_
    have e1 : a.tdiv b = a / b := Int.tdiv_eq_ediv_of_nonneg (by omega)
    have e2 : a.tmod b = a % b := Int.tmod_eq_emod_of_nonneg (by omega)
    have h2 := Int.emod_nonneg a (by omega : b ≠ 0)
    have h0 : 0 ≤ a / b := Int.ediv_nonneg (by omega) (by omega)
    have h1 : a / b ≤ a := Int.ediv_le_self _ (by omega)
    rw [beq_eq_false_iff_ne.mpr (by omega : b ≠ 0), beq_eq_false_iff_ne.mpr (by omega : a ≠ -9223372036854775808), decide_eq_false (by omega : ¬ b = 0), e1, e2, decide_eq_false (by omega : ¬ a % b < 0), decide_eq_false (by omega : ¬ b < 0), W_small (n := a / b) (by omega) (by omega)]
    cases a % b != 0 <;> rfl
theorem t95 (a : Int) : evalF (EU []) Try.f95 [iv a] = bif decide (a < 0) then some (uv (IntKind.u64.wrap (0 - IntKind.u64.wrap a)), []) else some (uv (IntKind.u64.wrap a), []) := by kernel_rfl
theorem U_small {n : Int} (h1 : 0 ≤ n) (h2 : n < 9223372036854775808) : IntKind.u64.wrap n = n := by
  simp only [IntKind.wrap, IntKind.bits, IntKind.signed, Bool.false_and, Bool.false_eq_true, if_false]
  omega
theorem m95 : Meets Try.prog 95 (gate (ps dI fun a => decide (0 ≤ a ∧ a < 9223372036854775808)) (sp dI fun a => uv a)) := mG (rdU (l := []) eg_nil (fn := Try.f95) (k := 1) (by kernel_rfl) (by kernel_rfl) (of_decide_eq_true (by kernel_rfl)) (by kernel_rfl)) (fun _ _ => hI) (fun _ => ⟨rfl, Nat.le_refl _⟩)
  fun a hp => by
    have hp := of_decide_eq_true hp
    refine (t95 a).trans ?_
    rw [decide_eq_false (by omega : ¬ a < 0), U_small hp.1 hp.2]
    rfl
def L68 : List Entry := [(94, pD, sp dII fun a => iv (a.1 / a.2)), (95, ps dI fun a => decide (0 ≤ a ∧ a < 9223372036854775808), sp dI fun a => uv a)]
def gD (a b : Int) (K : Option (AV × List AV)) : Option (AV × List AV) := bif decide (0 ≤ a ∧ a ≤ 4503599627370496 ∧ 1 ≤ b ∧ b ≤ 1099511627776) then K else none
def gA (a : Int) (K : Option (AV × List AV)) : Option (AV × List AV) := bif decide (0 ≤ a ∧ a < 9223372036854775808) then K else none
theorem t68 (a b : Int) : evalF (EU L68) Try.f68 [iv a, iv b] = bif b == 0 then oi 0 else gD a b (
    let z := gA (W (a - W (b * (a / b)))) (gA b (bif decide (W (a - W (b * (a / b))) ≥ IntKind.u64.wrap (b - W (a - W (b * (a / b))))) then oi (W (a / b + 1)) else oi (a / b)))
    bif a == -9223372036854775808 then bif b == -1 then oi (a / b) else z else z) := by kernel_rfl
theorem m68 : Meets Try.prog 68 (gate pD (sp dII fun a => iv (divP a.1 a.2))) := mG (rdU (l := L68) (eg_cons m94 (eg_cons m95 eg_nil)) (fn := Try.f68) (k := 2) (by kernel_rfl) (by kernel_rfl) (of_decide_eq_true (by kernel_rfl)) (by kernel_rfl)) (fun _ _ => hII) (fun _ => ⟨rfl, Nat.le_refl _⟩)
  fun ⟨a, b⟩ hp => by
    have hp' := of_decide_eq_true hp
    simp only at hp'
    refine (t68 a b).trans ?_
    have h1 := Int.mul_ediv_add_emod a b
    have h2 := Int.emod_nonneg a (by omega : b ≠ 0)
    have h3 := Int.emod_lt_of_pos a (by omega : 0 < b)
    have h4 : 0 ≤ a / b := Int.ediv_nonneg (by omega) (by omega)
    have h5 : a / b ≤ a := Int.ediv_le_self _ (by omega)
    have h6 : 0 ≤ b * (a / b) := Int.mul_nonneg (by omega) h4
    show _ = oi (divP a b)
    unfold gD gA
    rw [decide_eq_true hp', beq_eq_false_iff_ne.mpr (by omega : b ≠ 0), beq_eq_false_iff_ne.mpr (by omega : a ≠ -9223372036854775808)]
    simp only [cond_true, cond_false]
    rw [W_small (n := b * (a / b)) (by omega) (by omega), W_small (n := a - b * (a / b)) (by omega) (by omega), show a - b * (a / b) = a % b by omega, U_small (n := b - a % b) (by omega) (by omega), W_small (n := a / b + 1) (by omega) (by omega),
      decide_eq_true (by omega : 0 ≤ a % b ∧ a % b < 9223372036854775808), decide_eq_true (by omega : 0 ≤ b ∧ b < 9223372036854775808), divP_eq (by omega)]
    simp only [cond_true]
    by_cases c : 2 * (a % b) ≥ b
    · rw [decide_eq_true (by omega), if_pos c]; rfl
    · rw [decide_eq_false (by omega), if_neg c]; rfl
end Go.Proofs.Ytkeildnpemiacaa.Ev
