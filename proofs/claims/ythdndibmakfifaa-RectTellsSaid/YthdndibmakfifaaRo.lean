/- That the law of telling answers true. Conditions: none. -/
import Derived.Test.YthdndibmakfifaaRm
namespace Go.Proofs.Ythdndibmakfifaa.Ev
open Go.Proofs
set_option linter.unusedVariables false
set_option maxRecDepth 100000
set_option maxHeartbeats 0
def G3 (v e : Q → Bool) (h : Q → Pt → Bool) (ar : Q → Int) : List (FuncId × Spec) := [(12, s0 (bw true)), (13, sR fun r => bw (v r)), (14, sR fun r => bw (v r)), (15, sR fun r => bw (e r)), (16, sR fun r => bw (e r)), (17, sRP fun r p => bw (h r p)), (18, sRP fun r p => bw (h r p)), (19, sR fun r => iv (ar r)), (20, sR fun r => iv (ar r))]
theorem g3 : ∀ f, Meets Try.prog f (specsOf (G3 valid empty has area) f) := specs_cons m12 (specs_cons m13 (specs_cons m14 (specs_cons m15 (specs_cons m16 (specs_cons m17 (specs_cons m18 (specs_cons m19 (specs_cons m20 specs_nil))))))))
theorem t3 (v e : Q → Bool) (h : Q → Pt → Bool) (ar : Q → Int) (a b c d x y : Int) : evalF (E (G3 v e h ar)) Try.f3 [q4 a b c d, p2 x y] = bif v (a, b, c, d) == v (a, b, c, d) then bif e (a, b, c, d) == e (a, b, c, d) then
    bif h (a, b, c, d) (x, y) == h (a, b, c, d) (x, y) then ob (ar (a, b, c, d) == ar (a, b, c, d)) else ob false else ob false else ob false := by kernel_rfl
theorem e3 (a b c d x y : Int) : evalF (E (G3 valid empty has area)) Try.f3 [q4 a b c d, p2 x y] = ob true := by
  rw [t3]; simp
theorem m3 : Meets Try.prog 3 (sRP fun _ _ => bw true) := mRP (rdE g3 (n := 3) (fn := Try.f3) (k := 2) (by kernel_rfl) (by kernel_rfl) (of_decide_eq_true (by kernel_rfl)) (by kernel_rfl)) e3
end Go.Proofs.Ythdndibmakfifaa.Ev
