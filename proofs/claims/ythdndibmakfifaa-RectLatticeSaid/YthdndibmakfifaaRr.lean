/- That the law of the lattice answers true. Conditions: none. -/
import Derived.Test.YthdndibmakfifaaRn
import Derived.Test.YthdndibmakfifaaRq
namespace Go.Proofs.Ythdndibmakfifaa.Ev
open Go.Proofs
set_option linter.unusedVariables false
set_option maxRecDepth 100000
set_option maxHeartbeats 0

def G8 (w : Q → Q → Bool) (m j : Q → Q → Q) (em : Q → Bool) : List (FuncId × Spec) := [(12, s0 (bw true)), (23, sRR fun a b => qv (m a b)), (25, sRR fun a b => qv (j a b)), (21, sRR fun a b => bw (w a b)), (15, sR fun a => bw (em a))]
theorem g8 : ∀ f, Meets Try.prog f (specsOf (G8 within meetR join empty) f) := specs_cons m12 (specs_cons m23 (specs_cons m25 (specs_cons m21 (specs_cons m15 specs_nil))))
def tree8 (w : Q → Q → Bool) (m j : Q → Q → Q) (em : Q → Bool) (A B C : Q) : Option (AV × List AV) :=
  bif !sq (m A B) (m B A) then ob false else bif !sq (m (m A B) C) (m A (m B C)) then ob false else bif !sq (m (m A B) (m A B)) (m A B) then ob false else
  bif !w (m A B) A then ob false else bif !w (m A B) B then ob false else bif em A then ob true else bif sq (m A A) A then ob (sq (m A (j A B)) A) else ob false
theorem t8 (w : Q → Q → Bool) (m j : Q → Q → Q) (em : Q → Bool) (a b c d a' b' c' d' x y z t : Int) : evalF (E (G8 w m j em)) Try.f8 [q4 a b c d, q4 a' b' c' d', q4 x y z t] = tree8 w m j em (a, b, c, d) (a', b', c', d') (x, y, z, t) := by kernel_rfl
theorem e8 (a b c d a' b' c' d' x y z t : Int) : evalF (E (G8 within meetR join empty)) Try.f8 [q4 a b c d, q4 a' b' c' d', q4 x y z t] = ob true := by
  rw [t8]
  unfold tree8
  rw [meetR_comm (a', b', c', d') (a, b, c, d), meetR_assoc, meetR_idem, within_l, within_r]
  simp only [sq_self, Bool.not_true, cond_false]
  cases h : empty (a, b, c, d)
  · rw [meetR_self h, meetR_join _ h, sq_self]; rfl
  · rfl
def sRRR (f : AV) : Spec
  | [.rv (.agg [.int .i64 a, .int .i64 b, .int .i64 c, .int .i64 d]), .rv (.agg [.int .i64 a', .int .i64 b', .int .i64 c', .int .i64 d']), .rv (.agg [.int .i64 x, .int .i64 y, .int .i64 z, .int .i64 t])] => some (f, [])
  | _ => none
theorem m8 : Meets Try.prog 8 (sRRR (bw true)) :=
  (rdE g8 (n := 8) (fn := Try.f8) (k := 3) (by kernel_rfl) (by kernel_rfl) (of_decide_eq_true (by kernel_rfl)) (by kernel_rfl)).meets fun us x fin hs => by
    unfold sRRR at hs
    split at hs
    · cases hs; exact ⟨by simp, Nat.le_refl _, e8 ..⟩
    · cases hs
end Go.Proofs.Ythdndibmakfifaa.Ev
