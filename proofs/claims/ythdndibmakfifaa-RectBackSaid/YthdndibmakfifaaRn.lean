/- That the laws of pairs and of moving answer true. Conditions: none. -/
import Derived.Test.YthdndibmakfifaaRm
namespace Go.Proofs.Ythdndibmakfifaa.Ev
open Go.Proofs
set_option linter.unusedVariables false
set_option maxRecDepth 100000
set_option maxHeartbeats 0

def sq (r s : Q) : Bool := r.1 == s.1 && (r.2.1 == s.2.1 && (r.2.2.1 == s.2.2.1 && (r.2.2.2 == s.2.2.2 && true)))
theorem sq_self (r : Q) : sq r r = true := by simp [sq]
/-! The evaluations, for any functions in the place of the plain ones. -/
def G4 (w : Q → Q → Bool) (m j : Q → Q → Q) : List (FuncId × Spec) := [(12, s0 (bw true)), (21, sRR fun a b => bw (w a b)), (22, sRR fun a b => bw (w a b)), (23, sRR fun a b => qv (m a b)), (24, sRR fun a b => qv (m a b)), (25, sRR fun a b => qv (j a b)), (26, sRR fun a b => qv (j a b))]
def G5 (m : Q → Pt → Q) (g : Q → Int → Q) : List (FuncId × Spec) := [(12, s0 (bw true)), (27, sRP fun r p => qv (m r p)), (28, sRP fun r p => qv (m r p)), (29, sRI fun r p => qv (g r p)), (30, sRI fun r p => qv (g r p))]
theorem g4 : ∀ f, Meets Try.prog f (specsOf (G4 within meetR join) f) := specs_cons m12 (specs_cons m21 (specs_cons m22 (specs_cons m23 (specs_cons m24 (specs_cons m25 (specs_cons m26 specs_nil))))))
theorem g5 : ∀ f, Meets Try.prog f (specsOf (G5 move grow) f) := specs_cons m12 (specs_cons m27 (specs_cons m28 (specs_cons m29 (specs_cons m30 specs_nil))))
theorem t4 (w : Q → Q → Bool) (m j : Q → Q → Q) (a b c d a' b' c' d' : Int) : evalF (E (G4 w m j)) Try.f4 [q4 a b c d, q4 a' b' c' d'] = bif w (a, b, c, d) (a', b', c', d') == w (a, b, c, d) (a', b', c', d') then
    bif sq (m (a, b, c, d) (a', b', c', d')) (m (a, b, c, d) (a', b', c', d')) then ob (sq (j (a, b, c, d) (a', b', c', d')) (j (a, b, c, d) (a', b', c', d'))) else ob false else ob false := by kernel_rfl
theorem t5 (m : Q → Pt → Q) (g : Q → Int → Q) (a b c d x y n : Int) : evalF (E (G5 m g)) Try.f5 [q4 a b c d, p2 x y, iv n] = bif sq (m (a, b, c, d) (x, y)) (m (a, b, c, d) (x, y)) then ob (sq (g (a, b, c, d) n) (g (a, b, c, d) n)) else ob false := by kernel_rfl
theorem e4 (a b c d a' b' c' d' : Int) : evalF (E (G4 within meetR join)) Try.f4 [q4 a b c d, q4 a' b' c' d'] = ob true := by
  rw [t4, sq_self, sq_self]; simp
theorem e5 (a b c d x y n : Int) : evalF (E (G5 move grow)) Try.f5 [q4 a b c d, p2 x y, iv n] = ob true := by
  rw [t5, sq_self, sq_self]; rfl
def sRPI (f : AV) : Spec
  | [.rv (.agg [.int .i64 a, .int .i64 b, .int .i64 c, .int .i64 d]), .rv (.agg [.int .i64 x, .int .i64 y]), .rv (.sc (.int .i64 n))] => some (f, [])
  | _ => none
theorem m4 : Meets Try.prog 4 (sRR fun _ _ => bw true) := mRR (rdE g4 (n := 4) (fn := Try.f4) (k := 2) (by kernel_rfl) (by kernel_rfl) (of_decide_eq_true (by kernel_rfl)) (by kernel_rfl)) e4
theorem m5 : Meets Try.prog 5 (sRPI (bw true)) :=
  (rdE g5 (n := 5) (fn := Try.f5) (k := 3) (by kernel_rfl) (by kernel_rfl) (of_decide_eq_true (by kernel_rfl)) (by kernel_rfl)).meets fun us x fin hs => by
    unfold sRPI at hs
    split at hs
    · cases hs; exact ⟨by simp, Nat.le_refl _, e5 ..⟩
    · cases hs
end Go.Proofs.Ythdndibmakfifaa.Ev
