/- That the law of masks of polygons answers true where the number of points is no more than a number can tell. Conditions: that number. -/
import Derived.Test.YtbgfgadekmemeaaDf
namespace Go.Proofs.Ytbgfgadekmemeaa.Ev
open Go.Proofs
set_option linter.unusedVariables false
set_option linter.unusedSimpArgs false
set_option maxRecDepth 100000
set_option maxHeartbeats 1000000

def gSp (p : Ps) (K : Option (AV × List AV)) : Option (AV × List AV) := bif shortPs p then K else none
def gLn (m : Mk) (K : Option (AV × List AV)) : Option (AV × List AV) := bif decide (m.2.2.length < 4611686018427387904) then K else none
def L4 (mk' mr : MkF) (sm : SmF) : List Entry := [(11, pT d0, sp d0 fun _ => bw true), (18, pMk, sp dPRQ fun a => mev (mk' a.1 a.2.1 a.2.2)), (19, pMk, sp dPRQ fun a => mev (mr a.1 a.2.1 a.2.2)), (20, pSm, sp dMM fun a => bw (sm a.1 a.2))]
theorem t4 (mk' mr : MkF) (sm : SmF) (p : Ps) (rule x y z t : Int) : evalF (EG (L4 mk' mr sm)) Try.f4 (nPRQ (p, rule, (x, y, z, t))) = gSp p (gSp p (bif (mk' p rule (x, y, z, t)).2 == (mr p rule (x, y, z, t)).2 then gLn (mk' p rule (x, y, z, t)).1 (ob (sm (mk' p rule (x, y, z, t)).1 (mr p rule (x, y, z, t)).1)) else ob false)) := by kernel_rfl
def okSz (p : Ps) : Bool := shortPs p && decide (totN p < 4611686018427387904)
theorem m4 : Meets Try.prog 4 (gate (ps dPRQ fun a => okSz a.1) (sp dPRQ fun _ => bw true)) := mG (rdE (l := L4 maskP maskR sameM) (eg_cons mAw (eg_cons mMk (eg_cons mMkR (eg_cons m20 eg_nil)))) (fn := Try.f4) (k := 3) (by kernel_rfl) (by kernel_rfl) (of_decide_eq_true (by kernel_rfl)) (by kernel_rfl)) (fun _ _ => hPRQ) (fun _ => ⟨rfl, Nat.le_refl _⟩)
  fun ⟨p, rule, ⟨x, y, z, t⟩⟩ hp => by
    have hp : okSz p = true := hp
    simp only [okSz, Bool.and_eq_true, decide_eq_true_eq] at hp
    refine (t4 maskP maskR sameM p rule x y z t).trans ?_
    unfold gSp gLn
    rw [← maskP_R (chk_eq (by omega) rule), hp.1, mask_lt, sameM_self, beq_self_eq_true]
    rfl
theorem hS4 {l : Ps} {rule x y z t : Int} (h1 : l.length < 4611686018427387904 ∧ (l.all fun x => decide (x.length < 4611686018427387904)) = true) (h2 : totN l < 4611686018427387904) : (gate (ps dPRQ fun a => okSz a.1) (sp dPRQ fun _ => bw true)) [plv l, iv rule, q4 x y z t] = some (bw true, []) := by
  show (bif okSz l then some (bw true, []) else none) = _
  have : okSz l = true := by
    unfold okSz shortPs
    rw [h1.2, decide_eq_true h1.1, decide_eq_true h2]; rfl
  rw [this]; rfl
end Go.Proofs.Ytbgfgadekmemeaa.Ev
