/- That the law of reading answers true. Conditions: none. -/
import Derived.Test.YtkeildnpemiacaaMf
import Derived.Test.YtkeildnpemiacaaMm
namespace Go.Proofs.Ytkeildnpemiacaa.Ev
open Go.Proofs
set_option linter.unusedVariables false
set_option linter.unusedSimpArgs false
set_option maxRecDepth 100000
set_option maxHeartbeats 1000000

theorem crops_le {m : Mk} {r : Q} : (cropM m r).1.2.2.length ≤ 65536 := by
  unfold cropM
  by_cases hc : checkM m = 0
  · rw [if_neg (fun h => h hc)]
    cases hv : valid r
    · rw [if_pos rfl]; exact Nat.zero_le _
    · rw [if_neg (by decide)]
      by_cases h1 : r.2.2.1 > 256 ∨ r.2.2.2 > 256
      · rw [if_pos h1]; exact Nat.zero_le _
      · rw [if_neg h1]
        by_cases h2 : m.1 = 0 ∨ empty r = true
        · rw [if_pos h2]; exact Nat.zero_le _
        · rw [if_neg h2]
          obtain ⟨a, b, c, d⟩ := r
          have hvv := (valid_iff a b c d).mp hv
          simp only at h1
          show (rowsG _ c.toNat d.toNat 0).length ≤ 65536
          rw [rowsG_len]
          exact (size_le (by omega) (by omega) (by omega) (by omega)).1
  · rw [if_pos hc]; exact Nat.zero_le _
def sq (r s : Q) : Bool := r.1 == s.1 && (r.2.1 == s.2.1 && (r.2.2.1 == s.2.2.1 && (r.2.2.2 == s.2.2.2 && true)))
theorem sq_self (r : Q) : sq r r = true := by simp [sq]
def g3 (m : Mk) (K : Option (AV × List AV)) : Option (AV × List AV) := bif decide (m.2.2.length < 4611686018427387904) then K else none
def L3 (cr : Mk → Q → Mk × Int) (rd : Mk → Int → Int → Int) (bo : Mk → Q) (sm : Mk → Mk → Bool) : List Entry := [(14, pT dMQ, sp dMQ fun a => mev (cr a.1 a.2)), (15, pT dMQ, sp dMQ fun a => mev (cr a.1 a.2)), (18, pT dMII, sp dMII fun a => iv (rd a.1 a.2.1 a.2.2)), (19, pT dMII, sp dMII fun a => iv (rd a.1 a.2.1 a.2.2)),
  (20, pT dM, sp dM fun m => qv (bo m)), (21, pT dM, sp dM fun m => qv (bo m)), (16, pT d0, sp d0 fun _ => bw true), (17, ps dMM fun a => decide (a.1.2.2.length < 4611686018427387904), sp dMM fun a => bw (sm a.1 a.2))]
theorem gs3 : ∀ f, Meets Try.prog f ((EG (L3 cropM readM boxM sameM)).sp f) := eg_cons m14 (eg_cons m15 (eg_cons m18 (eg_cons m19 (eg_cons m20 (eg_cons m21 (eg_cons m16 (eg_cons m17 eg_nil)))))))
theorem t3 (cr : Mk → Q → Mk × Int) (rd : Mk → Int → Int → Int) (bo : Mk → Q) (sm : Mk → Mk → Bool) (w h : Int) (l : List Int) (x y a b c d : Int) : evalF (EG (L3 cr rd bo sm)) Try.f3 [mk3 w h l, iv x, iv y, q4 a b c d] =
    bif (cr (w, h, l) (a, b, c, d)).2 == (cr (w, h, l) (a, b, c, d)).2 then g3 (cr (w, h, l) (a, b, c, d)).1 (bif sm (cr (w, h, l) (a, b, c, d)).1 (cr (w, h, l) (a, b, c, d)).1 then
      bif rd (w, h, l) x y == rd (w, h, l) x y then ob (sq (bo (w, h, l)) (bo (w, h, l))) else ob false else ob false) else ob false := by kernel_rfl
@[reducible] def nMIIQ (m : Mk × Int × Int × Q) : List AV := [mv m.1, iv m.2.1, iv m.2.2.1, qv m.2.2.2]
def dMIIQ : List AV → Option (Mk × Int × Int × Q)
  | [.rv (.agg [.int .i64 a, .int .i64 b, .sl none (.ints l)]), .rv (.sc (.int .i64 x)), .rv (.sc (.int .i64 y)), .rv (.agg [.int .i64 c, .int .i64 d, .int .i64 e, .int .i64 f])] => some ((a, b, l), x, y, (c, d, e, f))
  | _ => none
theorem hMIIQ {us : List AV} {a} (h : dMIIQ us = some a) : us = nMIIQ a := by unfold dMIIQ at h; split at h <;> cases h; rfl
theorem m3 : Meets Try.prog 3 (gate (pT dMIIQ) (sp dMIIQ fun _ => bw true)) := mG (rdE gs3 (fn := Try.f3) (k := 4) (by kernel_rfl) (by kernel_rfl) (of_decide_eq_true (by kernel_rfl)) (by kernel_rfl)) (fun _ _ => hMIIQ) (fun _ => ⟨rfl, Nat.le_refl _⟩)
  fun ⟨⟨w, h, l⟩, x, y, a, b, c, d⟩ _ => by
    refine (t3 cropM readM boxM sameM w h l x y a b c d).trans ?_
    have hl := crops_le (m := (w, h, l)) (r := (a, b, c, d))
    unfold g3
    rw [decide_eq_true (by omega : (cropM (w, h, l) (a, b, c, d)).1.2.2.length < 4611686018427387904), sameM_self, sq_self, beq_self_eq_true, beq_self_eq_true]
    rfl
end Go.Proofs.Ytkeildnpemiacaa.Ev
