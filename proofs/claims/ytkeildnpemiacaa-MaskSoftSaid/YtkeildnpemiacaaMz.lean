/- That the law of soft masks answers true. Conditions: none. -/
import Derived.Test.YtkeildnpemiacaaMy
import Derived.Test.YtkeildnpemiacaaMf
namespace Go.Proofs.Ytkeildnpemiacaa.Ev
open Go.Proofs
set_option linter.unusedVariables false
set_option linter.unusedSimpArgs false
set_option maxRecDepth 100000
set_option maxHeartbeats 1000000

theorem Good.rowsLe {w h : Int} {l : List Int} {N : Nat} (g : Good w h l N) (g' : Int → Int → Int) : (rowsG g' w.toNat h.toNat 0).length ≤ 65536 := by
  have hs := size_le g.size.1 g.size.2.1 g.size.2.2.1 g.size.2.2.2.1
  rw [rowsG_len]
  omega
theorem feat_le (m : Mk) (r : Int) : (featM m r).1.2.2.length ≤ 65536 := by
  obtain ⟨w, h, l⟩ := m
  unfold featM
  by_cases hc : checkM (w, h, l) = 0
  · rw [if_neg (fun h => h hc)]
    split
    · exact Nat.zero_le _
    · exact (good_of hc).rowsLe _
  · rw [if_pos hc]; exact Nat.zero_le _
theorem grow_le (m : Mk) (n : Int) : (growM m n).1.2.2.length ≤ 65536 := by
  obtain ⟨w, h, l⟩ := m
  unfold growM
  by_cases hc : checkM (w, h, l) = 0
  · rw [if_neg (fun h => h hc)]
    split
    · exact Nat.zero_le _
    · exact (good_of hc).rowsLe _
  · rw [if_pos hc]; exact Nat.zero_le _
def L6 (fe gr : Mk → Int → Mk × Int) (sm : Mk → Mk → Bool) : List Entry := [(32, pT dMI, sp dMI fun a => mev (fe a.1 a.2)), (33, pT dMI, sp dMI fun a => mev (fe a.1 a.2)), (34, pT dMI, sp dMI fun a => mev (gr a.1 a.2)), (35, pT dMI, sp dMI fun a => mev (gr a.1 a.2)),
  (16, pT d0, sp d0 fun _ => bw true), (17, ps dMM fun a => decide (a.1.2.2.length < 4611686018427387904), sp dMM fun a => bw (sm a.1 a.2))]
theorem gs6 : ∀ f, Meets Try.prog f ((EG (L6 featM growM sameM)).sp f) := eg_cons m32 (eg_cons m33 (eg_cons m34 (eg_cons m35 (eg_cons m16 (eg_cons m17 eg_nil)))))
theorem t6 (fe gr : Mk → Int → Mk × Int) (sm : Mk → Mk → Bool) (w h : Int) (l : List Int) (r n : Int) : evalF (EG (L6 fe gr sm)) Try.f6 [mk3 w h l, iv r, iv n] =
    bif (fe (w, h, l) r).2 == (fe (w, h, l) r).2 then gl (fe (w, h, l) r).1 (bif sm (fe (w, h, l) r).1 (fe (w, h, l) r).1 then
      bif (gr (w, h, l) n).2 == (gr (w, h, l) n).2 then gl (gr (w, h, l) n).1 (ob (sm (gr (w, h, l) n).1 (gr (w, h, l) n).1)) else ob false else ob false) else ob false := by kernel_rfl
@[reducible] def nSo (m : Mk × Int × Int) : List AV := [mv m.1, iv m.2.1, iv m.2.2]
def dSo : List AV → Option (Mk × Int × Int)
  | [.rv (.agg [.int .i64 a, .int .i64 b, .sl none (.ints l)]), .rv (.sc (.int .i64 x)), .rv (.sc (.int .i64 y))] => some ((a, b, l), x, y)
  | _ => none
theorem hSo {us : List AV} {a} (h : dSo us = some a) : us = nSo a := by unfold dSo at h; split at h <;> cases h; rfl
theorem m6 : Meets Try.prog 6 (gate (pT dSo) (sp dSo fun _ => bw true)) := mG (rdE gs6 (fn := Try.f6) (k := 3) (by kernel_rfl) (by kernel_rfl) (of_decide_eq_true (by kernel_rfl)) (by kernel_rfl)) (fun _ _ => hSo) (fun _ => ⟨rfl, Nat.le_refl _⟩)
  fun ⟨⟨w, h, l⟩, r, n⟩ _ => by
    refine (t6 featM growM sameM w h l r n).trans ?_
    rw [gl_ok (feat_le _ _), gl_ok (grow_le _ _), sameM_self, sameM_self, beq_self_eq_true, beq_self_eq_true]
    rfl
end Go.Proofs.Ytkeildnpemiacaa.Ev
