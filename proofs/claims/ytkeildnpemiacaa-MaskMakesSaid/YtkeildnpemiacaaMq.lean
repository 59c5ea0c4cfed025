/- That the law of making masks answers true. Conditions: none. -/
import Derived.Test.YtkeildnpemiacaaMf
import Derived.Test.YtkeildnpemiacaaMp
namespace Go.Proofs.Ytkeildnpemiacaa.Ev
open Go.Proofs
set_option linter.unusedVariables false
set_option linter.unusedSimpArgs false
set_option maxRecDepth 100000
set_option maxHeartbeats 1000000

theorem made_le {w h : Int} (hs : sizeE w h = 0) : w.toNat * h.toNat ≤ 65536 := by
  have := (sizeE_iff w h).mp hs
  exact (size_le (by omega) (by omega) (by omega) (by omega)).1
theorem news_le (w h v : Int) : (newM w h v).1.2.2.length ≤ 65536 := by
  unfold newM
  by_cases hc : sizeE w h = 0
  · rw [if_neg (fun h => h hc)]
    split
    · exact Nat.zero_le _
    · show (seqL _ _ _).length ≤ 65536
      rw [seqL_len]; exact made_le hc
  · rw [if_pos hc]; exact Nat.zero_le _
theorem recs_le (w h : Int) (r : Q) : (recM w h r).1.2.2.length ≤ 65536 := by
  unfold recM
  by_cases hc : sizeE w h = 0
  · rw [if_neg (fun h => h hc)]
    split
    · exact Nat.zero_le _
    · show (rowsG _ _ _ _).length ≤ 65536
      rw [rowsG_len]; exact made_le hc
  · rw [if_pos hc]; exact Nat.zero_le _
theorem ells_le (w h : Int) (r : Q) : (ellM w h r).1.2.2.length ≤ 65536 := by
  unfold ellM
  by_cases hc : sizeE w h = 0
  · rw [if_neg (fun h => h hc)]
    split
    · exact Nat.zero_le _
    · show (rowsG _ _ _ _).length ≤ 65536
      rw [rowsG_len]; exact made_le hc
  · rw [if_pos hc]; exact Nat.zero_le _
def gq (m : Mk) (K : Option (AV × List AV)) : Option (AV × List AV) := bif decide (m.2.2.length < 4611686018427387904) then K else none
theorem gq_ok {m : Mk} (h : m.2.2.length ≤ 65536) (K : Option (AV × List AV)) : gq m K = K := by unfold gq; rw [decide_eq_true (by omega)]; rfl
def L5 (ck : Mk → Int) (nw : Int → Int → Int → Mk × Int) (rc el : Int → Int → Q → Mk × Int) (sm : Mk → Mk → Bool) : List Entry := [(24, pT dIII, sp dIII fun a => mev (nw a.1 a.2.1 a.2.2)), (25, pT dIII, sp dIII fun a => mev (nw a.1 a.2.1 a.2.2)), (26, pT dIIQ, sp dIIQ fun a => mev (rc a.1 a.2.1 a.2.2)), (27, pT dIIQ, sp dIIQ fun a => mev (rc a.1 a.2.1 a.2.2)),
  (28, pT dIIQ, sp dIIQ fun a => mev (el a.1 a.2.1 a.2.2)), (29, pT dIIQ, sp dIIQ fun a => mev (el a.1 a.2.1 a.2.2)), (16, pT d0, sp d0 fun _ => bw true), (30, pT dM, sp dM fun m => iv (ck m)), (31, pT dM, sp dM fun m => iv (ck m)), (17, ps dMM fun a => decide (a.1.2.2.length < 4611686018427387904), sp dMM fun a => bw (sm a.1 a.2))]
theorem gs5 : ∀ f, Meets Try.prog f ((EG (L5 checkM newM recM ellM sameM)).sp f) := eg_cons m24 (eg_cons m25 (eg_cons m26 (eg_cons m27 (eg_cons m28 (eg_cons m29 (eg_cons m16 (eg_cons m30 (eg_cons m31 (eg_cons m17 eg_nil)))))))))
def tree5 (ck : Mk → Int) (x y z : Mk × Int) (sm : Mk → Mk → Bool) (m : Mk) : Option (AV × List AV) :=
  bif ck m == ck m then bif x.2 == x.2 then gq x.1 (bif sm x.1 x.1 then bif y.2 == y.2 then gq y.1 (bif sm y.1 y.1 then bif z.2 == z.2 then gq z.1 (ob (sm z.1 z.1)) else ob false else ob false) else ob false else ob false) else ob false else ob false
theorem t5 (ck : Mk → Int) (nw : Int → Int → Int → Mk × Int) (rc el : Int → Int → Q → Mk × Int) (sm : Mk → Mk → Bool) (p q : Int) (l : List Int) (w h v a b c d : Int) : evalF (EG (L5 ck nw rc el sm)) Try.f5 [mk3 p q l, iv w, iv h, iv v, q4 a b c d] = tree5 ck (nw w h v) (rc w h (a, b, c, d)) (el w h (a, b, c, d)) sm (p, q, l) := by kernel_rfl
@[reducible] def nMIIIQ (m : Mk × Int × Int × Int × Q) : List AV := [mv m.1, iv m.2.1, iv m.2.2.1, iv m.2.2.2.1, qv m.2.2.2.2]
def dMIIIQ : List AV → Option (Mk × Int × Int × Int × Q)
  | [.rv (.agg [.int .i64 a, .int .i64 b, .sl none (.ints l)]), .rv (.sc (.int .i64 x)), .rv (.sc (.int .i64 y)), .rv (.sc (.int .i64 z)), .rv (.agg [.int .i64 c, .int .i64 d, .int .i64 e, .int .i64 f])] => some ((a, b, l), x, y, z, (c, d, e, f))
  | _ => none
theorem hMIIIQ {us : List AV} {a} (h : dMIIIQ us = some a) : us = nMIIIQ a := by unfold dMIIIQ at h; split at h <;> cases h; rfl
theorem m5 : Meets Try.prog 5 (gate (pT dMIIIQ) (sp dMIIIQ fun _ => bw true)) := mG (rdE gs5 (fn := Try.f5) (k := 5) (by kernel_rfl) (by kernel_rfl) (of_decide_eq_true (by kernel_rfl)) (by kernel_rfl)) (fun _ _ => hMIIIQ) (fun _ => ⟨rfl, Nat.le_refl _⟩)
  fun ⟨⟨p, q, l⟩, w, h, v, a, b, c, d⟩ _ => by
    refine (t5 checkM newM recM ellM sameM p q l w h v a b c d).trans ?_
    unfold tree5
    rw [gq_ok (news_le ..), gq_ok (recs_le ..), gq_ok (ells_le ..), sameM_self, sameM_self, sameM_self, beq_self_eq_true, beq_self_eq_true, beq_self_eq_true, beq_self_eq_true]
    rfl
end Go.Proofs.Ytkeildnpemiacaa.Ev
