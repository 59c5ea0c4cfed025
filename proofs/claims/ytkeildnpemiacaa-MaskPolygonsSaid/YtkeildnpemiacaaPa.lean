/- That the law of polygons answers true for polygons of less than 2^62 points. Conditions: none. -/
import Derived.Test.YtkeildnpemiacaaMf
import Derived.Test.YtkeildnpemiacaaCk
namespace Go.Proofs.Ytkeildnpemiacaa.Ev
open Go.Proofs
set_option linter.unusedVariables false
set_option linter.unusedSimpArgs false
set_option maxRecDepth 100000
set_option maxHeartbeats 1000000

@[reducible] def nIIPs (a : Int × Int × List Pt) : List AV := [iv a.1, iv a.2.1, psv a.2.2]
def dIIPs : List AV → Option (Int × Int × List Pt)
  | [.rv (.sc (.int .i64 a)), .rv (.sc (.int .i64 b)), .rv (.sc (.sl none (.pts l)))] => some (a, b, l)
  | _ => none
theorem hIIPs {us : List AV} {a} (h : dIIPs us = some a) : us = nIIPs a := by unfold dIIPs at h; split at h <;> cases h; rfl
def shortL (l : List Pt) : Bool := decide (l.length < 4611686018427387904)
theorem short1 (l : List Pt) : shortPs [l] = shortL l := by
  unfold shortPs shortL
  rw [decide_eq_true (by simp : [l].length < 4611686018427387904)]
  simp
/-- The mask of a polygon, by the mask of polygons. -/
def polyX (mk' : Ps → Int → Q → Mk × Int) (w h : Int) (l : List Pt) : Mk × Int := bif sizeE w h != 0 then ((0, 0, []), sizeE w h) else mk' [l] 0 (0, 0, w, h)
def polyM (w h : Int) (l : List Pt) : Mk × Int := polyX maskP w h l
theorem polyR_eq {l : List Pt} (hl : l.length < 4611686018427387904) (w h : Int) : polyX maskR w h l = polyM w h l := by
  unfold polyM polyX
  rw [maskP_R (chk_eq (by simp only [totN]; omega) 0)]
abbrev pPo : List AV → Bool := ps dIIPs fun a => shortL a.2.2
def L22 (f : FuncId) (sz : Int → Int → Int) (mk' : Ps → Int → Q → Mk × Int) : List Entry := [(56, pT dII, sp dII fun a => iv (sz a.1 a.2)), (58, pT dII, sp dII fun a => bw (sz a.1 a.2 == 0)), (f, pMk, sp dPRQ fun a => mev (mk' a.1 a.2.1 a.2.2))]
def gS (l : List Pt) (K : Option (AV × List AV)) : Option (AV × List AV) := bif shortPs [l] then K else none
theorem t22 (sz : Int → Int → Int) (mk' : Ps → Int → Q → Mk × Int) (w h : Int) (l : List Pt) : evalF (EG (L22 57 sz mk')) Try.f22 (nIIPs (w, h, l)) = bif sz w h != 0 then om ((0, 0, []), sz w h) else gS l (om (mk' [l] 0 (0, 0, w, h))) := by kernel_rfl
theorem t23 (sz : Int → Int → Int) (mk' : Ps → Int → Q → Mk × Int) (w h : Int) (l : List Pt) : evalF (EG (L22 59 sz mk')) Try.f23 (nIIPs (w, h, l)) = bif !(sz w h == 0) then om ((0, 0, []), 15) else gS l (om (mk' [l] 0 (0, 0, w, h))) := by kernel_rfl
abbrev sPo : Spec := sp dIIPs fun a => mev (polyM a.1 a.2.1 a.2.2)
theorem m22 : Meets Try.prog 22 (gate pPo sPo) := mG (rdE (l := L22 57 sizeE maskP) (eg_cons m56 (eg_cons m58 (eg_cons mMk eg_nil))) (fn := Try.f22) (k := 3) (by kernel_rfl) (by kernel_rfl) (of_decide_eq_true (by kernel_rfl)) (by kernel_rfl)) (fun _ _ => hIIPs) (fun _ => ⟨rfl, Nat.le_refl _⟩)
  fun ⟨w, h, l⟩ hp => by
    have hp : shortL l = true := hp
    refine (t22 sizeE maskP w h l).trans ?_
    show _ = om (polyM w h l)
    unfold polyM polyX gS
    rw [short1, hp]
    cases sizeE w h != 0 <;> rfl
theorem m23 : Meets Try.prog 23 (gate pPo sPo) := mG (rdE (l := L22 59 sizeE maskR) (eg_cons m56 (eg_cons m58 (eg_cons mMkR eg_nil))) (fn := Try.f23) (k := 3) (by kernel_rfl) (by kernel_rfl) (of_decide_eq_true (by kernel_rfl)) (by kernel_rfl)) (fun _ _ => hIIPs) (fun _ => ⟨rfl, Nat.le_refl _⟩)
  fun ⟨w, h, l⟩ hp => by
    have hp : shortL l = true := hp
    refine (t23 sizeE maskR w h l).trans ?_
    show _ = om (polyM w h l)
    rw [← polyR_eq (of_decide_eq_true hp)]
    unfold polyX gS
    rw [short1, hp]
    by_cases hz : sizeE w h = 0
    · rw [hz]; rfl
    · have h15 : sizeE w h = 15 := by
        unfold sizeE at hz ⊢
        split at hz
        · exact absurd rfl hz
        · rename_i c; rw [if_neg c]
      rw [h15]; rfl
theorem maskX_le (e : Int) (f : Int → Int → Bool) (r : Q) : (maskX e f r).1.2.2.length ≤ 65536 := by
  unfold maskX
  cases e != 0
  · by_cases h : placeE r = 0
    · rw [bne_eq_false_iff_eq.mpr h]
      cases empty r
      · have hq := of_decide_eq_true (placeE_ok h)
        show (pxA _ _ _ _ _).length ≤ 65536
        rw [pxA_len]
        have : r.2.2.2.toNat * r.2.2.1.toNat ≤ 256 * 256 := Nat.mul_le_mul (by omega) (by omega)
        omega
      · exact Nat.zero_le _
    · rw [bne_iff_ne.mpr h]; exact Nat.zero_le _
  · exact Nat.zero_le _
theorem polyM_le (w h : Int) (l : List Pt) : (polyM w h l).1.2.2.length ≤ 65536 := by
  unfold polyM polyX
  cases sizeE w h != 0
  · exact maskX_le _ _ _
  · exact Nat.zero_le _
def gq4 (m : Mk) (K : Option (AV × List AV)) : Option (AV × List AV) := bif decide (m.2.2.length < 4611686018427387904) then K else none
def gl4 (l : List Pt) (K : Option (AV × List AV)) : Option (AV × List AV) := bif shortL l then K else none
def L4 (po : Int → Int → List Pt → Mk × Int) (sm : Mk → Mk → Bool) : List Entry := [(22, pPo, sp dIIPs fun a => mev (po a.1 a.2.1 a.2.2)), (23, pPo, sp dIIPs fun a => mev (po a.1 a.2.1 a.2.2)), (16, pT d0, sp d0 fun _ => bw true), (17, ps dMM fun a => decide (a.1.2.2.length < 4611686018427387904), sp dMM fun a => bw (sm a.1 a.2))]
theorem t4 (po : Int → Int → List Pt → Mk × Int) (sm : Mk → Mk → Bool) (w h : Int) (l : List Pt) : evalF (EG (L4 po sm)) Try.f4 (nIIPs (w, h, l)) = gl4 l (gl4 l (bif (po w h l).2 == (po w h l).2 then gq4 (po w h l).1 (ob (sm (po w h l).1 (po w h l).1)) else ob false)) := by kernel_rfl
theorem m4 : Meets Try.prog 4 (gate pPo (sp dIIPs fun _ => bw true)) := mG (rdE (l := L4 polyM sameM) (eg_cons m22 (eg_cons m23 (eg_cons m16 (eg_cons m17 eg_nil)))) (fn := Try.f4) (k := 3) (by kernel_rfl) (by kernel_rfl) (of_decide_eq_true (by kernel_rfl)) (by kernel_rfl)) (fun _ _ => hIIPs) (fun _ => ⟨rfl, Nat.le_refl _⟩)
  fun ⟨w, h, l⟩ hp => by
    have hp : shortL l = true := hp
    refine (t4 polyM sameM w h l).trans ?_
    have hl := polyM_le w h l
    unfold gl4 gq4
    rw [hp, sameM_self, beq_self_eq_true, decide_eq_true (by omega : (polyM w h l).1.2.2.length < 4611686018427387904)]
    rfl
theorem hS4 {w h : Int} {l : List Pt} (hl : l.length < 4611686018427387904) : (gate pPo (sp dIIPs fun _ => bw true)) [iv w, iv h, psv l] = some (bw true, []) := by
  show (bif shortL l then some (bw true, []) else none) = _
  rw [show shortL l = true from decide_eq_true hl]; rfl
end Go.Proofs.Ytkeildnpemiacaa.Ev
