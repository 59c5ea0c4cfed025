/- The worked examples of the chapter hold. Conditions: none. -/
import Derived.Test.YtbgfgadekmemeaaDc
namespace Go.Proofs.Ytbgfgadekmemeaa.Ev
open Go.Proofs
set_option linter.unusedVariables false
set_option linter.unusedSimpArgs false
set_option maxRecDepth 100000
set_option maxHeartbeats 1000000

@[reducible] def nI4 (a : Int × Int × Int × Int) : List AV := [iv a.1, iv a.2.1, iv a.2.2.1, iv a.2.2.2]
def dI4 : List AV → Option (Int × Int × Int × Int)
  | [.rv (.sc (.int .i64 a)), .rv (.sc (.int .i64 b)), .rv (.sc (.int .i64 c)), .rv (.sc (.int .i64 d))] => some (a, b, c, d)
  | _ => none
theorem hI4 {us : List AV} {a} (h : dI4 us = some a) : us = nI4 a := by unfold dI4 at h; split at h <;> cases h; rfl
def sqr (x0 y0 x1 y1 : Int) : List Pt := [(x0, y0), (x1, y0), (x1, y1), (x0, y1)]
abbrev sSq : Spec := sp dI4 fun a => psv (sqr a.1 a.2.1 a.2.2.1 a.2.2.2)
theorem tSq (a b c d : Int) : evalF (EG []) Try.f23 [iv a, iv b, iv c, iv d] = some (psv (sqr a b c d), []) := by kernel_rfl
theorem mSq : Meets Try.prog 23 (gate (pT dI4) sSq) := mG (rdE eg_nil (fn := Try.f23) (k := 4) (by kernel_rfl) (by kernel_rfl) (of_decide_eq_true (by kernel_rfl)) (by kernel_rfl)) (fun _ _ => hI4) (fun _ => ⟨rfl, Nat.le_refl _⟩)
  fun ⟨a, b, c, d⟩ _ => tSq a b c d
/-! ### covers -/
@[reducible] def nCv (a : Ps × Int × List Int) : List AV := [plv a.1, iv a.2.1, isv a.2.2]
def dCv : List AV → Option (Ps × Int × List Int)
  | [.rv (.sc (.sl none (.polys l))), .rv (.sc (.int .i64 b)), .rv (.sc (.sl none (.ints w)))] => some (l, b, w)
  | _ => none
theorem hCv {us : List AV} {a} (h : dCv us = some a) : us = nCv a := by unfold dCv at h; split at h <;> cases h; rfl
abbrev pSm : List AV → Bool := ps dMM fun a => decide (a.1.2.2.length < 4611686018427387904)
def cvX (mk' : Ps → Int → Q → Mk × Int) (sm : Mk → Mk → Bool) (ps : Ps) (rule : Int) (w : List Int) : Bool := bif (mk' ps rule (0, 0, w.length, 1)).2 == 0 then sm (mk' ps rule (0, 0, w.length, 1)).1 (w.length, 1, w) else false
def LCv (mk' : Ps → Int → Q → Mk × Int) (sm : Mk → Mk → Bool) : List Entry := [(18, pMk, sp dPRQ fun a => mev (mk' a.1 a.2.1 a.2.2)), (20, pSm, sp dMM fun a => bw (sm a.1 a.2))]
theorem tCv (mk' : Ps → Int → Q → Mk × Int) (sm : Mk → Mk → Bool) (ps : Ps) (rule : Int) (w : List Int) : evalF (EG (LCv mk' sm)) Try.f31 [plv ps, iv rule, isv w] = bif shortPs ps then bif (mk' ps rule (0, 0, w.length, 1)).2 == 0 then
    bif decide ((mk' ps rule (0, 0, w.length, 1)).1.2.2.length < 4611686018427387904) then ob (sm (mk' ps rule (0, 0, w.length, 1)).1 (w.length, 1, w)) else none else ob false else none := by kernel_rfl
theorem maskX_le (e : Int) (f : Int → Int → Bool) (r : Q) : (maskX e f r).1.2.2.length ≤ 65536 := by
  unfold maskX
  cases e != 0
  · by_cases h : placeE r = 0
    · rw [bne_eq_false_iff_eq.mpr h]
      cases empty r
      · have hq := of_decide_eq_true (placeE_ok h)
        show (pxA _ _ _ _ _).length ≤ 65536
        rw [pxA_len]
        have : r.2.2.2.toNat * r.2.2.1.toNat ≤ 256 * 256 := Nat.mul_le_mul (by omega) (by omega)
        omega
      · exact Nat.zero_le _
    · rw [bne_iff_ne.mpr h]; exact Nat.zero_le _
  · exact Nat.zero_le _
theorem mask_lt (ps : Ps) (rule : Int) (r : Q) : decide ((maskP ps rule r).1.2.2.length < 4611686018427387904) = true := decide_eq_true (Nat.lt_of_le_of_lt (maskX_le _ _ _) (by decide))
abbrev pCv : List AV → Bool := ps dCv fun a => shortPs a.1
abbrev sCv : Spec := sp dCv fun a => bw (cvX maskP sameM a.1 a.2.1 a.2.2)
theorem mCv : Meets Try.prog 31 (gate pCv sCv) := mG (rdE (l := LCv maskP sameM) (eg_cons mMk (eg_cons m20 eg_nil)) (fn := Try.f31) (k := 3) (by kernel_rfl) (by kernel_rfl) (of_decide_eq_true (by kernel_rfl)) (by kernel_rfl)) (fun _ _ => hCv) (fun _ => ⟨rfl, Nat.le_refl _⟩)
  fun ⟨ps, rule, w⟩ hp => by
    have hp : shortPs ps = true := hp
    refine (tCv maskP sameM ps rule w).trans ?_
    show _ = ob (cvX maskP sameM ps rule w)
    unfold cvX
    rw [hp, mask_lt]
    cases (maskP ps rule (0, 0, w.length, 1)).2 == 0 <;> rfl
/-! ### awake -/
def sqA : List Pt := [(0, 0), (32, 0), (32, 32), (0, 32)]
def triB : List Pt := [(0, 0), (16, 0), (0, 16)]
def treeAw (cv : Ps → Int → List Int → Bool) (tw : List Pt → Int) (bx : Q) (pa : Im × Int) (ck : Ps → Int → Int) : Option (AV × List AV) :=
  bif !cv [sqA] 0 [65535, 65535, 0] then ob false else bif !cv [[(8, 0), (24, 0), (24, 16), (8, 16)]] 1 [32768, 32768] then ob false else bif !cv [triB] 0 [30720, 0] then ob false else bif !cv [sqA, sqA] 0 [65535, 65535] then ob false else
    bif !cv [sqA, sqA] 1 [0, 0] then ob false else bif tw sqA != 2048 then ob false else bif tw triB != 256 then ob false else bif !(bx.1 == 0 && (bx.2.1 == 0 && (bx.2.2.1 == 3 && (bx.2.2.2 == 3 && true)))) then ob false else
      bif pa.2 != 0 then ob false else bif pa.1.1 != 2 then ob false else bif pa.1.2.1 != 1 then ob false else bif (pa.1.2.2.length : Int) != 2 then ob false else
        bif decide ((0 : Int) ≤ 0) && decide ((0 : Int) < pa.1.2.2.length) then
          bif !((pa.1.2.2.getD 0 (0, 0, 0, 0)).1 == 5 && ((pa.1.2.2.getD 0 (0, 0, 0, 0)).2.1 == 6 && ((pa.1.2.2.getD 0 (0, 0, 0, 0)).2.2.1 == 7 && ((pa.1.2.2.getD 0 (0, 0, 0, 0)).2.2.2 == 65535 && true)))) then ob false else
            bif decide ((0 : Int) ≤ 1) && decide ((1 : Int) < pa.1.2.2.length) then
              bif !((pa.1.2.2.getD 1 (0, 0, 0, 0)).1 == 0 && ((pa.1.2.2.getD 1 (0, 0, 0, 0)).2.1 == 0 && ((pa.1.2.2.getD 1 (0, 0, 0, 0)).2.2.1 == 0 && ((pa.1.2.2.getD 1 (0, 0, 0, 0)).2.2.2 == 0 && true)))) then ob false else
                bif ck [] 2 == 8 then ob (ck [[(16777217, 0)]] 0 == 2) else ob false
            else none
        else none
def LAw (cv : Ps → Int → List Int → Bool) (tw : List Pt → Int) (bx : Ps → Q) (pa : Ps → Int → Q → Q → Im × Int) (ck : Ps → Int → Int) : List Entry := [(23, pT dI4, sSq), (31, pCv, sp dCv fun a => bw (cv a.1 a.2.1 a.2.2)), (16, pTw, sp dPs fun l => iv (tw l)), (14, pBx, sp dPls fun l => qv (bx l)), (21, pPa, sp dPRQQ fun a => iev (pa a.1 a.2.1 a.2.2.1 a.2.2.2)), (12, pCk, sp dPR fun a => iv (ck a.1 a.2))]
theorem tAw (cv : Ps → Int → List Int → Bool) (tw : List Pt → Int) (bx : Ps → Q) (pa : Ps → Int → Q → Q → Im × Int) (ck : Ps → Int → Int) : evalF (EG (LAw cv tw bx pa ck)) Try.f11 [] = treeAw cv tw (bx [sqA]) (pa [sqA] 0 (5, 6, 7, 65535) (1, 1, 2, 1)) ck := by kernel_rfl
theorem ex1 : cvX maskP sameM [sqA] 0 [65535, 65535, 0] = true := by kernel_rfl
theorem ex2 : cvX maskP sameM [[(8, 0), (24, 0), (24, 16), (8, 16)]] 1 [32768, 32768] = true := by kernel_rfl
theorem ex3 : cvX maskP sameM [triB] 0 [30720, 0] = true := by kernel_rfl
theorem ex4 : cvX maskP sameM [sqA, sqA] 0 [65535, 65535] = true := by kernel_rfl
theorem ex5 : cvX maskP sameM [sqA, sqA] 1 [0, 0] = true := by kernel_rfl
theorem ex6 : twice sqA = 2048 := by kernel_rfl
theorem ex7 : twice triB = 256 := by kernel_rfl
theorem ex8 : boxP [sqA] = (0, 0, 3, 3) := by kernel_rfl
theorem ex9 : paintP [sqA] 0 (5, 6, 7, 65535) (1, 1, 2, 1) = ((2, 1, [(5, 6, 7, 65535), (0, 0, 0, 0)]), 0) := by kernel_rfl
theorem ex10 : chkC [] 2 = 8 := by kernel_rfl
theorem ex11 : chkC [[(16777217, 0)]] 0 = 2 := by kernel_rfl
@[reducible] def n0 (_ : Unit) : List AV := []
def d0 : List AV → Option Unit
  | [] => some ()
  | _ => none
theorem h0 {us : List AV} {a} (h : d0 us = some a) : us = n0 a := by unfold d0 at h; split at h <;> cases h; rfl
theorem mAw : Meets Try.prog 11 (gate (pT d0) (sp d0 fun _ => bw true)) := mG (rdE (l := LAw (cvX maskP sameM) twice boxP paintP chkC) (eg_cons mSq (eg_cons mCv (eg_cons mTw (eg_cons mBx (eg_cons mPa (eg_cons m88 eg_nil)))))) (fn := Try.f11) (k := 0) (by kernel_rfl) (by kernel_rfl) (of_decide_eq_true (by kernel_rfl)) (by kernel_rfl)) (fun _ _ => h0) (fun _ => ⟨rfl, Nat.le_refl _⟩)
  fun _ _ => by
    refine (tAw (cvX maskP sameM) twice boxP paintP chkC).trans ?_
    unfold treeAw
    rw [ex1, ex2, ex3, ex4, ex5, ex6, ex7, ex8, ex9, ex10, ex11]
    rfl
end Go.Proofs.Ytbgfgadekmemeaa.Ev
