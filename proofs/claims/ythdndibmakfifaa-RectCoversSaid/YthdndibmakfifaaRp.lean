/- That the laws of parts and of tiles answer true. Conditions: none. -/
import Derived.Test.YthdndibmakfifaaRm
namespace Go.Proofs.Ythdndibmakfifaa.Ev
open Go.Proofs
set_option linter.unusedVariables false
set_option maxRecDepth 100000
set_option maxHeartbeats 0

def lenB (us : List AV) : Bool := match us with
  | [.rv (.sc (.sl none (.quads l))), _] => decide (l.length < 4611686018427387904)
  | [.rv (.sc (.sl none (.pts l))), _] => decide (l.length < 4611686018427387904)
  | _ => false
def sQQu (f : List Q → List Q → AV) : Spec
  | [.rv (.sc (.sl none (.quads l))), .rv (.sc (.sl none (.quads m)))] => some (f l m, [])
  | _ => none
def sPPu (f : List Pt → List Pt → AV) : Spec
  | [.rv (.sc (.sl none (.pts l))), .rv (.sc (.sl none (.pts m)))] => some (f l m, [])
  | _ => none
def sqp (r s : Q) : Bool := r.1 == s.1 && (r.2.1 == s.2.1 && (r.2.2.1 == s.2.2.1 && (r.2.2.2 == s.2.2.2 && true)))
def E6 (mi : Q → Q → List Q) (sm : List Q → List Q → Bool) : Env := { E ((31, sQQu fun l m => bw (sm l m)) :: (12, s0 (bw true)) :: (32, sRR fun a b => qsv (mi a b)) :: (33, sRR fun a b => qsv (mi a b)) :: L0) with ψ := fun f us => if f = 31 then lenB us else true }
def E7 (o : Pt → Q) (ti : Q → List Pt) (sm : List Pt → List Pt → Bool) : Env := { E ((36, sPPu fun l m => bw (sm l m)) :: (12, s0 (bw true)) :: (34, sP fun p => qv (o p)) :: (35, sP fun p => qv (o p)) :: (37, sR fun r => psv (ti r)) :: (38, sR fun r => psv (ti r)) :: L0) with ψ := fun f us => if f = 36 then lenB us else true }
theorem t6 (mi : Q → Q → List Q) (sm : List Q → List Q → Bool) (a b c d a' b' c' d' : Int) : evalF (E6 mi sm) Try.f6 [q4 a b c d, q4 a' b' c' d'] =
    bif decide ((mi (a, b, c, d) (a', b', c', d')).length < 4611686018427387904) then ob (sm (mi (a, b, c, d) (a', b', c', d')) (mi (a, b, c, d) (a', b', c', d'))) else none := by kernel_rfl
theorem t7 (o : Pt → Q) (ti : Q → List Pt) (sm : List Pt → List Pt → Bool) (a b c d x y : Int) : evalF (E7 o ti sm) Try.f7 [q4 a b c d, p2 x y] =
    bif sqp (o (x, y)) (o (x, y)) then bif decide ((ti (a, b, c, d)).length < 4611686018427387904) then ob (sm (ti (a, b, c, d)) (ti (a, b, c, d))) else none else ob false := by kernel_rfl
theorem sameQ_self : ∀ l : List Q, sameQ l l = true
  | [] => rfl
  | a :: l => by rw [show sameQ (a :: l) (a :: l) = (decide (a = a) && sameQ l l) from rfl, sameQ_self l]; simp
theorem sameP_self : ∀ l : List Pt, sameP l l = true
  | [] => rfl
  | a :: l => by rw [show sameP (a :: l) (a :: l) = (decide (a = a) && sameP l l) from rfl, sameP_self l]; simp
theorem nz_len : ∀ l : List Q, (nz l).length ≤ l.length
  | [] => Nat.le_refl _
  | r :: l => by
    have h := nz_len l
    rw [show nz (r :: l) = if zq r = true then nz l else r :: nz l from rfl]
    split <;> simp only [List.length_cons] <;> omega
theorem minus_len (a b : Q) : (minus a b).length ≤ 4 := by
  unfold minus
  split
  · simp
  · split
    · simp
    · exact nz_len _
theorem rows_len (x0 : Int) (w : Nat) : ∀ (k : Nat) (y : Int), (rows x0 w y k).length = w * k
  | 0, _ => rfl
  | k + 1, y => by rw [show rows x0 w y (k + 1) = row y x0 w ++ rows x0 w (y + 1) k from rfl, List.length_append, row_len, rows_len x0 w k, Nat.mul_succ, Nat.add_comm]
theorem toNat_mul_le {p q m : Int} (hm : 0 ≤ m) (h : ¬ p * q > m) : p.toNat * q.toNat ≤ m.toNat := by
  by_cases hp : 0 ≤ p
  · by_cases hq : 0 ≤ q
    · have : ((p.toNat * q.toNat : Nat) : Int) ≤ m := by
        rw [Int.natCast_mul, Int.toNat_of_nonneg hp, Int.toNat_of_nonneg hq]
        omega
      omega
    · rw [show q.toNat = 0 by omega]; omega
  · rw [show p.toNat = 0 by omega]; omega
theorem tiles_len (r : Q) : (tiles r).length ≤ 4096 := by
  unfold tiles
  split
  · simp
  · simp only
    split
    · simp
    · rename_i h
      rw [rows_len]
      exact toNat_mul_le (m := 4096) (by decide) h
theorem sp6 : ∀ f, Meets Try.prog f ((E6 minus sameQ).sp f) := by
  intro f us x fin hs
  by_cases h : f = 31
  · subst h
    have hs' : (bif lenB us then sQQu (fun l m => bw (sameQ l m)) us else none) = some (x, fin) := hs
    have : sQQ (fun l m => bw (sameQ l m)) us = some (x, fin) := by
      cases hl : lenB us
      · rw [hl] at hs'; cases hs'
      · rw [hl, cond_true] at hs'
        unfold sQQu at hs'
        split at hs'
        · rename_i l m
          have h2 : decide (l.length < 4611686018427387904) = true := hl
          show (bif decide (l.length < 4611686018427387904) then some (bw (sameQ l m), []) else none) = _
          rw [h2]; exact hs'
        · cases hs'
    exact m31 us x fin this
  · refine specs_cons m12 (specs_cons m32 (specs_cons m33 specs_nil)) f us x fin ?_
    have hs' : (bif (if f = 31 then lenB us else true) then specsOf ((31, sQQu fun l m => bw (sameQ l m)) :: (12, s0 (bw true)) :: (32, sRR fun a b => qsv (minus a b)) :: (33, sRR fun a b => qsv (minus a b)) :: L0) f us else none) = some (x, fin) := hs
    rw [if_neg h, cond_true, specsOf, if_neg h] at hs'
    exact hs'
theorem sp7 : ∀ f, Meets Try.prog f ((E7 ofTile tiles sameP).sp f) := by
  intro f us x fin hs
  by_cases h : f = 36
  · subst h
    have hs' : (bif lenB us then sPPu (fun l m => bw (sameP l m)) us else none) = some (x, fin) := hs
    have : sPP (fun l m => bw (sameP l m)) us = some (x, fin) := by
      cases hl : lenB us
      · rw [hl] at hs'; cases hs'
      · rw [hl, cond_true] at hs'
        unfold sPPu at hs'
        split at hs'
        · rename_i l m
          have h2 : decide (l.length < 4611686018427387904) = true := hl
          show (bif decide (l.length < 4611686018427387904) then some (bw (sameP l m), []) else none) = _
          rw [h2]; exact hs'
        · cases hs'
    exact m36 us x fin this
  · refine specs_cons m12 (specs_cons m34 (specs_cons m35 (specs_cons m37 (specs_cons m38 specs_nil)))) f us x fin ?_
    have hs' : (bif (if f = 36 then lenB us else true) then specsOf ((36, sPPu fun l m => bw (sameP l m)) :: (12, s0 (bw true)) :: (34, sP fun p => qv (ofTile p)) :: (35, sP fun p => qv (ofTile p)) :: (37, sR fun r => psv (tiles r)) :: (38, sR fun r => psv (tiles r)) :: L0) f us else none) = some (x, fin) := hs
    rw [if_neg h, cond_true, specsOf, if_neg h] at hs'
    exact hs'
theorem e6 (a b c d a' b' c' d' : Int) : evalF (E6 minus sameQ) Try.f6 [q4 a b c d, q4 a' b' c' d'] = ob true := by
  rw [t6, sameQ_self, decide_eq_true (Nat.lt_of_le_of_lt (minus_len _ _) (by decide))]
  rfl
theorem e7 (a b c d x y : Int) : evalF (E7 ofTile tiles sameP) Try.f7 [q4 a b c d, p2 x y] = ob true := by
  rw [t7, sameP_self, decide_eq_true (Nat.lt_of_le_of_lt (tiles_len _) (by decide)), show sqp (ofTile (x, y)) (ofTile (x, y)) = true by simp [sqp]]
  rfl
theorem m6 : Meets Try.prog 6 (sRR fun _ _ => bw true) := mRR (rdL (e := E6 minus sameQ) rfl sp6 (n := 6) (fn := Try.f6) (k := 2) (by kernel_rfl) (by kernel_rfl) (of_decide_eq_true (by kernel_rfl)) (show loopsOf Try.f6 = [] by kernel_rfl) (fun p hp => nomatch hp)) e6
theorem m7 : Meets Try.prog 7 (sRP fun _ _ => bw true) := mRP (rdL (e := E7 ofTile tiles sameP) rfl sp7 (n := 7) (fn := Try.f7) (k := 2) (by kernel_rfl) (by kernel_rfl) (of_decide_eq_true (by kernel_rfl)) (show loopsOf Try.f7 = [] by kernel_rfl) (fun p hp => nomatch hp)) e7
end Go.Proofs.Ythdndibmakfifaa.Ev
