/- The box of polygons, the reference's, and that the law of checks answers true. Conditions: the number of points. Printed by gen.py of this session. -/
import Derived.Test.YtbgfgadekmemeaaDj
namespace Go.Proofs.Ytbgfgadekmemeaa.Ev
open Go.Proofs
set_option linter.unusedVariables false
set_option linter.unusedSimpArgs false
set_option maxRecDepth 100000
set_option maxHeartbeats 1000000

/-! ### What it is -/
abbrev BQ := Bool × Q
def stepR (r : BQ) (p : Pt) : BQ := bif r.1 then (false, lo2 (p.1 / 16) (p.1 / 16), lo2 (p.2 / 16) (p.2 / 16), hi2 (p.1 / 16) (p.1 / 16), hi2 (p.2 / 16) (p.2 / 16)) else (r.1, lo2 r.2.1 (p.1 / 16), lo2 r.2.2.1 (p.2 / 16), hi2 r.2.2.2.1 (p.1 / 16), hi2 r.2.2.2.2 (p.2 / 16))
def foldR (l : List Pt) (r : BQ) : BQ := l.foldl stepR r
def foldRs (ps : Ps) (r : BQ) : BQ := ps.foldl (fun r l => foldR l r) r
def finR (r : BQ) : Q := bif r.1 || decide (lo2 r.2.2.2.1 1048575 < r.2.1) || decide (lo2 r.2.2.2.2 1048575 < r.2.2.1) then (0, 0, 0, 0) else (r.2.1, r.2.2.1, W (W (lo2 r.2.2.2.1 1048575 - r.2.1) + 1), W (W (lo2 r.2.2.2.2 1048575 - r.2.2.1) + 1))
def boxR (ps : Ps) : Q := bif chkR ps 0 != 0 then (0, 0, 0, 0) else finR (foldRs ps (true, 0, 0, 0, 0))
def lp15a (st : St) (R : Type) (K : Ex → St → Option R) : Option R := req (decide (st.length = 93)) (gPl st 0 fun ps => gQ st 2 fun z => gBo st 3 fun f => gI st 4 fun x0 => gI st 5 fun x1 => gI st 6 fun y0 => gI st 7 fun y1 => gI st 8 fun i =>
  req (decide (i = 0 ∧ allPts ps = true) && shortPs ps) (K (.exit 0) (let r := foldRs ps (f, x0, y0, x1, y1); mk 93 [(2, bQ z), (3, bw r.1), (4, iv r.2.1), (5, iv r.2.2.2.1), (6, iv r.2.2.1), (7, iv r.2.2.2.2)])))
def lp15b (st : St) (R : Type) (K : Ex → St → Option R) : Option R := req (decide (st.length = 93)) (gPl st 0 fun ps => gQ st 2 fun z => gBo st 3 fun f => gI st 4 fun x0 => gI st 5 fun x1 => gI st 6 fun y0 => gI st 7 fun y1 => gI st 8 fun i => gI st 9 fun j =>
  req (decide (j = 0 ∧ 0 ≤ i ∧ i < ps.length ∧ (ps.getD i.toNat []).length < 4611686018427387904 ∧ okPts (ps.getD i.toNat []) = true)) (K (.exit 2) (let r := foldR (ps.getD i.toNat []) (f, x0, y0, x1, y1); mk 93 [(0, plv ps), (2, bQ z), (3, bw r.1), (4, iv r.2.1), (5, iv r.2.2.2.1), (6, iv r.2.2.1), (7, iv r.2.2.2.2), (8, iv i)])))
def E15 : Env := { EG [(13, pCk, sCkR), (32, pFl, sFl)] with lv := fun id => match id with | 0 => [0, 2, 3, 4, 5, 6, 7, 8] | _ => [0, 2, 3, 4, 5, 6, 7, 8, 9], lx := fun id => match id with | 0 => [2, 3, 4, 5, 6, 7] | _ => [0, 2, 3, 4, 5, 6, 7, 8], lp := fun id => match id with | 0 => lp15a | _ => lp15b }
def st15a (z : Q) (r : BQ) (ps : Ps) (i : Int) : St := mk 93 [(0, plv ps), (2, bQ z), (3, bw r.1), (4, iv r.2.1), (5, iv r.2.2.2.1), (6, iv r.2.2.1), (7, iv r.2.2.2.2), (8, iv i)]
def st15b (z : Q) (r : BQ) (ps : Ps) (i j : Int) : St := mk 93 [(0, plv ps), (2, bQ z), (3, bw r.1), (4, iv r.2.1), (5, iv r.2.2.2.1), (6, iv r.2.2.1), (7, iv r.2.2.2.2), (8, iv i), (9, iv j)]
def gFl16 {R : Type} (a : Int) (K : Option R) : Option R := bif decide (-1152921504606846976 ≤ a ∧ a ≤ 1152921504606846976 ∧ (1 : Int) ≤ 16 ∧ (16 : Int) ≤ 1152921504606846976) then K else none
theorem b15b (z : Q) (r : BQ) (ps : Ps) (i j : Int) : evalCode E15 (loopAt Try.f15 1) 2 (st15b z r ps i j) (kp E15 2) = bif decide (0 ≤ i) && decide (i < ps.length) then bif decide (j < (ps.getD i.toNat []).length) then
      bif decide (0 ≤ i) && decide (i < ps.length) then bif decide (0 ≤ j) && decide (j < (ps.getD i.toNat []).length) then gFl16 ((ps.getD i.toNat []).getD j.toNat (0, 0)).1 (bif decide (0 ≤ i) && decide (i < ps.length) then bif decide (0 ≤ j) && decide (j < (ps.getD i.toNat []).length) then gFl16 ((ps.getD i.toNat []).getD j.toNat (0, 0)).2
      (bif r.1 then some (.normal, st15b z (stepR (true, r.2) ((ps.getD i.toNat []).getD j.toNat (0, 0))) ps i (W (j + 1))) else some (.normal, st15b z (r.1, (stepR (false, r.2) ((ps.getD i.toNat []).getD j.toNat (0, 0))).2) ps i (W (j + 1)))) else none else none) else none else none
    else some (.exit 2, mk 93 [(0, plv ps), (2, bQ z), (3, bw r.1), (4, iv r.2.1), (5, iv r.2.2.2.1), (6, iv r.2.2.1), (7, iv r.2.2.2.2), (8, iv i)]) else none := by kernel_rfl
theorem b15a (z : Q) (r : BQ) (ps : Ps) (i : Int) : evalCode E15 (loopAt Try.f15 0) 0 (st15a z r ps i) (kp E15 0) = bif decide (i < ps.length) then
      bif decide ((0 : Int) = 0 ∧ 0 ≤ i ∧ i < ps.length ∧ (ps.getD i.toNat []).length < 4611686018427387904 ∧ okPts (ps.getD i.toNat []) = true) then some (.normal, st15a z (foldR (ps.getD i.toNat []) (r.1, r.2.1, r.2.2.1, r.2.2.2.1, r.2.2.2.2)) ps (W (i + 1))) else none
    else some (.exit 0, mk 93 [(2, bQ z), (3, bw r.1), (4, iv r.2.1), (5, iv r.2.2.2.1), (6, iv r.2.2.1), (7, iv r.2.2.2.2)]) := by kernel_rfl
end Go.Proofs.Ytbgfgadekmemeaa.Ev

