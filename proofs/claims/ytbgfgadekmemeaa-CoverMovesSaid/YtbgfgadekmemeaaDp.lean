/- That the law of moved polygons answers true: the walk. Conditions: how many bytes the polygons have. Printed by gen.py of this session. -/
import Derived.Test.YtbgfgadekmemeaaDn
namespace Go.Proofs.Ytbgfgadekmemeaa.Ev
open Go.Proofs
set_option linter.unusedVariables false
set_option linter.unusedSimpArgs false
set_option maxRecDepth 100000
set_option maxHeartbeats 1000000

@[reducible] def i8v (n : Int) : AV := .rv (.sc (.int .i8 n))
def gI8 (st : St) (t : Nat) {R : Type} (K : Int → Option R) : Option R := match getS st t with
  | .rv (.sc (.int .i8 n)) => K n
  | _ => none
theorem gI8_some {st : St} {t : Nat} {R : Type} {r : R} {K : Int → Option R} (h : gI8 st t K = some r) : ∃ n, getS st t = i8v n ∧ K n = some r := by
  unfold gI8 at h
  split at h
  · exact ⟨_, ‹_›, h⟩
  · cases h
def inR (p : Pt) : Bool := decide (-1048576 ≤ p.1 ∧ p.1 ≤ 1048576 ∧ -1048576 ≤ p.2 ∧ p.2 ≤ 1048576)
def badM {R : Type} (p : Pt) (x y : R) : R := bif decide (p.1 < -1048576) then x else bif decide (p.1 > 1048576) then x else bif decide (p.2 < -1048576) then x else bif decide (p.2 > 1048576) then x else y
theorem badM_eq {R : Type} (p : Pt) (x y : R) : badM p x y = bif inR p then y else x := by
  unfold badM inR
  by_cases c : -1048576 ≤ p.1 ∧ p.1 ≤ 1048576 ∧ -1048576 ≤ p.2 ∧ p.2 ≤ 1048576
  · rw [decide_eq_true c, decide_eq_false (by omega : ¬ p.1 < -1048576), decide_eq_false (by omega : ¬ p.1 > 1048576), decide_eq_false (by omega : ¬ p.2 < -1048576), decide_eq_false (by omega : ¬ p.2 > 1048576)]; rfl
  · rw [decide_eq_false c]
    by_cases c1 : p.1 < -1048576
    · rw [decide_eq_true c1]; rfl
    by_cases c2 : p.1 > 1048576
    · rw [decide_eq_false c1, decide_eq_true c2]; rfl
    by_cases c3 : p.2 < -1048576
    · rw [decide_eq_false c1, decide_eq_false c2, decide_eq_true c3]; rfl
    rw [decide_eq_false c1, decide_eq_false c2, decide_eq_false c3, decide_eq_true (by omega : p.2 > 1048576)]; rfl
def mvW (dx dy : Int) (p : Pt) : Pt := (W (p.1 + W (16 * W dx)), W (p.2 + W (16 * W dy)))
def mvL (dx dy : Int) (p : List Pt) : List Pt := p.map (mvW dx dy)
def inRs (p : List Pt) : Bool := p.all inR
theorem mvL_len (dx dy : Int) (p : List Pt) : (mvL dx dy p).length = p.length := List.length_map _
def lp10a (st : St) (R : Type) (K : Ex → St → Option R) : Option R := req (decide (st.length = 117)) (gPl st 0 fun ps => gI st 1 fun rule => gI8 st 3 fun dx => gI8 st 4 fun dy => gQ st 7 fun z => gBo st 10 fun r => gOl st 11 fun l => gPl st 22 fun ps' => gI st 23 fun m => gI st 24 fun i =>
  req (decide (ps' = ps ∧ m = ps.length ∧ i = 0 ∧ l = []) && okBig ps) (bif ps.all inRs then K (.exit 0) (mk 117 [(0, plv ps), (1, iv rule), (3, i8v dx), (4, i8v dy), (7, bQ z), (10, bw r), (11, opl (ps.map (mvL dx dy)))])
    else K .ret (mk 117 [(0, plv ps), (1, iv rule), (3, i8v dx), (4, i8v dy), (7, bQ z), (10, bw true), (11, opl ((ps.takeWhile inRs).map (mvL dx dy)))])))
def lp10b (st : St) (R : Type) (K : Ex → St → Option R) : Option R := req (decide (st.length = 117)) (gPl st 0 fun ps => gI st 1 fun rule => gI8 st 3 fun dx => gI8 st 4 fun dy => gQ st 7 fun z => gBo st 10 fun r => gOl st 11 fun l => gPs st 13 fun p => gOp st 14 fun q => gPl st 22 fun ps' => gI st 23 fun m => gI st 24 fun i => gPs st 28 fun p' => gI st 29 fun n => gI st 30 fun j =>
  req (decide (p' = p ∧ n = p.length ∧ j = 0 ∧ q = [] ∧ p.length * 16 ≤ 140737488351232)) (bif inRs p then K (.exit 2) (mk 117 [(0, plv ps), (1, iv rule), (3, i8v dx), (4, i8v dy), (7, bQ z), (10, bw r), (11, opl l), (13, psv p), (14, op (mvL dx dy p)), (22, plv ps'), (23, iv m), (24, iv i)])
    else K .ret (mk 117 [(0, plv ps), (1, iv rule), (3, i8v dx), (4, i8v dy), (7, bQ z), (10, bw true), (11, opl l), (13, psv p), (14, op (mvL dx dy (p.takeWhile inR))), (22, plv ps'), (23, iv m), (24, iv i)])))
abbrev MoF := Q → Pt → Q
abbrev ArF := Q → Int
def L10 (mk' : MkF) (sm : SmF) (mo : MoF) (ar : ArF) : List Entry := [(11, pT d0, sp d0 fun _ => bw true), (18, pMk, sp dPRQ fun a => mev (mk' a.1 a.2.1 a.2.2)), (20, pSm, sp dMM fun a => bw (sm a.1 a.2)), (29, pT dQP, sp dQP fun a => qv (mo a.1 a.2)), (30, pT dQ, sp dQ fun a => iv (ar a)), (24, pT dQ, sEy)]
def E10 (mk' : MkF) (sm : SmF) (mo : MoF) (ar : ArF) : Env := { EG (L10 mk' sm mo ar) with lv := fun id => match id with | 0 => [0, 1, 3, 4, 7, 10, 11, 22, 23, 24] | _ => [0, 1, 3, 4, 7, 10, 11, 13, 14, 22, 23, 24, 28, 29, 30], lx := fun id => match id with | 0 => [0, 1, 3, 4, 7, 10, 11] | _ => [0, 1, 3, 4, 7, 10, 11, 13, 14, 22, 23, 24], lp := fun id => match id with | 0 => lp10a | _ => lp10b }
def st10a (ps : Ps) (rule dx dy : Int) (z : Q) (r : Bool) (l ps' : Ps) (m i : Int) : St := mk 117 [(0, plv ps), (1, iv rule), (3, i8v dx), (4, i8v dy), (7, bQ z), (10, bw r), (11, opl l), (22, plv ps'), (23, iv m), (24, iv i)]
def st10b (ps : Ps) (rule dx dy : Int) (z : Q) (r : Bool) (l : Ps) (p q : List Pt) (ps' : Ps) (m i : Int) (p' : List Pt) (n j : Int) : St := mk 117 [(0, plv ps), (1, iv rule), (3, i8v dx), (4, i8v dy), (7, bQ z), (10, bw r), (11, opl l), (13, psv p), (14, op q), (22, plv ps'), (23, iv m), (24, iv i), (28, psv p'), (29, iv n), (30, iv j)]
theorem b10b (mk' : MkF) (sm : SmF) (mo : MoF) (ar : ArF) (ps : Ps) (rule dx dy : Int) (z : Q) (r : Bool) (l : Ps) (p q : List Pt) (ps' : Ps) (m i : Int) (p' : List Pt) (n j : Int) : evalCode (E10 mk' sm mo ar) (loopAt Try.f10 1) 2 (st10b ps rule dx dy z r l p q ps' m i p' n j) (kp (E10 mk' sm mo ar) 2) = bif decide (j < n) then bif decide (0 ≤ j) && decide (j < p'.length) then
      badM (p'.getD j.toNat (0, 0)) (some (.ret, mk 117 [(0, plv ps), (1, iv rule), (3, i8v dx), (4, i8v dy), (7, bQ z), (10, bw true), (11, opl l), (13, psv p), (14, op q), (22, plv ps'), (23, iv m), (24, iv i)]))
        (apT q [mvW dx dy (p'.getD j.toNat (0, 0))] fun q => some (.normal, st10b ps rule dx dy z r l p q ps' m i p' n (W (j + 1)))) else none
    else some (.exit 2, mk 117 [(0, plv ps), (1, iv rule), (3, i8v dx), (4, i8v dy), (7, bQ z), (10, bw r), (11, opl l), (13, psv p), (14, op q), (22, plv ps'), (23, iv m), (24, iv i)]) := by kernel_rfl
theorem b10a (mk' : MkF) (sm : SmF) (mo : MoF) (ar : ArF) (ps : Ps) (rule dx dy : Int) (z : Q) (r : Bool) (l ps' : Ps) (m i : Int) : evalCode (E10 mk' sm mo ar) (loopAt Try.f10 0) 0 (st10a ps rule dx dy z r l ps' m i) (kp (E10 mk' sm mo ar) 0) = bif decide (i < m) then bif decide (0 ≤ i) && decide (i < ps'.length) then
      bif decide (ps'.getD i.toNat [] = ps'.getD i.toNat [] ∧ ((ps'.getD i.toNat []).length : Int) = (ps'.getD i.toNat []).length ∧ (0 : Int) = 0 ∧ ([] : List Pt) = [] ∧ (ps'.getD i.toNat []).length * 16 ≤ 140737488351232) then bif inRs (ps'.getD i.toNat []) then
      apP l [mvL dx dy (ps'.getD i.toNat [])] fun l => some (.normal, st10a ps rule dx dy z r l ps' m (W (i + 1)))
      else some (.ret, mk 117 [(0, plv ps), (1, iv rule), (3, i8v dx), (4, i8v dy), (7, bQ z), (10, bw true), (11, opl l)]) else none else none
    else some (.exit 0, mk 117 [(0, plv ps), (1, iv rule), (3, i8v dx), (4, i8v dy), (7, bQ z), (10, bw r), (11, opl l)]) := by kernel_rfl
@[reducible] def n10 (a : Ps × Int × Q × Int × Int) : List AV := [plv a.1, iv a.2.1, qv a.2.2.1, i8v a.2.2.2.1, i8v a.2.2.2.2]
def d10 : List AV → Option (Ps × Int × Q × Int × Int)
  | [.rv (.sc (.sl none (.polys l))), .rv (.sc (.int .i64 b)), .rv (.agg [.int .i64 x, .int .i64 y, .int .i64 z, .int .i64 t]), .rv (.sc (.int .i8 dx)), .rv (.sc (.int .i8 dy))] => some (l, b, (x, y, z, t), dx, dy)
  | _ => none
theorem hd10 {us : List AV} {a} (h : d10 us = some a) : us = n10 a := by unfold d10 at h; split at h <;> cases h; rfl
def tree10 (mk' : MkF) (sm : SmF) (ar : ArF) (ps : Ps) (rule : Int) (z mz : Q) (dx dy : Int) : Option (AV × List AV) := bif decide (ps = ps ∧ (ps.length : Int) = ps.length ∧ (0 : Int) = 0 ∧ ([] : Ps) = []) && okBig ps then bif ps.all inRs then
    bif ar mz != ar z then ob true else bif empty z then ob true else gSp ps (gSp (ps.map (mvL dx dy)) (bif (mk' ps rule z).2 == (mk' (ps.map (mvL dx dy)) rule mz).2 then gLn (mk' ps rule z).1 (ob (sm (mk' ps rule z).1 (mk' (ps.map (mvL dx dy)) rule mz).1)) else ob false))
    else ob true else none
theorem t10 (mk' : MkF) (sm : SmF) (mo : MoF) (ar : ArF) (ps : Ps) (rule x y z t dx dy : Int) : evalF (E10 mk' sm mo ar) Try.f10 (n10 (ps, rule, (x, y, z, t), dx, dy)) = tree10 mk' sm ar ps rule (x, y, z, t) (mo (x, y, z, t) (W dx, W dy)) dx dy := by kernel_rfl
end Go.Proofs.Ytbgfgadekmemeaa.Ev

