/- That the law of turned polygons answers true. Conditions: how many bytes the polygons have. Printed by gen.py of this session. -/
import Derived.Test.YtbgfgadekmemeaaDg
namespace Go.Proofs.Ytbgfgadekmemeaa.Ev
open Go.Proofs
set_option linter.unusedVariables false
set_option linter.unusedSimpArgs false
set_option maxRecDepth 100000
set_option maxHeartbeats 1000000

@[reducible] def opl (l : Ps) : AV := .rv (.sc (.sl (some 29) (.polys l)))
def gOl (st : St) (t : Nat) {R : Type} (K : Ps → Option R) : Option R := match getS st t with
  | .rv (.sc (.sl (some 29) (.polys l))) => K l
  | _ => none
theorem gOl_some {st : St} {t : Nat} {R : Type} {r : R} {K : Ps → Option R} (h : gOl st t K = some r) : ∃ n, getS st t = opl n ∧ K n = some r := by
  unfold gOl at h
  split at h
  · exact ⟨_, ‹_›, h⟩
  · cases h
def gBo (st : St) (t : Nat) {R : Type} (K : Bool → Option R) : Option R := match getS st t with
  | .rv (.sc (.bool b)) => K b
  | _ => none
theorem gBo_some {st : St} {t : Nat} {R : Type} {r : R} {K : Bool → Option R} (h : gBo st t K = some r) : ∃ n, getS st t = bw n ∧ K n = some r := by
  unfold gBo at h
  split at h
  · exact ⟨_, ‹_›, h⟩
  · cases h
def apT {R : Type} (l m : List Pt) (K : List Pt → Option R) : Option R := bif decide (0 < m.length) && decide ((l ++ m).length * 16 ≤ 140737488355328) then K (l ++ m) else none
def apP {R : Type} (l m : Ps) (K : Ps → Option R) : Option R := bif decide (0 < m.length) && decide ((l ++ m).length * 24 ≤ 140737488355328) then K (l ++ m) else none
theorem apT_ok {R : Type} {l : List Pt} {x : Pt} (h : (l.length + 1) * 16 ≤ 140737488355328) (K : List Pt → Option R) : apT l [x] K = K (l ++ [x]) := by
  unfold apT
  rw [decide_eq_true (by simp : 0 < [x].length), decide_eq_true (by rw [List.length_append]; exact h)]; rfl
theorem apP_ok {R : Type} {l : Ps} {x : List Pt} (h : (l.length + 1) * 24 ≤ 140737488355328) (K : Ps → Option R) : apP l [x] K = K (l ++ [x]) := by
  unfold apP
  rw [decide_eq_true (by simp : 0 < [x].length), decide_eq_true (by rw [List.length_append]; exact h)]; rfl
abbrev TwF := List Pt → Int
def rotL (l : List Pt) : List Pt := l.drop 1 ++ l.take 1
def revL (l : List Pt) : List Pt := l.reverse
def okBig (ps : Ps) : Bool := decide (ps.length * 24 ≤ 140737488351232) && ps.all fun l => decide (l.length * 16 ≤ 140737488351232)
def okTw (tw : TwF) (p : List Pt) : Bool := (tw (revL p) == W (0 - tw p)) && (tw (rotL p) == tw p)
theorem rev_len (p : List Pt) : (revL p).length = p.length := List.length_reverse
theorem rot_len (p : List Pt) : (rotL p).length = p.length := by
  unfold rotL
  rw [List.length_append, List.length_drop, List.length_take]
  omega
theorem take_snoc {α : Type} {l : List α} {i : Nat} (h : i < l.length) : l.take (i + 1) = l.take i ++ [l[i]] := by
  rw [List.take_add_one, List.getElem?_eq_getElem h]; rfl
theorem rev_at {p : List Pt} {j : Nat} (h : j < p.length) : (revL p).take (j + 1) = (revL p).take j ++ [p.getD (p.length - 1 - j) (0, 0)] := by
  rw [take_snoc (by rw [rev_len]; exact h), getP_at (by omega)]
  unfold revL
  rw [List.getElem_reverse]
theorem rot_at {p : List Pt} {j : Nat} (h : j < p.length) : (rotL p).take (j + 1) = (rotL p).take j ++ [p.getD (nx p j) (0, 0)] := by
  rw [take_snoc (by rw [rot_len]; exact h)]
  unfold nx rotL
  by_cases h1 : j + 1 = p.length
  · rw [if_pos h1, getP_at (by omega), List.getElem_append_right (by rw [List.length_drop]; omega)]
    congr 2
    rw [List.getElem_take]
    congr 1
    rw [List.length_drop]; omega
  · rw [if_neg h1, getP_at (by omega), List.getElem_append_left (by rw [List.length_drop]; omega), List.getElem_drop]
    congr 2
    congr 1
    omega
/-! ### The walk -/
def lp6a (tw : TwF) (st : St) (R : Type) (K : Ex → St → Option R) : Option R := req (decide (st.length = 118)) (gPl st 0 fun ps => gI st 1 fun rule => gQ st 5 fun z => gBo st 6 fun r => gOl st 7 fun l => gOl st 8 fun k => gPl st 20 fun ps' => gI st 21 fun m => gI st 22 fun i =>
  req (decide (ps' = ps ∧ m = ps.length ∧ i = 0 ∧ l = [] ∧ k = []) && okBig ps && ps.all (okTw tw)) (K (.exit 0) (mk 118 [(0, plv ps), (1, iv rule), (5, bQ z), (7, opl (ps.map revL)), (8, opl (ps.map rotL))])))
def lp6b (st : St) (R : Type) (K : Ex → St → Option R) : Option R := req (decide (st.length = 118)) (gPl st 0 fun ps => gI st 1 fun rule => gQ st 5 fun z => gBo st 6 fun r => gOl st 7 fun l => gOl st 8 fun k => gPs st 10 fun p => gOp st 11 fun q => gOp st 12 fun s => gPl st 20 fun ps' => gI st 21 fun m => gI st 22 fun i => gPs st 26 fun p' => gI st 27 fun n => gI st 28 fun j =>
  req (decide (p' = p ∧ n = p.length ∧ j = 0 ∧ q = [] ∧ s = [] ∧ p.length * 16 ≤ 140737488351232)) (K (.exit 2) (mk 118 [(0, plv ps), (1, iv rule), (5, bQ z), (6, bw r), (7, opl l), (8, opl k), (10, psv p), (11, op (revL p)), (12, op (rotL p)), (20, plv ps'), (21, iv m), (22, iv i)])))
def L6 (mk' : MkF) (sm : SmF) (tw : TwF) : List Entry := [(11, pT d0, sp d0 fun _ => bw true), (18, pMk, sp dPRQ fun a => mev (mk' a.1 a.2.1 a.2.2)), (20, pSm, sp dMM fun a => bw (sm a.1 a.2)), (16, pTw, sp dPs fun l => iv (tw l))]
def E6 (mk' : MkF) (sm : SmF) (tw : TwF) : Env := { EG (L6 mk' sm tw) with lv := fun id => match id with | 0 => [0, 1, 5, 6, 7, 8, 20, 21, 22] | _ => [0, 1, 5, 6, 7, 8, 10, 11, 12, 20, 21, 22, 26, 27, 28], lx := fun id => match id with | 0 => [0, 1, 5, 7, 8] | _ => [0, 1, 5, 6, 7, 8, 10, 11, 12, 20, 21, 22], lp := fun id => match id with | 0 => lp6a tw | _ => lp6b }
def st6a (ps : Ps) (rule : Int) (z : Q) (r : Bool) (l k ps' : Ps) (m i : Int) : St := mk 118 [(0, plv ps), (1, iv rule), (5, bQ z), (6, bw r), (7, opl l), (8, opl k), (20, plv ps'), (21, iv m), (22, iv i)]
def st6b (ps : Ps) (rule : Int) (z : Q) (r : Bool) (l k : Ps) (p q s : List Pt) (ps' : Ps) (m i : Int) (p' : List Pt) (n j : Int) : St := mk 118 [(0, plv ps), (1, iv rule), (5, bQ z), (6, bw r), (7, opl l), (8, opl k), (10, psv p), (11, op q), (12, op s), (20, plv ps'), (21, iv m), (22, iv i), (26, psv p'), (27, iv n), (28, iv j)]
theorem b6b (mk' : MkF) (sm : SmF) (tw : TwF) (ps : Ps) (rule : Int) (z : Q) (r : Bool) (l k : Ps) (p q s : List Pt) (ps' : Ps) (m i : Int) (p' : List Pt) (n j : Int) : evalCode (E6 mk' sm tw) (loopAt Try.f6 1) 2 (st6b ps rule z r l k p q s ps' m i p' n j) (kp (E6 mk' sm tw) 2) = bif decide (j < n) then
      bif decide (0 ≤ W (W (p.length - 1) - j)) && decide (W (W (p.length - 1) - j) < p.length) then apT q [p.getD (W (W (p.length - 1) - j)).toNat (0, 0)] fun q => bif decide ((p.length : Int) = 0) then none else
      bif decide (0 ≤ (W (j + 1)).tmod p.length) && decide ((W (j + 1)).tmod p.length < p.length) then apT s [p.getD ((W (j + 1)).tmod p.length).toNat (0, 0)] fun s => some (.normal, st6b ps rule z r l k p q s ps' m i p' n (W (j + 1))) else none else none
    else some (.exit 2, mk 118 [(0, plv ps), (1, iv rule), (5, bQ z), (6, bw r), (7, opl l), (8, opl k), (10, psv p), (11, op q), (12, op s), (20, plv ps'), (21, iv m), (22, iv i)]) := by kernel_rfl
theorem b6a (mk' : MkF) (sm : SmF) (tw : TwF) (ps : Ps) (rule : Int) (z : Q) (r : Bool) (l k ps' : Ps) (m i : Int) : evalCode (E6 mk' sm tw) (loopAt Try.f6 0) 0 (st6a ps rule z r l k ps' m i) (kp (E6 mk' sm tw) 0) = bif decide (i < m) then bif decide (0 ≤ i) && decide (i < ps'.length) then
      bif decide (ps'.getD i.toNat [] = ps'.getD i.toNat [] ∧ ((ps'.getD i.toNat []).length : Int) = (ps'.getD i.toNat []).length ∧ (0 : Int) = 0 ∧ ([] : List Pt) = [] ∧ ([] : List Pt) = [] ∧ (ps'.getD i.toNat []).length * 16 ≤ 140737488351232) then
      bif shortL (revL (ps'.getD i.toNat [])) then bif shortL (ps'.getD i.toNat []) then bif tw (revL (ps'.getD i.toNat [])) != W (0 - tw (ps'.getD i.toNat [])) then some (.ret, mk 118 [(0, plv ps), (1, iv rule), (5, bQ z), (7, opl l), (8, opl k)]) else
      bif shortL (rotL (ps'.getD i.toNat [])) then bif shortL (ps'.getD i.toNat []) then bif tw (rotL (ps'.getD i.toNat [])) != tw (ps'.getD i.toNat []) then some (.ret, mk 118 [(0, plv ps), (1, iv rule), (5, bQ z), (7, opl l), (8, opl k)]) else
      apP l [revL (ps'.getD i.toNat [])] fun l => apP k [rotL (ps'.getD i.toNat [])] fun k => some (.normal, st6a ps rule z r l k ps' m (W (i + 1)))
      else none else none else none else none else none else none
    else some (.exit 0, mk 118 [(0, plv ps), (1, iv rule), (5, bQ z), (7, opl l), (8, opl k)]) := by kernel_rfl
def tree6 (mk' : MkF) (sm : SmF) (tw : TwF) (ps : Ps) (rule : Int) (r : Q) : Option (AV × List AV) := bif decide (ps = ps ∧ (ps.length : Int) = ps.length ∧ (0 : Int) = 0 ∧ ([] : Ps) = [] ∧ ([] : Ps) = []) && okBig ps && ps.all (okTw tw) then
    gSp ps (gSp (ps.map revL) (gSp (ps.map rotL) (bif (mk' ps rule r).2 == (mk' (ps.map revL) rule r).2 then bif (mk' ps rule r).2 == (mk' (ps.map rotL) rule r).2 then
      gLn (mk' ps rule r).1 (bif sm (mk' ps rule r).1 (mk' (ps.map revL) rule r).1 then gLn (mk' ps rule r).1 (ob (sm (mk' ps rule r).1 (mk' (ps.map rotL) rule r).1)) else ob false) else ob false else ob false))) else none
theorem t6 (mk' : MkF) (sm : SmF) (tw : TwF) (ps : Ps) (rule x y z t : Int) : evalF (E6 mk' sm tw) Try.f6 (nPRQ (ps, rule, (x, y, z, t))) = tree6 mk' sm tw ps rule (x, y, z, t) := by kernel_rfl
end Go.Proofs.Ytbgfgadekmemeaa.Ev

