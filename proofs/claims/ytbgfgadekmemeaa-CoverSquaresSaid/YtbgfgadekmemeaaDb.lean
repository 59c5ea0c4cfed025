/- The box of polygons, the program's own. Conditions: none. Printed by gen.py of this session. -/
import Derived.Test.YtbgfgadekmemeaaDa
namespace Go.Proofs.Ytbgfgadekmemeaa.Ev
open Go.Proofs
set_option linter.unusedVariables false
set_option linter.unusedSimpArgs false
set_option maxRecDepth 100000
set_option maxHeartbeats 1000000

def stepB (r : Q) (p : Pt) : Q := (lo2 r.1 (p.1.fdiv 16), lo2 r.2.1 (p.2.fdiv 16), hi2 r.2.2.1 (W (p.1.fdiv 16 + 1)), hi2 r.2.2.2 (W (p.2.fdiv 16 + 1)))
def foldB (l : List Pt) (r : Q) : Q := l.foldl stepB r
def foldBs (ps : Ps) (r : Q) : Q := ps.foldl (fun r l => foldB l r) r
def finB (r : Q) : Q := bif decide (r.1 ≥ lo2 r.2.2.1 1048576) || decide (r.2.1 ≥ lo2 r.2.2.2 1048576) then (0, 0, 0, 0) else (r.1, r.2.1, W (lo2 r.2.2.1 1048576 - r.1), W (lo2 r.2.2.2 1048576 - r.2.1))
def boxP (ps : Ps) : Q := bif chkC ps 0 != 0 then (0, 0, 0, 0) else finB (foldBs ps (16777216, 16777216, -16777216, -16777216))
def lp14a (st : St) (R : Type) (K : Ex → St → Option R) : Option R := req (decide (st.length = 73)) (gQ st 2 fun z => gI st 3 fun x0 => gI st 4 fun y0 => gI st 5 fun x1 => gI st 6 fun y1 => gPl st 17 fun ps => gI st 18 fun n => gI st 19 fun i =>
  req (decide (n = ps.length ∧ i = 0) && shortPs ps) (K (.exit 0) (let r := foldBs ps (x0, y0, x1, y1); mk 73 [(2, bQ z), (3, iv r.1), (4, iv r.2.1), (5, iv r.2.2.1), (6, iv r.2.2.2)])))
def lp14b (st : St) (R : Type) (K : Ex → St → Option R) : Option R := req (decide (st.length = 73)) (gQ st 2 fun z => gI st 3 fun x0 => gI st 4 fun y0 => gI st 5 fun x1 => gI st 6 fun y1 => gPl st 17 fun ps => gI st 18 fun n => gI st 19 fun i => gPs st 23 fun l => gI st 24 fun m => gI st 25 fun j =>
  req (decide (m = l.length ∧ j = 0 ∧ l.length < 4611686018427387904)) (K (.exit 2) (let r := foldB l (x0, y0, x1, y1); mk 73 [(2, bQ z), (3, iv r.1), (4, iv r.2.1), (5, iv r.2.2.1), (6, iv r.2.2.2), (17, plv ps), (18, iv n), (19, iv i)])))
def E14 : Env := { EG [(12, pCk, sCk)] with lv := fun id => match id with | 0 => [2, 3, 4, 5, 6, 17, 18, 19] | _ => [2, 3, 4, 5, 6, 17, 18, 19, 23, 24, 25], lx := fun id => match id with | 0 => [2, 3, 4, 5, 6] | _ => [2, 3, 4, 5, 6, 17, 18, 19], lp := fun id => match id with | 0 => lp14a | _ => lp14b }
def st14a (z r : Q) (ps : Ps) (n i : Int) : St := mk 73 [(2, bQ z), (3, iv r.1), (4, iv r.2.1), (5, iv r.2.2.1), (6, iv r.2.2.2), (17, plv ps), (18, iv n), (19, iv i)]
def st14b (z r : Q) (ps : Ps) (n i : Int) (l : List Pt) (m j : Int) : St := mk 73 [(2, bQ z), (3, iv r.1), (4, iv r.2.1), (5, iv r.2.2.1), (6, iv r.2.2.2), (17, plv ps), (18, iv n), (19, iv i), (23, psv l), (24, iv m), (25, iv j)]
theorem b14a (z r : Q) (ps : Ps) (n i : Int) : evalCode E14 (loopAt Try.f14 0) 0 (st14a z r ps n i) (kp E14 0) = bif decide (i < n) then bif decide (0 ≤ i) && decide (i < ps.length) then
      bif decide (((ps.getD i.toNat []).length : Int) = (ps.getD i.toNat []).length ∧ (0 : Int) = 0 ∧ (ps.getD i.toNat []).length < 4611686018427387904) then some (.normal, st14a z (foldB (ps.getD i.toNat []) (r.1, r.2.1, r.2.2.1, r.2.2.2)) ps n (W (i + 1))) else none else none
    else some (.exit 0, mk 73 [(2, bQ z), (3, iv r.1), (4, iv r.2.1), (5, iv r.2.2.1), (6, iv r.2.2.2)]) := by kernel_rfl
theorem b14b (z r : Q) (ps : Ps) (n i : Int) (l : List Pt) (m j : Int) : evalCode E14 (loopAt Try.f14 1) 2 (st14b z r ps n i l m j) (kp E14 2) = bif decide (j < m) then bif decide (0 ≤ j) && decide (j < l.length) then
      some (.normal, st14b z (stepB r (l.getD j.toNat (0, 0))) ps n i l m (W (j + 1))) else none
    else some (.exit 2, mk 73 [(2, bQ z), (3, iv r.1), (4, iv r.2.1), (5, iv r.2.2.1), (6, iv r.2.2.2), (17, plv ps), (18, iv n), (19, iv i)]) := by kernel_rfl
theorem runs14b (z : Q) (ps : Ps) (n i : Int) (l : List Pt) (hl : l.length < 4611686018427387904) : ∀ (k j : Nat) (r : Q), j + k = l.length →
    Runs E14 2 (loopAt Try.f14 1) (st14b z r ps n i l l.length j) (.exit 2) (let r' := foldB (l.drop j) r; mk 73 [(2, bQ z), (3, iv r'.1), (4, iv r'.2.1), (5, iv r'.2.2.1), (6, iv r'.2.2.2), (17, plv ps), (18, iv n), (19, iv i)]) := by
  intro k
  induction k with
  | zero =>
    intro j r hj
    rw [List.drop_eq_nil_of_le (by omega)]
    refine .stop ?_ (by simp)
    rw [b14b, decide_eq_false (by omega)]
    rfl
  | succ k ih =>
    intro j r hj
    have h1 : j < l.length := by omega
    rw [List.drop_eq_getElem_cons h1]
    have hbd := b14b z r ps n i l l.length j
    rw [decide_eq_true (by omega : (j : Int) < l.length), decide_eq_true (by omega : (0 : Int) ≤ j), Int.toNat_natCast, getP_at h1, W_small (n := (j : Int) + 1) (by omega) (by omega)] at hbd
    exact .step hbd (ih (j + 1) _ (by omega))
theorem runs14a (z : Q) (ps : Ps) (hs : shortPs ps = true) : ∀ (k i : Nat) (r : Q), i + k = ps.length →
    Runs E14 0 (loopAt Try.f14 0) (st14a z r ps ps.length i) (.exit 0) (let r' := foldBs (ps.drop i) r; mk 73 [(2, bQ z), (3, iv r'.1), (4, iv r'.2.1), (5, iv r'.2.2.1), (6, iv r'.2.2.2)]) := by
  simp only [shortPs, Bool.and_eq_true, decide_eq_true_eq] at hs
  intro k
  induction k with
  | zero =>
    intro i r hi
    rw [List.drop_eq_nil_of_le (by omega)]
    refine .stop ?_ (by simp)
    rw [b14a, decide_eq_false (by omega)]
    rfl
  | succ k ih =>
    intro i r hi
    have h1 : i < ps.length := by omega
    have h2 := short_at hs.2 i
    rw [List.drop_eq_getElem_cons h1]
    have hbd := b14a z r ps ps.length i
    rw [decide_eq_true (by omega : (i : Int) < ps.length), decide_eq_true (by omega : (0 : Int) ≤ i), Int.toNat_natCast, decide_eq_true ⟨rfl, rfl, h2⟩, getL_at h1, W_small (n := (i : Int) + 1) (by omega) (by omega)] at hbd
    exact .step hbd (ih (i + 1) _ (by omega))
theorem loop14a : LoopOk E14 0 (loopAt Try.f14 0) := by
  intro st R K z h
  obtain ⟨hn, h⟩ := req_some h
  obtain ⟨z, e0, h⟩ := gQ_some h
  obtain ⟨x0, e1, h⟩ := gI_some h
  obtain ⟨y0, e2, h⟩ := gI_some h
  obtain ⟨x1, e3, h⟩ := gI_some h
  obtain ⟨y1, e4, h⟩ := gI_some h
  obtain ⟨ps, e5, h⟩ := gPl_some h
  obtain ⟨n, e6, h⟩ := gI_some h
  obtain ⟨i, e7, h⟩ := gI_some h
  obtain ⟨hc, h⟩ := req_some h
  simp only [Bool.and_eq_true, decide_eq_true_eq] at hc
  obtain ⟨⟨h1, h2⟩, h3⟩ := hc
  rw [keep_mk (of_decide_eq_true hn)]
  have e := runs14a z ps h3 ps.length 0 (x0, y0, x1, y1) (by omega)
  have es : mk 73 ((E14.lv 0).map fun i => (i, getS (keep (E14.lv 0) st) i)) = st14a z (x0, y0, x1, y1) ps ps.length (0 : Nat) := by
    show mk 73 [(2, getS (keep (E14.lv 0) st) 2), (3, getS (keep (E14.lv 0) st) 3), (4, getS (keep (E14.lv 0) st) 4), (5, getS (keep (E14.lv 0) st) 5), (6, getS (keep (E14.lv 0) st) 6), (17, getS (keep (E14.lv 0) st) 17), (18, getS (keep (E14.lv 0) st) 18), (19, getS (keep (E14.lv 0) st) 19)] = _
    rw [e0, e1, e2, e3, e4, e5, e6, e7, h1, h2]
    rfl
  rw [es]
  exact ⟨_, _, e, h⟩
theorem loop14b : LoopOk E14 2 (loopAt Try.f14 1) := by
  intro st R K z h
  obtain ⟨hn, h⟩ := req_some h
  obtain ⟨z, e0, h⟩ := gQ_some h
  obtain ⟨x0, e1, h⟩ := gI_some h
  obtain ⟨y0, e2, h⟩ := gI_some h
  obtain ⟨x1, e3, h⟩ := gI_some h
  obtain ⟨y1, e4, h⟩ := gI_some h
  obtain ⟨ps, e5, h⟩ := gPl_some h
  obtain ⟨n, e6, h⟩ := gI_some h
  obtain ⟨i, e7, h⟩ := gI_some h
  obtain ⟨l, e8, h⟩ := gPs_some h
  obtain ⟨m, e9, h⟩ := gI_some h
  obtain ⟨j, e10, h⟩ := gI_some h
  obtain ⟨hc, h⟩ := req_some h
  simp only [Bool.and_eq_true, decide_eq_true_eq] at hc
  obtain ⟨h1, h2, h3⟩ := hc
  rw [keep_mk (of_decide_eq_true hn)]
  have e := runs14b z ps n i l h3 l.length 0 (x0, y0, x1, y1) (by omega)
  have es : mk 73 ((E14.lv 2).map fun i => (i, getS (keep (E14.lv 2) st) i)) = st14b z (x0, y0, x1, y1) ps n i l l.length (0 : Nat) := by
    show mk 73 [(2, getS (keep (E14.lv 2) st) 2), (3, getS (keep (E14.lv 2) st) 3), (4, getS (keep (E14.lv 2) st) 4), (5, getS (keep (E14.lv 2) st) 5), (6, getS (keep (E14.lv 2) st) 6), (17, getS (keep (E14.lv 2) st) 17), (18, getS (keep (E14.lv 2) st) 18), (19, getS (keep (E14.lv 2) st) 19), (23, getS (keep (E14.lv 2) st) 23), (24, getS (keep (E14.lv 2) st) 24), (25, getS (keep (E14.lv 2) st) 25)] = _
    rw [e0, e1, e2, e3, e4, e5, e6, e7, e8, e9, e10, h1, h2]
    rfl
  rw [es]
  exact ⟨_, _, e, h⟩
@[reducible] def nPls (a : Ps) : List AV := [plv a]
def dPls : List AV → Option Ps
  | [.rv (.sc (.sl none (.polys l)))] => some l
  | _ => none
theorem hPls {us : List AV} {a} (h : dPls us = some a) : us = nPls a := by unfold dPls at h; split at h <;> cases h; rfl
def tail14 (r : Q) : Option (AV × List AV) := bif decide (r.1 ≥ lo2 r.2.2.1 1048576) then oq (0, 0, 0, 0) else bif decide (r.2.1 ≥ lo2 r.2.2.2 1048576) then oq (0, 0, 0, 0) else oq (r.1, r.2.1, W (lo2 r.2.2.1 1048576 - r.1), W (lo2 r.2.2.2 1048576 - r.2.1))
def tree14 (ps : Ps) : Option (AV × List AV) := bif shortPs ps then bif chkC ps 0 != 0 then oq (0, 0, 0, 0) else bif decide ((ps.length : Int) = ps.length ∧ (0 : Int) = 0) && shortPs ps then
  tail14 (foldBs ps (16777216, 16777216, -16777216, -16777216)) else none else none
theorem tail14_eq (r : Q) : tail14 r = oq (finB r) := by
  unfold tail14 finB
  cases decide (r.1 ≥ lo2 r.2.2.1 1048576) <;> cases decide (r.2.1 ≥ lo2 r.2.2.2 1048576) <;> rfl
theorem t14 (ps : Ps) : evalF E14 Try.f14 [plv ps] = tree14 ps := by kernel_rfl
abbrev pBx : List AV → Bool := ps dPls shortPs
abbrev sBx : Spec := sp dPls fun l => qv (boxP l)
theorem mBx : Meets Try.prog 14 (gate pBx sBx) := mG (rdL (e := E14) rfl (eg_cons m88 eg_nil) (fn := Try.f14) (k := 1) (by kernel_rfl) (by kernel_rfl) (of_decide_eq_true (by kernel_rfl)) (show loopsOf Try.f14 = [(0, loopAt Try.f14 0), (2, loopAt Try.f14 1)] by kernel_rfl)
    (fun p hp => by rcases List.mem_cons.mp hp with rfl | hp; exact loop14a; cases List.mem_singleton.mp hp; exact loop14b)) (fun _ _ => hPls) (fun _ => ⟨rfl, Nat.le_refl _⟩)
  fun ps hp => by
    have hp : shortPs ps = true := hp
    refine (t14 ps).trans ?_
    show _ = oq (boxP ps)
    unfold tree14 boxP
    rw [hp, decide_eq_true (⟨rfl, rfl⟩ : (ps.length : Int) = ps.length ∧ (0 : Int) = 0), tail14_eq]
    cases chkC ps 0 != 0 <;> rfl
end Go.Proofs.Ytbgfgadekmemeaa.Ev

