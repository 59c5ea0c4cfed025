/- The reference's check of polygons, and its coverage of a pixel. Conditions: none. Printed by gen.py of this session. -/
import Derived.Test.YtbgfgadekmemeaaCe
namespace Go.Proofs.Ytbgfgadekmemeaa.Ev
open Go.Proofs
set_option linter.unusedVariables false
set_option linter.unusedSimpArgs false
set_option maxRecDepth 100000
set_option maxHeartbeats 1000000

/-! ### The reference's check -/
def lp91a (st : St) (R : Type) (K : Ex → St → Option R) : Option R := req (decide (st.length = 78)) (gPl st 0 fun ps => gI st 5 fun t => gI st 6 fun i =>
  req (decide (i = 0 ∧ t = 0) && shortPs ps) (bif decide (totN ps > 4096) then K .ret (mk 78 [(0, plv ps), (4, iv 3)]) else K (.exit 0) (mk 78 [(0, plv ps)])))
def lp91b (st : St) (R : Type) (K : Ex → St → Option R) : Option R := req (decide (st.length = 78)) (gPl st 0 fun ps => gI st 7 fun M => gI st 8 fun i =>
  req (decide (i = 0 ∧ M = 16777216) && shortPs ps) (bif allPts ps then K (.exit 2) (mk 78 []) else K .ret (mk 78 [(4, iv 2)])))
def lp91c (st : St) (R : Type) (K : Ex → St → Option R) : Option R := req (decide (st.length = 78)) (gPl st 0 fun ps => gI st 7 fun M => gI st 8 fun i => gI st 9 fun j =>
  req (decide (j = 0 ∧ M = 16777216 ∧ 0 ≤ i ∧ i < ps.length ∧ (ps.getD i.toNat []).length < 4611686018427387904)) (bif okPts (ps.getD i.toNat []) then K (.exit 4) (mk 78 [(0, plv ps), (7, iv 16777216), (8, iv i)]) else K .ret (mk 78 [(0, plv ps), (4, iv 2), (7, iv 16777216), (8, iv i)])))
def E91 : Env := { EG [] with lv := fun id => match id with | 0 => [0, 5, 6] | 2 => [0, 7, 8] | _ => [0, 7, 8, 9], lx := fun id => match id with | 0 => [0, 4] | 2 => [4] | _ => [0, 4, 7, 8], lp := fun id => match id with | 0 => lp91a | 2 => lp91b | _ => lp91c }
def st91a (ps : Ps) (t i : Int) : St := mk 78 [(0, plv ps), (5, iv t), (6, iv i)]
def st91b (ps : Ps) (i : Int) : St := mk 78 [(0, plv ps), (7, iv 16777216), (8, iv i)]
def st91c (ps : Ps) (i j : Int) : St := mk 78 [(0, plv ps), (7, iv 16777216), (8, iv i), (9, iv j)]
theorem b91a (ps : Ps) (t i : Int) : evalCode E91 (loopAt Try.f13 0) 0 (st91a ps t i) (kp E91 0) = bif decide (i < ps.length) then bif decide (0 ≤ i) && decide (i < ps.length) then
      bif decide (W (t + (ps.getD i.toNat []).length) > 4096) then some (.ret, mk 78 [(0, plv ps), (4, iv 3)]) else some (.normal, st91a ps (W (t + (ps.getD i.toNat []).length)) (W (i + 1))) else none
    else some (.exit 0, mk 78 [(0, plv ps)]) := by kernel_rfl
theorem b91c (ps : Ps) (i j : Int) : evalCode E91 (loopAt Try.f13 2) 4 (st91c ps i j) (kp E91 4) = bif decide (0 ≤ i) && decide (i < ps.length) then bif decide (j < (ps.getD i.toNat []).length) then bif decide (0 ≤ i) && decide (i < ps.length) then bif decide (0 ≤ j) && decide (j < (ps.getD i.toNat []).length) then
      bad ((ps.getD i.toNat []).getD j.toNat (0, 0)) (some (.ret, mk 78 [(0, plv ps), (4, iv 2), (7, iv 16777216), (8, iv i)])) (some (.normal, st91c ps i (W (j + 1)))) else none else none
    else some (.exit 4, mk 78 [(0, plv ps), (7, iv 16777216), (8, iv i)]) else none := by kernel_rfl
theorem b91b (ps : Ps) (i : Int) : evalCode E91 (loopAt Try.f13 1) 2 (st91b ps i) (kp E91 2) = bif decide (i < ps.length) then
      bif decide ((0 : Int) = 0 ∧ (16777216 : Int) = 16777216 ∧ 0 ≤ i ∧ i < ps.length ∧ (ps.getD i.toNat []).length < 4611686018427387904) then bif okPts (ps.getD i.toNat []) then some (.normal, st91b ps (W (i + 1))) else some (.ret, mk 78 [(4, iv 2)]) else none
    else some (.exit 2, mk 78 []) := by kernel_rfl
theorem runs91a (ps : Ps) (hs : shortPs ps = true) : ∀ (k i : Nat) (t : Nat), i + k = ps.length → t ≤ 4096 →
    (t + totN (ps.drop i) ≤ 4096 → Runs E91 0 (loopAt Try.f13 0) (st91a ps t i) (.exit 0) (mk 78 [(0, plv ps)])) ∧ (t + totN (ps.drop i) > 4096 → Runs E91 0 (loopAt Try.f13 0) (st91a ps t i) .ret (mk 78 [(0, plv ps), (4, iv 3)])) := by
  simp only [shortPs, Bool.and_eq_true, decide_eq_true_eq] at hs
  intro k
  induction k with
  | zero =>
    intro i t hi ht
    rw [List.drop_eq_nil_of_le (by omega)]
    refine ⟨fun _ => .stop ?_ (by simp), fun h => absurd h (by simp only [totN]; omega)⟩
    rw [b91a, decide_eq_false (by omega)]
    rfl
  | succ k ih =>
    intro i t hi ht
    have h1 : i < ps.length := by omega
    have h2 := short_at hs.2 i
    rw [List.drop_eq_getElem_cons h1]
    have hbd := b91a ps t i
    rw [getL_at h1] at h2
    rw [decide_eq_true (by omega : (i : Int) < ps.length), decide_eq_true (by omega : (0 : Int) ≤ i), Int.toNat_natCast, getL_at h1, W_small (n := (i : Int) + 1) (by omega) (by omega), W_small (n := (t : Int) + (ps[i].length : Int)) (by omega) (by omega)] at hbd
    simp only [totN]
    by_cases c : t + ps[i].length > 4096
    · rw [decide_eq_true (by omega : (t : Int) + (ps[i].length : Int) > 4096)] at hbd
      exact ⟨fun h => absurd h (by omega), fun _ => .stop hbd (by simp)⟩
    · rw [decide_eq_false (by omega : ¬ (t : Int) + (ps[i].length : Int) > 4096)] at hbd
      have := ih (i + 1) (t + ps[i].length) (by omega) (by omega)
      rw [show ((t + ps[i].length : Nat) : Int) = (t : Int) + (ps[i].length : Int) by omega] at this
      exact ⟨fun h => .step hbd (this.1 (by omega)), fun h => .step hbd (this.2 (by omega))⟩
theorem runs91c (ps : Ps) (i : Nat) (h1 : i < ps.length) (hl : (ps.getD i []).length < 4611686018427387904) : ∀ (k j : Nat), j + k = (ps.getD i []).length →
    (okPts ((ps.getD i []).drop j) = true → Runs E91 4 (loopAt Try.f13 2) (st91c ps i j) (.exit 4) (mk 78 [(0, plv ps), (7, iv 16777216), (8, iv i)])) ∧
    (okPts ((ps.getD i []).drop j) = false → Runs E91 4 (loopAt Try.f13 2) (st91c ps i j) .ret (mk 78 [(0, plv ps), (4, iv 2), (7, iv 16777216), (8, iv i)])) := by
  intro k
  induction k with
  | zero =>
    intro j hj
    rw [List.drop_eq_nil_of_le (by omega)]
    refine ⟨fun _ => .stop ?_ (by simp), fun h => nomatch h⟩
    rw [b91c, Int.toNat_natCast, decide_eq_true (by omega : (0 : Int) ≤ i), decide_eq_true (by omega : (i : Int) < ps.length), decide_eq_false (by omega)]
    rfl
  | succ k ih =>
    intro j hj
    have h2 : j < (ps.getD i []).length := by omega
    rw [List.drop_eq_getElem_cons h2]
    have hbd := b91c ps i j
    rw [Int.toNat_natCast, Int.toNat_natCast, decide_eq_true (by omega : (0 : Int) ≤ i), decide_eq_true (by omega : (i : Int) < ps.length), decide_eq_true (by omega : (j : Int) < (ps.getD i []).length), decide_eq_true (by omega : (0 : Int) ≤ j), getP_at h2, W_small (n := (j : Int) + 1) (by omega) (by omega), bad_eq] at hbd
    simp only [okPts, List.all_cons]
    cases hp : okP (ps.getD i [])[j]
    · rw [hp] at hbd
      exact ⟨fun h => (nomatch h), fun _ => .stop hbd (by simp)⟩
    · rw [hp] at hbd
      rw [Bool.true_and]
      exact ⟨fun h => .step hbd ((ih (j + 1) (by omega)).1 h), fun h => .step hbd ((ih (j + 1) (by omega)).2 h)⟩
theorem runs91b (ps : Ps) (hs : shortPs ps = true) : ∀ (k i : Nat), i + k = ps.length →
    (allPts (ps.drop i) = true → Runs E91 2 (loopAt Try.f13 1) (st91b ps i) (.exit 2) (mk 78 [])) ∧ (allPts (ps.drop i) = false → Runs E91 2 (loopAt Try.f13 1) (st91b ps i) .ret (mk 78 [(4, iv 2)])) := by
  simp only [shortPs, Bool.and_eq_true, decide_eq_true_eq] at hs
  intro k
  induction k with
  | zero =>
    intro i hi
    rw [List.drop_eq_nil_of_le (by omega)]
    refine ⟨fun _ => .stop ?_ (by simp), fun h => nomatch h⟩
    rw [b91b, decide_eq_false (by omega)]
    rfl
  | succ k ih =>
    intro i hi
    have h1 : i < ps.length := by omega
    have h2 := short_at hs.2 i
    rw [List.drop_eq_getElem_cons h1]
    have hbd := b91b ps i
    rw [decide_eq_true (by omega : (i : Int) < ps.length), Int.toNat_natCast, decide_eq_true ⟨rfl, rfl, by omega, by omega, h2⟩, getL_at h1, W_small (n := (i : Int) + 1) (by omega) (by omega)] at hbd
    simp only [allPts, List.all_cons]
    cases hp : okPts ps[i]
    · rw [hp] at hbd
      exact ⟨fun h => (nomatch h), fun _ => .stop hbd (by simp)⟩
    · rw [hp] at hbd
      rw [Bool.true_and]
      exact ⟨fun h => .step hbd ((ih (i + 1) (by omega)).1 h), fun h => .step hbd ((ih (i + 1) (by omega)).2 h)⟩
theorem loop91a : LoopOk E91 0 (loopAt Try.f13 0) := by
  intro st R K z h
  obtain ⟨hn, h⟩ := req_some h
  obtain ⟨ps, e0, h⟩ := gPl_some h
  obtain ⟨t, e1, h⟩ := gI_some h
  obtain ⟨i, e2, h⟩ := gI_some h
  obtain ⟨hc, h⟩ := req_some h
  simp only [Bool.and_eq_true, decide_eq_true_eq] at hc
  obtain ⟨⟨h1, h2⟩, h3⟩ := hc
  rw [keep_mk (of_decide_eq_true hn)]
  have e := runs91a ps h3 ps.length 0 0 (by omega) (by omega)
  have es : mk 78 ((E91.lv 0).map fun i => (i, getS (keep (E91.lv 0) st) i)) = st91a ps (0 : Nat) (0 : Nat) := by
    show mk 78 [(0, getS (keep (E91.lv 0) st) 0), (5, getS (keep (E91.lv 0) st) 5), (6, getS (keep (E91.lv 0) st) 6)] = _
    rw [e0, e1, e2, h1, h2]
    rfl
  rw [es]
  rw [List.drop_zero, Nat.zero_add] at e
  by_cases ha : totN ps > 4096
  · rw [decide_eq_true ha] at h; exact ⟨_, _, e.2 ha, h⟩
  · rw [decide_eq_false ha] at h; exact ⟨_, _, e.1 (by omega), h⟩
theorem loop91b : LoopOk E91 2 (loopAt Try.f13 1) := by
  intro st R K z h
  obtain ⟨hn, h⟩ := req_some h
  obtain ⟨ps, e0, h⟩ := gPl_some h
  obtain ⟨M, e1, h⟩ := gI_some h
  obtain ⟨i, e2, h⟩ := gI_some h
  obtain ⟨hc, h⟩ := req_some h
  simp only [Bool.and_eq_true, decide_eq_true_eq] at hc
  obtain ⟨⟨h1, h2⟩, h3⟩ := hc
  rw [keep_mk (of_decide_eq_true hn)]
  have e := runs91b ps h3 ps.length 0 (by omega)
  have es : mk 78 ((E91.lv 2).map fun i => (i, getS (keep (E91.lv 2) st) i)) = st91b ps (0 : Nat) := by
    show mk 78 [(0, getS (keep (E91.lv 2) st) 0), (7, getS (keep (E91.lv 2) st) 7), (8, getS (keep (E91.lv 2) st) 8)] = _
    rw [e0, e1, e2, h1, h2]
    rfl
  rw [es]
  rw [List.drop_zero] at e
  cases ha : allPts ps
  · rw [ha] at h; exact ⟨_, _, e.2 ha, h⟩
  · rw [ha] at h; exact ⟨_, _, e.1 ha, h⟩
theorem loop91c : LoopOk E91 4 (loopAt Try.f13 2) := by
  intro st R K z h
  obtain ⟨hn, h⟩ := req_some h
  obtain ⟨ps, e0, h⟩ := gPl_some h
  obtain ⟨M, e1, h⟩ := gI_some h
  obtain ⟨i, e2, h⟩ := gI_some h
  obtain ⟨j, e3, h⟩ := gI_some h
  obtain ⟨hc, h⟩ := req_some h
  simp only [Bool.and_eq_true, decide_eq_true_eq] at hc
  obtain ⟨h1, h2, h3, h4, h5⟩ := hc
  rw [keep_mk (of_decide_eq_true hn)]
  have e := runs91c ps i.toNat (by omega) h5 (ps.getD i.toNat []).length 0 (by omega)
  have es : mk 78 ((E91.lv 4).map fun i => (i, getS (keep (E91.lv 4) st) i)) = st91c ps (i.toNat : Int) (0 : Nat) := by
    show mk 78 [(0, getS (keep (E91.lv 4) st) 0), (7, getS (keep (E91.lv 4) st) 7), (8, getS (keep (E91.lv 4) st) 8), (9, getS (keep (E91.lv 4) st) 9)] = _
    rw [e0, e1, e2, e3, h1, h2, show ((i.toNat : Nat) : Int) = i by omega]
    rfl
  rw [es]
  rw [List.drop_zero, show ((i.toNat : Nat) : Int) = i by omega] at e
  rw [show ((i.toNat : Nat) : Int) = i by omega]
  cases ha : okPts (ps.getD i.toNat [])
  · rw [ha] at h; exact ⟨_, _, e.2 ha, h⟩
  · rw [ha] at h; exact ⟨_, _, e.1 ha, h⟩
def tail91 (ps : Ps) : Option (AV × List AV) := bif decide ((0 : Int) = 0 ∧ (0 : Int) = 0) && shortPs ps then bif decide (totN ps > 4096) then oi 3 else
  bif decide ((0 : Int) = 0 ∧ (16777216 : Int) = 16777216) && shortPs ps then bif allPts ps then oi 0 else oi 2 else none else none
theorem t91 (ps : Ps) (rule : Int) : evalF E91 Try.f13 (nPR (ps, rule)) = bif rule != 0 then bif rule != 1 then oi 8 else tail91 ps else tail91 ps := by kernel_rfl
theorem m91 : Meets Try.prog 13 (gate (ps dPR fun a => shortPs a.1) (sp dPR fun a => iv (chkR a.1 a.2))) := mG (rdL (e := E91) rfl eg_nil (fn := Try.f13) (k := 2) (by kernel_rfl) (by kernel_rfl) (of_decide_eq_true (by kernel_rfl)) (show loopsOf Try.f13 = [(0, loopAt Try.f13 0), (2, loopAt Try.f13 1), (4, loopAt Try.f13 2)] by kernel_rfl)
    (fun p hp => by rcases List.mem_cons.mp hp with rfl | hp; exact loop91a; rcases List.mem_cons.mp hp with rfl | hp; exact loop91b; cases List.mem_singleton.mp hp; exact loop91c)) (fun _ _ => hPR) (fun _ => ⟨rfl, Nat.le_refl _⟩)
  fun ⟨ps, rule⟩ hp => by
    have hp : shortPs ps = true := hp
    refine (t91 ps rule).trans ?_
    have key : tail91 ps = oi (bif decide (totN ps > 4096) then 3 else bif allPts ps then 0 else 2) := by
      unfold tail91
      rw [hp, decide_eq_true (⟨rfl, rfl⟩ : (0 : Int) = 0 ∧ (0 : Int) = 0), decide_eq_true (⟨rfl, rfl⟩ : (0 : Int) = 0 ∧ (16777216 : Int) = 16777216)]
      cases decide (totN ps > 4096) <;> cases allPts ps <;> rfl
    rw [key]
    show _ = oi (chkR ps rule)
    unfold chkR
    cases rule != 0 <;> cases rule != 1 <;> rfl
end Go.Proofs.Ytbgfgadekmemeaa.Ev

