/- The check of polygons, the program's own and the reference's. Conditions: none. Printed by gen.py of this session. -/
import Derived.Test.YtbgfgadekmemeaaCd
namespace Go.Proofs.Ytbgfgadekmemeaa.Ev
open Go.Proofs
set_option linter.unusedVariables false
set_option linter.unusedSimpArgs false
set_option maxRecDepth 100000
set_option maxHeartbeats 1000000

abbrev pT2 {α : Type} (dec : List AV → Option α) : List AV → Bool := ps dec fun _ => true
@[reducible] def nPR (a : Ps × Int) : List AV := [plv a.1, iv a.2]
def dPR : List AV → Option (Ps × Int)
  | [.rv (.sc (.sl none (.polys l))), .rv (.sc (.int .i64 b))] => some (l, b)
  | _ => none
theorem hPR {us : List AV} {a} (h : dPR us = some a) : us = nPR a := by unfold dPR at h; split at h <;> cases h; rfl
theorem getP_at {l : List Pt} {i : Nat} (h : i < l.length) : l.getD i (0, 0) = l[i] := by rw [List.getD_eq_getElem?_getD, List.getElem?_eq_getElem h]; rfl
theorem getL_at {l : Ps} {i : Nat} (h : i < l.length) : l.getD i [] = l[i] := by rw [List.getD_eq_getElem?_getD, List.getElem?_eq_getElem h]; rfl

/-! ### What it is -/
def allPts (ps : Ps) : Bool := ps.all okPts
/-- The number of points as the program counts it. -/
def totW : Ps → Int → Int
  | [], t => t
  | l :: ls, t => totW ls (W (t + l.length))
/-- The number of points. -/
def totN : Ps → Nat
  | [] => 0
  | l :: ls => l.length + totN ls
def chkC (ps : Ps) (rule : Int) : Int := bif rule != 0 && rule != 1 then 8 else bif decide (totW ps 0 > 4096) then 3 else bif allPts ps then 0 else 2
def chkR (ps : Ps) (rule : Int) : Int := bif rule != 0 && rule != 1 then 8 else bif decide (totN ps > 4096) then 3 else bif allPts ps then 0 else 2
def shortPs (ps : Ps) : Bool := decide (ps.length < 4611686018427387904) && ps.all fun l => decide (l.length < 4611686018427387904)
theorem short_at {ps : Ps} (h : (ps.all fun l => decide (l.length < 4611686018427387904)) = true) (i : Nat) : (ps.getD i []).length < 4611686018427387904 := by
  rw [List.getD_eq_getElem?_getD]
  cases hi : ps[i]? with
  | none => exact of_decide_eq_true rfl
  | some p => exact of_decide_eq_true (List.all_eq_true.1 h p (List.mem_of_getElem? hi))

/-! ### The program's own -/
def lp88a (st : St) (R : Type) (K : Ex → St → Option R) : Option R := req (decide (st.length = 63)) (gPl st 0 fun ps => gI st 5 fun t => gPl st 18 fun ps' => gI st 19 fun n => gI st 20 fun i =>
  req (decide (ps' = ps ∧ n = ps.length ∧ i = 0 ∧ t = 0 ∧ ps.length < 4611686018427387904)) (K (.exit 0) (mk 63 [(0, plv ps), (5, iv (totW ps 0))])))
def lp88b (st : St) (R : Type) (K : Ex → St → Option R) : Option R := req (decide (st.length = 63)) (gPl st 31 fun ps => gI st 32 fun n => gI st 33 fun i =>
  req (decide (n = ps.length ∧ i = 0) && shortPs ps) (bif allPts ps then K (.exit 2) (mk 63 []) else K .ret (mk 63 [(4, iv 2)])))
def lp88c (st : St) (R : Type) (K : Ex → St → Option R) : Option R := req (decide (st.length = 63)) (gPl st 31 fun ps => gI st 32 fun n => gI st 33 fun i => gPs st 37 fun l => gI st 38 fun m => gI st 39 fun j =>
  req (decide (m = l.length ∧ j = 0 ∧ l.length < 4611686018427387904)) (bif okPts l then K (.exit 4) (mk 63 [(31, plv ps), (32, iv n), (33, iv i)]) else K .ret (mk 63 [(4, iv 2), (31, plv ps), (32, iv n), (33, iv i)])))
def E88 : Env := { EG [] with lv := fun id => match id with | 0 => [0, 5, 18, 19, 20] | 2 => [31, 32, 33] | _ => [31, 32, 33, 37, 38, 39], lx := fun id => match id with | 0 => [0, 5] | 2 => [4] | _ => [4, 31, 32, 33], lp := fun id => match id with | 0 => lp88a | 2 => lp88b | _ => lp88c }
def st88a (ps : Ps) (t : Int) (n i : Int) : St := mk 63 [(0, plv ps), (5, iv t), (18, plv ps), (19, iv n), (20, iv i)]
def st88b (ps : Ps) (n i : Int) : St := mk 63 [(31, plv ps), (32, iv n), (33, iv i)]
def st88c (ps : Ps) (n i : Int) (l : List Pt) (m j : Int) : St := mk 63 [(31, plv ps), (32, iv n), (33, iv i), (37, psv l), (38, iv m), (39, iv j)]
theorem b88a (ps : Ps) (t n i : Int) : evalCode E88 (loopAt Try.f12 0) 0 (st88a ps t n i) (kp E88 0) = bif decide (i < n) then bif decide (0 ≤ i) && decide (i < ps.length) then some (.normal, st88a ps (W (t + (ps.getD i.toNat []).length)) n (W (i + 1))) else none
    else some (.exit 0, mk 63 [(0, plv ps), (5, iv t)]) := by kernel_rfl
def bad {R : Type} (p : Pt) (x y : R) : R := bif decide (p.1 < -16777216) then x else bif decide (p.1 > 16777216) then x else bif decide (p.2 < -16777216) then x else bif decide (p.2 > 16777216) then x else y
theorem bad_eq {R : Type} (p : Pt) (x y : R) : bad p x y = bif okP p then y else x := by
  unfold bad okP
  by_cases c : -16777216 ≤ p.1 ∧ p.1 ≤ 16777216 ∧ -16777216 ≤ p.2 ∧ p.2 ≤ 16777216
  · rw [decide_eq_true c, decide_eq_false (by omega : ¬ p.1 < -16777216), decide_eq_false (by omega : ¬ p.1 > 16777216), decide_eq_false (by omega : ¬ p.2 < -16777216), decide_eq_false (by omega : ¬ p.2 > 16777216)]; rfl
  · rw [decide_eq_false c]
    by_cases c1 : p.1 < -16777216
    · rw [decide_eq_true c1]; rfl
    by_cases c2 : p.1 > 16777216
    · rw [decide_eq_false c1, decide_eq_true c2]; rfl
    by_cases c3 : p.2 < -16777216
    · rw [decide_eq_false c1, decide_eq_false c2, decide_eq_true c3]; rfl
    rw [decide_eq_false c1, decide_eq_false c2, decide_eq_false c3, decide_eq_true (by omega : p.2 > 16777216)]; rfl
theorem b88c (ps : Ps) (n i : Int) (l : List Pt) (m j : Int) : evalCode E88 (loopAt Try.f12 2) 4 (st88c ps n i l m j) (kp E88 4) = bif decide (j < m) then bif decide (0 ≤ j) && decide (j < l.length) then
      bad (l.getD j.toNat (0, 0)) (some (.ret, mk 63 [(4, iv 2), (31, plv ps), (32, iv n), (33, iv i)])) (some (.normal, st88c ps n i l m (W (j + 1)))) else none
    else some (.exit 4, mk 63 [(31, plv ps), (32, iv n), (33, iv i)]) := by kernel_rfl
theorem b88b (ps : Ps) (n i : Int) : evalCode E88 (loopAt Try.f12 1) 2 (st88b ps n i) (kp E88 2) = bif decide (i < n) then bif decide (0 ≤ i) && decide (i < ps.length) then
      bif decide (((ps.getD i.toNat []).length : Int) = (ps.getD i.toNat []).length ∧ (0 : Int) = 0 ∧ (ps.getD i.toNat []).length < 4611686018427387904) then bif okPts (ps.getD i.toNat []) then some (.normal, st88b ps n (W (i + 1))) else some (.ret, mk 63 [(4, iv 2)]) else none else none
    else some (.exit 2, mk 63 []) := by kernel_rfl
theorem runs88a (ps : Ps) (hl : ps.length < 4611686018427387904) : ∀ (k i : Nat) (t : Int), i + k = ps.length →
    Runs E88 0 (loopAt Try.f12 0) (st88a ps t ps.length i) (.exit 0) (mk 63 [(0, plv ps), (5, iv (totW (ps.drop i) t))]) := by
  intro k
  induction k with
  | zero =>
    intro i t hi
    rw [List.drop_eq_nil_of_le (by omega)]
    refine .stop ?_ (by simp)
    rw [b88a, decide_eq_false (by omega)]
    rfl
  | succ k ih =>
    intro i t hi
    have h1 : i < ps.length := by omega
    rw [List.drop_eq_getElem_cons h1]
    have hbd := b88a ps t ps.length i
    rw [decide_eq_true (by omega : (i : Int) < ps.length), decide_eq_true (by omega : (0 : Int) ≤ i), Int.toNat_natCast, getL_at h1, W_small (n := (i : Int) + 1) (by omega) (by omega)] at hbd
    exact .step hbd (ih (i + 1) _ (by omega))
theorem runs88c (ps : Ps) (n i : Int) (l : List Pt) (hl : l.length < 4611686018427387904) : ∀ (k j : Nat), j + k = l.length →
    (okPts (l.drop j) = true → Runs E88 4 (loopAt Try.f12 2) (st88c ps n i l l.length j) (.exit 4) (mk 63 [(31, plv ps), (32, iv n), (33, iv i)])) ∧
    (okPts (l.drop j) = false → Runs E88 4 (loopAt Try.f12 2) (st88c ps n i l l.length j) .ret (mk 63 [(4, iv 2), (31, plv ps), (32, iv n), (33, iv i)])) := by
  intro k
  induction k with
  | zero =>
    intro j hj
    rw [List.drop_eq_nil_of_le (by omega)]
    refine ⟨fun _ => .stop ?_ (by simp), fun h => nomatch h⟩
    rw [b88c, decide_eq_false (by omega)]
    rfl
  | succ k ih =>
    intro j hj
    have h1 : j < l.length := by omega
    rw [List.drop_eq_getElem_cons h1]
    have hbd := b88c ps n i l l.length j
    rw [decide_eq_true (by omega : (j : Int) < l.length), decide_eq_true (by omega : (0 : Int) ≤ j), Int.toNat_natCast, getP_at h1, W_small (n := (j : Int) + 1) (by omega) (by omega), bad_eq] at hbd
    simp only [okPts, List.all_cons]
    cases hp : okP l[j]
    · rw [hp] at hbd
      exact ⟨fun h => (nomatch h), fun _ => .stop hbd (by simp)⟩
    · rw [hp] at hbd
      rw [Bool.true_and]
      exact ⟨fun h => .step hbd ((ih (j + 1) (by omega)).1 h), fun h => .step hbd ((ih (j + 1) (by omega)).2 h)⟩
theorem runs88b (ps : Ps) (hs : shortPs ps = true) : ∀ (k i : Nat), i + k = ps.length →
    (allPts (ps.drop i) = true → Runs E88 2 (loopAt Try.f12 1) (st88b ps ps.length i) (.exit 2) (mk 63 [])) ∧ (allPts (ps.drop i) = false → Runs E88 2 (loopAt Try.f12 1) (st88b ps ps.length i) .ret (mk 63 [(4, iv 2)])) := by
  simp only [shortPs, Bool.and_eq_true, decide_eq_true_eq] at hs
  intro k
  induction k with
  | zero =>
    intro i hi
    rw [List.drop_eq_nil_of_le (by omega)]
    refine ⟨fun _ => .stop ?_ (by simp), fun h => nomatch h⟩
    rw [b88b, decide_eq_false (by omega)]
    rfl
  | succ k ih =>
    intro i hi
    have h1 : i < ps.length := by omega
    have h2 := short_at hs.2 i
    rw [List.drop_eq_getElem_cons h1]
    have hbd := b88b ps ps.length i
    rw [decide_eq_true (by omega : (i : Int) < ps.length), decide_eq_true (by omega : (0 : Int) ≤ i), Int.toNat_natCast, decide_eq_true ⟨rfl, rfl, h2⟩, getL_at h1, W_small (n := (i : Int) + 1) (by omega) (by omega)] at hbd
    simp only [allPts, List.all_cons]
    cases hp : okPts ps[i]
    · rw [hp] at hbd
      exact ⟨fun h => (nomatch h), fun _ => .stop hbd (by simp)⟩
    · rw [hp] at hbd
      rw [Bool.true_and]
      exact ⟨fun h => .step hbd ((ih (i + 1) (by omega)).1 h), fun h => .step hbd ((ih (i + 1) (by omega)).2 h)⟩
theorem loop88a : LoopOk E88 0 (loopAt Try.f12 0) := by
  intro st R K z h
  obtain ⟨hn, h⟩ := req_some h
  obtain ⟨ps, e0, h⟩ := gPl_some h
  obtain ⟨t, e1, h⟩ := gI_some h
  obtain ⟨ps', e2, h⟩ := gPl_some h
  obtain ⟨n, e3, h⟩ := gI_some h
  obtain ⟨i, e4, h⟩ := gI_some h
  obtain ⟨hc, h⟩ := req_some h
  simp only [Bool.and_eq_true, decide_eq_true_eq] at hc
  obtain ⟨h1, h2, h3, h4, h5⟩ := hc
  rw [keep_mk (of_decide_eq_true hn)]
  have e := runs88a ps h5 ps.length 0 0 (by omega)
  have es : mk 63 ((E88.lv 0).map fun i => (i, getS (keep (E88.lv 0) st) i)) = st88a ps 0 ps.length (0 : Nat) := by
    show mk 63 [(0, getS (keep (E88.lv 0) st) 0), (5, getS (keep (E88.lv 0) st) 5), (18, getS (keep (E88.lv 0) st) 18), (19, getS (keep (E88.lv 0) st) 19), (20, getS (keep (E88.lv 0) st) 20)] = _
    rw [e0, e1, e2, e3, e4, h1, h2, h3, h4]
    rfl
  rw [es]
  exact ⟨_, _, e, h⟩
theorem loop88b : LoopOk E88 2 (loopAt Try.f12 1) := by
  intro st R K z h
  obtain ⟨hn, h⟩ := req_some h
  obtain ⟨ps, e0, h⟩ := gPl_some h
  obtain ⟨n, e1, h⟩ := gI_some h
  obtain ⟨i, e2, h⟩ := gI_some h
  obtain ⟨hc, h⟩ := req_some h
  simp only [Bool.and_eq_true, decide_eq_true_eq] at hc
  obtain ⟨⟨h1, h2⟩, h3⟩ := hc
  rw [keep_mk (of_decide_eq_true hn)]
  have e := runs88b ps h3 ps.length 0 (by omega)
  have es : mk 63 ((E88.lv 2).map fun i => (i, getS (keep (E88.lv 2) st) i)) = st88b ps ps.length (0 : Nat) := by
    show mk 63 [(31, getS (keep (E88.lv 2) st) 31), (32, getS (keep (E88.lv 2) st) 32), (33, getS (keep (E88.lv 2) st) 33)] = _
    rw [e0, e1, e2, h1, h2]
    rfl
  rw [es]
  rw [List.drop_zero] at e
  cases ha : allPts ps
  · rw [ha] at h; exact ⟨_, _, e.2 ha, h⟩
  · rw [ha] at h; exact ⟨_, _, e.1 ha, h⟩
theorem loop88c : LoopOk E88 4 (loopAt Try.f12 2) := by
  intro st R K z h
  obtain ⟨hn, h⟩ := req_some h
  obtain ⟨ps, e0, h⟩ := gPl_some h
  obtain ⟨n, e1, h⟩ := gI_some h
  obtain ⟨i, e2, h⟩ := gI_some h
  obtain ⟨l, e3, h⟩ := gPs_some h
  obtain ⟨m, e4, h⟩ := gI_some h
  obtain ⟨j, e5, h⟩ := gI_some h
  obtain ⟨hc, h⟩ := req_some h
  simp only [Bool.and_eq_true, decide_eq_true_eq] at hc
  obtain ⟨h1, h2, h3⟩ := hc
  rw [keep_mk (of_decide_eq_true hn)]
  have e := runs88c ps n i l h3 l.length 0 (by omega)
  have es : mk 63 ((E88.lv 4).map fun i => (i, getS (keep (E88.lv 4) st) i)) = st88c ps n i l l.length (0 : Nat) := by
    show mk 63 [(31, getS (keep (E88.lv 4) st) 31), (32, getS (keep (E88.lv 4) st) 32), (33, getS (keep (E88.lv 4) st) 33), (37, getS (keep (E88.lv 4) st) 37), (38, getS (keep (E88.lv 4) st) 38), (39, getS (keep (E88.lv 4) st) 39)] = _
    rw [e0, e1, e2, e3, e4, e5, h1, h2]
    rfl
  rw [es]
  rw [List.drop_zero] at e
  cases ha : okPts l
  · rw [ha] at h; exact ⟨_, _, e.2 ha, h⟩
  · rw [ha] at h; exact ⟨_, _, e.1 ha, h⟩
def tail88 (ps : Ps) : Option (AV × List AV) := bif decide (ps = ps ∧ (ps.length : Int) = ps.length ∧ (0 : Int) = 0 ∧ (0 : Int) = 0 ∧ ps.length < 4611686018427387904) then bif decide (totW ps 0 > 4096) then oi 3 else
  bif decide ((ps.length : Int) = ps.length ∧ (0 : Int) = 0) && shortPs ps then bif allPts ps then oi 0 else oi 2 else none else none
theorem t88 (ps : Ps) (rule : Int) : evalF E88 Try.f12 (nPR (ps, rule)) = bif rule != 0 then bif rule != 1 then oi 8 else tail88 ps else tail88 ps := by kernel_rfl
theorem m88 : Meets Try.prog 12 (gate (ps dPR fun a => shortPs a.1) (sp dPR fun a => iv (chkC a.1 a.2))) := mG (rdL (e := E88) rfl eg_nil (fn := Try.f12) (k := 2) (by kernel_rfl) (by kernel_rfl) (of_decide_eq_true (by kernel_rfl)) (show loopsOf Try.f12 = [(0, loopAt Try.f12 0), (2, loopAt Try.f12 1), (4, loopAt Try.f12 2)] by kernel_rfl)
    (fun p hp => by rcases List.mem_cons.mp hp with rfl | hp; exact loop88a; rcases List.mem_cons.mp hp with rfl | hp; exact loop88b; cases List.mem_singleton.mp hp; exact loop88c)) (fun _ _ => hPR) (fun _ => ⟨rfl, Nat.le_refl _⟩)
  fun ⟨ps, rule⟩ hp => by
    have hp : shortPs ps = true := hp
    have hl : ps.length < 4611686018427387904 := by simp only [shortPs, Bool.and_eq_true, decide_eq_true_eq] at hp; exact hp.1
    refine (t88 ps rule).trans ?_
    have key : tail88 ps = oi (bif decide (totW ps 0 > 4096) then 3 else bif allPts ps then 0 else 2) := by
      unfold tail88
      rw [hp, decide_eq_true (⟨rfl, rfl, rfl, rfl, hl⟩ : ps = ps ∧ (ps.length : Int) = ps.length ∧ (0 : Int) = 0 ∧ (0 : Int) = 0 ∧ ps.length < 4611686018427387904), decide_eq_true (⟨rfl, rfl⟩ : (ps.length : Int) = ps.length ∧ (0 : Int) = 0)]
      cases decide (totW ps 0 > 4096) <;> cases allPts ps <;> rfl
    rw [key]
    show _ = oi (chkC ps rule)
    unfold chkC
    cases rule != 0 <;> cases rule != 1 <;> rfl
end Go.Proofs.Ytbgfgadekmemeaa.Ev

