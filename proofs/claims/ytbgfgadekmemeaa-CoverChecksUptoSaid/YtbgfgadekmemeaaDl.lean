/- The box of polygons, the reference's: its loops, and that it is the program's. Conditions: the number of points. Printed by gen.py of this session. -/
import Derived.Test.YtbgfgadekmemeaaDi
namespace Go.Proofs.Ytbgfgadekmemeaa.Ev
open Go.Proofs
set_option linter.unusedVariables false
set_option linter.unusedSimpArgs false
set_option maxRecDepth 100000
set_option maxHeartbeats 1000000

theorem gFl16_ok {R : Type} {p : Pt} (h : okP p = true) (K : Option R) : gFl16 p.1 K = K ∧ gFl16 p.2 K = K := by
  have h := of_decide_eq_true (show decide _ = true from h)
  unfold gFl16
  rw [decide_eq_true (by omega), decide_eq_true (by omega)]
  exact ⟨rfl, rfl⟩
theorem runs15b (z : Q) (ps : Ps) (i : Int) (h0 : 0 ≤ i) (h0' : i < ps.length) (hl : (ps.getD i.toNat []).length < 4611686018427387904) (ho : okPts (ps.getD i.toNat []) = true) : ∀ (c j : Nat) (r : BQ), j + c = (ps.getD i.toNat []).length →
    Runs E15 2 (loopAt Try.f15 1) (st15b z r ps i j) (.exit 2) (let r' := foldR ((ps.getD i.toNat []).drop j) r; mk 93 [(0, plv ps), (2, bQ z), (3, bw r'.1), (4, iv r'.2.1), (5, iv r'.2.2.2.1), (6, iv r'.2.2.1), (7, iv r'.2.2.2.2), (8, iv i)]) := by
  intro c
  induction c with
  | zero =>
    intro j r hj
    rw [List.drop_eq_nil_of_le (by omega)]
    refine .stop ?_ (by simp)
    rw [b15b, decide_eq_false (by omega : ¬ (j : Int) < (ps.getD i.toNat []).length), decide_eq_true h0, decide_eq_true h0']
    rfl
  | succ c ih =>
    intro j r hj
    have h1 : j < (ps.getD i.toNat []).length := by omega
    have ok := List.all_eq_true.1 ho _ (List.getElem_mem h1)
    rw [List.drop_eq_getElem_cons h1]
    have hbd := b15b z r ps i j
    rw [decide_eq_true h0, decide_eq_true h0', decide_eq_true (by omega : (j : Int) < (ps.getD i.toNat []).length), decide_eq_true (by omega : (0 : Int) ≤ j), Int.toNat_natCast, getP_at h1, (gFl16_ok ok _).1, (gFl16_ok ok _).2, W_small (n := (j : Int) + 1) (by omega) (by omega)] at hbd
    refine .step (st1 := st15b z (stepR r (ps.getD i.toNat [])[j]) ps i (j + 1 : Nat)) ?_ (ih (j + 1) _ (by omega))
    obtain ⟨f, r⟩ := r
    cases f <;> exact hbd
theorem runs15a (z : Q) (ps : Ps) (hs : shortPs ps = true) (ho : allPts ps = true) : ∀ (c i : Nat) (r : BQ), i + c = ps.length →
    Runs E15 0 (loopAt Try.f15 0) (st15a z r ps i) (.exit 0) (let r' := foldRs (ps.drop i) r; mk 93 [(2, bQ z), (3, bw r'.1), (4, iv r'.2.1), (5, iv r'.2.2.2.1), (6, iv r'.2.2.1), (7, iv r'.2.2.2.2)]) := by
  simp only [shortPs, Bool.and_eq_true, decide_eq_true_eq] at hs
  intro c
  induction c with
  | zero =>
    intro i r hi
    rw [List.drop_eq_nil_of_le (by omega)]
    refine .stop ?_ (by simp)
    rw [b15a, decide_eq_false (by omega)]
    rfl
  | succ c ih =>
    intro i r hi
    have h1 : i < ps.length := by omega
    have h2 := short_at hs.2 i
    have h3 := List.all_eq_true.1 ho _ (List.getElem_mem h1)
    rw [List.drop_eq_getElem_cons h1]
    have hbd := b15a z r ps i
    rw [decide_eq_true (by omega : (i : Int) < ps.length), Int.toNat_natCast] at hbd
    rw [getL_at h1] at hbd h2
    rw [decide_eq_true (⟨rfl, by omega, by omega, h2, h3⟩ : (0 : Int) = 0 ∧ 0 ≤ (i : Int) ∧ (i : Int) < ps.length ∧ ps[i].length < 4611686018427387904 ∧ okPts ps[i] = true), W_small (n := (i : Int) + 1) (by omega) (by omega)] at hbd
    exact .step hbd (ih (i + 1) _ (by omega))
theorem loop15a : LoopOk E15 0 (loopAt Try.f15 0) := by
  intro st R K z h
  obtain ⟨hn, h⟩ := req_some h
  obtain ⟨ps, e0, h⟩ := gPl_some h
  obtain ⟨z, e1, h⟩ := gQ_some h
  obtain ⟨f, e2, h⟩ := gBo_some h
  obtain ⟨x0, e3, h⟩ := gI_some h
  obtain ⟨x1, e4, h⟩ := gI_some h
  obtain ⟨y0, e5, h⟩ := gI_some h
  obtain ⟨y1, e6, h⟩ := gI_some h
  obtain ⟨i, e7, h⟩ := gI_some h
  obtain ⟨hc, h⟩ := req_some h
  simp only [Bool.and_eq_true, decide_eq_true_eq] at hc
  obtain ⟨⟨h1, h2⟩, h3⟩ := hc
  rw [keep_mk (of_decide_eq_true hn)]
  have e := runs15a z ps h3 h2 ps.length 0 (f, x0, y0, x1, y1) (by omega)
  have es : mk 93 ((E15.lv 0).map fun i => (i, getS (keep (E15.lv 0) st) i)) = st15a z (f, x0, y0, x1, y1) ps (0 : Nat) := by
    show mk 93 [(0, getS (keep (E15.lv 0) st) 0), (2, getS (keep (E15.lv 0) st) 2), (3, getS (keep (E15.lv 0) st) 3), (4, getS (keep (E15.lv 0) st) 4), (5, getS (keep (E15.lv 0) st) 5), (6, getS (keep (E15.lv 0) st) 6), (7, getS (keep (E15.lv 0) st) 7), (8, getS (keep (E15.lv 0) st) 8)] = _
    rw [e0, e1, e2, e3, e4, e5, e6, e7, h1]
    rfl
  rw [es]
  exact ⟨_, _, e, h⟩
theorem loop15b : LoopOk E15 2 (loopAt Try.f15 1) := by
  intro st R K z h
  obtain ⟨hn, h⟩ := req_some h
  obtain ⟨ps, e0, h⟩ := gPl_some h
  obtain ⟨z, e1, h⟩ := gQ_some h
  obtain ⟨f, e2, h⟩ := gBo_some h
  obtain ⟨x0, e3, h⟩ := gI_some h
  obtain ⟨x1, e4, h⟩ := gI_some h
  obtain ⟨y0, e5, h⟩ := gI_some h
  obtain ⟨y1, e6, h⟩ := gI_some h
  obtain ⟨i, e7, h⟩ := gI_some h
  obtain ⟨j, e8, h⟩ := gI_some h
  obtain ⟨hc, h⟩ := req_some h
  simp only [Bool.and_eq_true, decide_eq_true_eq] at hc
  obtain ⟨h1, h2, h3, h4, h5⟩ := hc
  rw [keep_mk (of_decide_eq_true hn)]
  have e := runs15b z ps i h2 h3 h4 h5 (ps.getD i.toNat []).length 0 (f, x0, y0, x1, y1) (by omega)
  have es : mk 93 ((E15.lv 2).map fun i => (i, getS (keep (E15.lv 2) st) i)) = st15b z (f, x0, y0, x1, y1) ps i (0 : Nat) := by
    show mk 93 [(0, getS (keep (E15.lv 2) st) 0), (2, getS (keep (E15.lv 2) st) 2), (3, getS (keep (E15.lv 2) st) 3), (4, getS (keep (E15.lv 2) st) 4), (5, getS (keep (E15.lv 2) st) 5), (6, getS (keep (E15.lv 2) st) 6), (7, getS (keep (E15.lv 2) st) 7), (8, getS (keep (E15.lv 2) st) 8), (9, getS (keep (E15.lv 2) st) 9)] = _
    rw [e0, e1, e2, e3, e4, e5, e6, e7, e8, h1]
    rfl
  rw [es]
  exact ⟨_, _, e, h⟩
def tail15 (r : BQ) : Option (AV × List AV) := bif r.1 then oq (0, 0, 0, 0) else bif decide (lo2 r.2.2.2.1 1048575 < r.2.1) then oq (0, 0, 0, 0) else bif decide (lo2 r.2.2.2.2 1048575 < r.2.2.1) then oq (0, 0, 0, 0) else oq (r.2.1, r.2.2.1, W (W (lo2 r.2.2.2.1 1048575 - r.2.1) + 1), W (W (lo2 r.2.2.2.2 1048575 - r.2.2.1) + 1))
theorem tail15_eq (r : BQ) : tail15 r = oq (finR r) := by
  unfold tail15 finR
  cases r.1 <;> cases decide (lo2 r.2.2.2.1 1048575 < r.2.1) <;> cases decide (lo2 r.2.2.2.2 1048575 < r.2.2.1) <;> rfl
theorem t15 (ps : Ps) : evalF E15 Try.f15 [plv ps] = bif shortPs ps then bif chkR ps 0 != 0 then oq (0, 0, 0, 0) else bif decide ((0 : Int) = 0 ∧ allPts ps = true) && shortPs ps then
    tail15 (foldRs ps (true, 0, 0, 0, 0)) else none else none := by kernel_rfl
/-! ### The same box -/
def relB (r : BQ) (b : Q) : Prop := (r.1 = true ∧ b = (16777216, 16777216, -16777216, -16777216)) ∨ (r.1 = false ∧ b = (r.2.1, r.2.2.1, r.2.2.2.1 + 1, r.2.2.2.2 + 1) ∧ -1048576 ≤ r.2.1 ∧ r.2.1 ≤ r.2.2.2.1 ∧ r.2.2.2.1 ≤ 1048576 ∧ -1048576 ≤ r.2.2.1 ∧ r.2.2.1 ≤ r.2.2.2.2 ∧ r.2.2.2.2 ≤ 1048576)
theorem relB_step {r : BQ} {b : Q} (h : relB r b) {p : Pt} (hp : okP p = true) : relB (stepR r p) (stepB b p) := by
  have hp := of_decide_eq_true (show decide _ = true from hp)
  obtain ⟨x, y⟩ := p
  obtain ⟨f, x0, y0, x1, y1⟩ := r
  obtain ⟨b0, b1, b2, b3⟩ := b
  simp only at hp
  have e1 : x.fdiv 16 = x / 16 := Int.fdiv_eq_ediv_of_nonneg _ (by omega)
  have e2 : y.fdiv 16 = y / 16 := Int.fdiv_eq_ediv_of_nonneg _ (by omega)
  have hx : -1048576 ≤ x / 16 ∧ x / 16 ≤ 1048576 := by omega
  have hy : -1048576 ≤ y / 16 ∧ y / 16 ≤ 1048576 := by omega
  unfold stepB stepR
  dsimp only
  rw [e1, e2, W_small (n := x / 16 + 1) (by omega) (by omega), W_small (n := y / 16 + 1) (by omega) (by omega)]
  generalize x / 16 = u at *
  generalize y / 16 = v at *
  unfold relB at h ⊢
  right
  rcases h with ⟨h1, h2⟩ | ⟨h1, h2, h3⟩
  · simp only at h1
    subst h1
    simp only [Prod.mk.injEq] at h2
    obtain ⟨rfl, rfl, rfl, rfl⟩ := h2
    unfold lo2 hi2
    simp only [cond_true, gt_iff_lt, Int.lt_irrefl, if_false]
    refine ⟨trivial, ?_, by omega⟩
    rw [if_pos (by omega), if_pos (by omega), if_pos (by omega), if_pos (by omega)]
  · simp only at h1
    subst h1
    simp only [Prod.mk.injEq] at h2
    obtain ⟨rfl, rfl, rfl, rfl⟩ := h2
    simp only at h3
    unfold lo2 hi2
    simp only [cond_false, Prod.mk.injEq]
    refine ⟨trivial, ⟨trivial, trivial, ?_, ?_⟩, ?_⟩
    · split <;> split <;> omega
    · split <;> split <;> omega
    · refine ⟨?_, ?_, ?_, ?_, ?_, ?_⟩ <;> (repeat' split) <;> omega
theorem relB_foldl : ∀ (l : List Pt) {r : BQ} {b : Q}, relB r b → okPts l = true → relB (foldR l r) (foldB l b)
  | [], r, b, h, _ => h
  | p :: l, r, b, h, ho => by
    simp only [okPts, List.all_cons, Bool.and_eq_true] at ho
    exact relB_foldl l (relB_step h ho.1) ho.2
theorem relB_folds : ∀ (ps : Ps) {r : BQ} {b : Q}, relB r b → allPts ps = true → relB (foldRs ps r) (foldBs ps b)
  | [], r, b, h, _ => h
  | l :: ps, r, b, h, ho => by
    simp only [allPts, List.all_cons, Bool.and_eq_true] at ho
    exact relB_folds ps (relB_foldl l h ho.1) ho.2
theorem fin_eq {r : BQ} {b : Q} (h : relB r b) : finR r = finB b := by
  obtain ⟨f, x0, y0, x1, y1⟩ := r
  rcases h with ⟨h1, h2⟩ | ⟨h1, h2, h3⟩
  · simp only at h1
    subst h1; subst h2
    rfl
  · simp only at h1 h2 h3
    subst h1; subst h2
    have a1 : lo2 (x1 + 1) 1048576 = lo2 x1 1048575 + 1 := by unfold lo2; split <;> split <;> omega
    have a2 : lo2 (y1 + 1) 1048576 = lo2 y1 1048575 + 1 := by unfold lo2; split <;> split <;> omega
    have b1 : lo2 x1 1048575 ≤ 1048576 ∧ -1048577 ≤ lo2 x1 1048575 := by unfold lo2; split <;> omega
    have b2 : lo2 y1 1048575 ≤ 1048576 ∧ -1048577 ≤ lo2 y1 1048575 := by unfold lo2; split <;> omega
    unfold finR finB
    simp only [a1, a2, Bool.false_or]
    rw [decide_eq_decide.mpr (by omega : lo2 x1 1048575 < x0 ↔ x0 ≥ lo2 x1 1048575 + 1), decide_eq_decide.mpr (by omega : lo2 y1 1048575 < y0 ↔ y0 ≥ lo2 y1 1048575 + 1), W_small (n := lo2 x1 1048575 - x0) (by omega) (by omega), W_small (n := lo2 y1 1048575 - y0) (by omega) (by omega),
      show lo2 x1 1048575 + 1 - x0 = lo2 x1 1048575 - x0 + 1 by omega, show lo2 y1 1048575 + 1 - y0 = lo2 y1 1048575 - y0 + 1 by omega]
theorem chk_all {ps : Ps} {rule : Int} (h : (chkC ps rule != 0) = false) : allPts ps = true := by
  unfold chkC at h
  revert h
  cases rule != 0 && rule != 1 <;> cases decide (totW ps 0 > 4096) <;> cases allPts ps <;> decide
theorem box_eq {ps : Ps} (h : totN ps < 9223372036854775808) : boxR ps = boxP ps := by
  unfold boxR boxP
  rw [← chk_eq h]
  cases hc : chkC ps 0 != 0
  · exact fin_eq (relB_folds ps (.inl ⟨rfl, rfl⟩) (chk_all hc))
  · rfl
abbrev pBxR : List AV → Bool := ps dPls fun l => shortPs l && decide (totN l < 9223372036854775808)
theorem mBxR : Meets Try.prog 15 (gate pBxR sBx) := mG (rdL (e := E15) rfl (eg_cons m91 (eg_cons mRFloor eg_nil)) (fn := Try.f15) (k := 1) (by kernel_rfl) (by kernel_rfl) (of_decide_eq_true (by kernel_rfl)) (show loopsOf Try.f15 = [(0, loopAt Try.f15 0), (2, loopAt Try.f15 1)] by kernel_rfl)
    (fun p hp => by rcases List.mem_cons.mp hp with rfl | hp; exact loop15a; cases List.mem_singleton.mp hp; exact loop15b)) (fun _ _ => hPls) (fun _ => ⟨rfl, Nat.le_refl _⟩)
  fun ps hp => by
    have hp : (shortPs ps && decide (totN ps < 9223372036854775808)) = true := hp
    simp only [Bool.and_eq_true, decide_eq_true_eq] at hp
    refine (t15 ps).trans ?_
    show _ = oq (boxP ps)
    rw [← box_eq hp.2]
    unfold boxR
    rw [hp.1, tail15_eq]
    cases hc : chkR ps 0 != 0
    · rw [← chk_eq hp.2] at hc
      rw [decide_eq_true (⟨rfl, chk_all hc⟩ : (0 : Int) = 0 ∧ allPts ps = true)]
      rfl
    · rfl
end Go.Proofs.Ytbgfgadekmemeaa.Ev

