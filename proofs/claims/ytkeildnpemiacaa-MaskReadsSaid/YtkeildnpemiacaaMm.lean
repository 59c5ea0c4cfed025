/- The bounding box of a mask, the program's own and the reference's. Conditions: none. Printed by gen.py of this session. -/
import Derived.Test.YtkeildnpemiacaaMl
namespace Go.Proofs.Ytkeildnpemiacaa.Ev
open Go.Proofs
set_option linter.unusedVariables false
set_option linter.unusedSimpArgs false
set_option maxRecDepth 100000
set_option maxHeartbeats 1000000

/-! ### Join, the reference's -/
def ofQ (x0 x1 y0 y1 : Int) : Q := if x1 < x0 ∨ y1 < y0 then (0, 0, 0, 0) else (x0, y0, W (W (x1 - x0) + 1), W (W (y1 - y0) + 1))
@[reducible] def nI4 (a : Int × Int × Int × Int) : List AV := [iv a.1, iv a.2.1, iv a.2.2.1, iv a.2.2.2]
def dI4 : List AV → Option (Int × Int × Int × Int)
  | [.rv (.sc (.int .i64 a)), .rv (.sc (.int .i64 b)), .rv (.sc (.int .i64 c)), .rv (.sc (.int .i64 d))] => some (a, b, c, d)
  | _ => none
theorem hI4 {us : List AV} {a} (h : dI4 us = some a) : us = nI4 a := by unfold dI4 at h; split at h <;> cases h; rfl
theorem t87 (a b c d : Int) : evalF (EG []) Try.f87 [iv a, iv b, iv c, iv d] = bif decide (b < a) then oq (0, 0, 0, 0) else bif decide (d < c) then oq (0, 0, 0, 0) else oq (a, c, W (W (b - a) + 1), W (W (d - c) + 1)) := by kernel_rfl
theorem m87 : Meets Try.prog 87 (gate (pT dI4) (sp dI4 fun a => qv (ofQ a.1 a.2.1 a.2.2.1 a.2.2.2))) := mG (rdE eg_nil (fn := Try.f87) (k := 4) (by kernel_rfl) (by kernel_rfl) (of_decide_eq_true (by kernel_rfl)) (by kernel_rfl)) (fun _ _ => hI4) (fun _ => ⟨rfl, Nat.le_refl _⟩)
  fun ⟨a, b, c, d⟩ _ => by
    refine (t87 a b c d).trans ?_
    simp only [cqq]
    refine congrArg oq ?_
    unfold ofQ
    simp only [cond_eq_ite, decide_eq_true_eq]
    repeat' split
    all_goals first | rfl | omega
def L55 : List Entry := [(52, pT dQ, sp dQ fun a => bw (empty a)), (86, pT dQI, sp dQI fun a => tv (rlo a.1 a.2) (rhi a.1 a.2)), (87, pT dI4, sp dI4 fun a => qv (ofQ a.1 a.2.1 a.2.2.1 a.2.2.2))]
def joinF (a b : Q) : Q := ofQ (mn (rlo a 0) (rlo b 0)) (mx (rhi a 0) (rhi b 0)) (mn (rlo a 1) (rlo b 1)) (mx (rhi a 1) (rhi b 1))
def joinP (a b : Q) : Q := bif empty a then (bif empty b then (0, 0, 0, 0) else b) else bif empty b then a else joinF a b
theorem t55 (a b c d a' b' c' d' : Int) : evalF (EG L55) Try.f55 [q4 a b c d, q4 a' b' c' d'] =
    bif empty (a, b, c, d) then bif empty (a', b', c', d') then oq (0, 0, 0, 0) else bif empty (a, b, c, d) then oq (a', b', c', d') else bif empty (a', b', c', d') then oq (a, b, c, d) else oq (joinF (a, b, c, d) (a', b', c', d'))
    else bif empty (a, b, c, d) then oq (a', b', c', d') else bif empty (a', b', c', d') then oq (a, b, c, d) else oq (joinF (a, b, c, d) (a', b', c', d')) := by kernel_rfl
theorem m55 : Meets Try.prog 55 (gate (pT dQQ) (sp dQQ fun a => qv (joinP a.1 a.2))) := mG (rdE (l := L55) (eg_cons m52 (eg_cons m86 (eg_cons m87 eg_nil))) (fn := Try.f55) (k := 2) (by kernel_rfl) (by kernel_rfl) (of_decide_eq_true (by kernel_rfl)) (by kernel_rfl)) (fun _ _ => hQQ) (fun _ => ⟨rfl, Nat.le_refl _⟩)
  fun ⟨⟨a, b, c, d⟩, a', b', c', d'⟩ _ => by
    refine (t55 a b c d a' b' c' d').trans ?_
    show _ = oq (joinP (a, b, c, d) (a', b', c', d'))
    unfold joinP
    cases empty (a, b, c, d) <;> cases empty (a', b', c', d') <;> rfl
/-! ### The box, in plain words -/
def toR (s : Q) : Q := if s.1 ≥ s.2.2.1 then (0, 0, 0, 0) else (s.1, s.2.1, s.2.2.1 - s.1, s.2.2.2 - s.2.1)
def addP (s : Q) (x y : Int) : Q := (mn s.1 x, mn s.2.1 y, mx s.2.2.1 (x + 1), mx s.2.2.2 (y + 1))
def stepB (m : Mk) (s : Q) (x y : Int) : Q := if 0 < getM m x y then addP s x y else s
def rowB (m : Mk) (y : Int) : Nat → Int → Q → Q
  | 0, _, s => s
  | k + 1, x, s => rowB m y k (x + 1) (stepB m s x y)
def rowsB (m : Mk) (w : Nat) : Nat → Int → Q → Q
  | 0, _, s => s
  | k + 1, y, s => rowsB m w k (y + 1) (rowB m y w 0 s)
def boxM (m : Mk) : Q := if checkM m ≠ 0 then (0, 0, 0, 0) else toR (rowsB m m.1.toNat m.2.1.toNat 0 (m.1, m.2.1, 0, 0))
/-- Nothing yet, or a box with pixels. -/
def Inv (w h : Int) (s : Q) : Prop := s = (w, h, 0, 0) ∨ (0 ≤ s.1 ∧ s.1 < s.2.2.1 ∧ s.2.2.1 ≤ 256 ∧ 0 ≤ s.2.1 ∧ s.2.1 < s.2.2.2 ∧ s.2.2.2 ≤ 256)
theorem join_point {w h : Int} {s : Q} (hs : Inv w h s) (hw : 0 ≤ w) {x y : Int} (hx : 0 ≤ x ∧ x < w ∧ x < 256) (hy : 0 ≤ y ∧ y < h ∧ y < 256) : joinP (toR s) (x, y, 1, 1) = toR (addP s x y) ∧ Inv w h (addP s x y) := by
  have hp : empty (x, y, 1, 1) = false := (nonempty_iff ..).mpr ⟨(valid_iff ..).mpr (by omega), by decide, by decide⟩
  obtain ⟨x0, y0, x1, y1⟩ := s
  rcases hs with hs | hs
  · simp only [Prod.mk.injEq] at hs
    obtain ⟨rfl, rfl, rfl, rfl⟩ := hs
    have e1 : toR (x0, y0, 0, 0) = (0, 0, 0, 0) := if_pos hw
    have e2 : addP (x0, y0, 0, 0) x y = (x, y, x + 1, y + 1) := by
      unfold addP mn mx
      simp only [Prod.mk.injEq]
      refine ⟨?_, ?_, ?_, ?_⟩ <;> split <;> omega
    rw [e1, e2]
    refine ⟨?_, .inr (by simp only; omega)⟩
    unfold joinP toR
    rw [show empty (0, 0, 0, 0) = true by decide, hp, if_neg (by simp only; omega)]
    simp only [cond_true, cond_false, Prod.mk.injEq, true_and]
    omega
  · simp only at hs
    have e1 : toR (x0, y0, x1, y1) = (x0, y0, x1 - x0, y1 - y0) := if_neg (by simp only; omega)
    have hn : empty (x0, y0, x1 - x0, y1 - y0) = false := (nonempty_iff ..).mpr ⟨(valid_iff ..).mpr (by omega), by omega, by omega⟩
    have hi : Inv w h (addP (x0, y0, x1, y1) x y) := by
      refine .inr ?_
      unfold addP mn mx
      simp only
      refine ⟨?_, ?_, ?_, ?_, ?_, ?_⟩ <;> repeat' split
      all_goals omega
    refine ⟨?_, hi⟩
    rw [e1]
    unfold joinP
    rw [hn, hp]
    simp only [cond_false]
    unfold joinF rlo rhi
    rw [hn, hp]
    simp only [Bool.false_eq_true, if_false, if_true, Int.one_ne_zero]
    have k1 : mx (x0 + (x1 - x0) - 1) (x + 1 - 1) = mx x1 (x + 1) - 1 := by unfold mx; split <;> split <;> omega
    have k2 : mx (y0 + (y1 - y0) - 1) (y + 1 - 1) = mx y1 (y + 1) - 1 := by unfold mx; split <;> split <;> omega
    have k3 : 0 ≤ mn x0 x ∧ mn x0 x < mx x1 (x + 1) ∧ mx x1 (x + 1) ≤ 256 := by
      unfold mn mx
      refine ⟨?_, ?_, ?_⟩ <;> repeat' split
      all_goals omega
    have k4 : 0 ≤ mn y0 y ∧ mn y0 y < mx y1 (y + 1) ∧ mx y1 (y + 1) ≤ 256 := by
      unfold mn mx
      refine ⟨?_, ?_, ?_⟩ <;> repeat' split
      all_goals omega
    rw [k1, k2]
    unfold toR addP
    simp only
    generalize mn x0 x = p at k3 ⊢
    generalize mx x1 (x + 1) = X at k3 ⊢
    generalize mn y0 y = q at k4 ⊢
    generalize mx y1 (y + 1) = Y at k4 ⊢
    unfold ofQ
    rw [if_neg (by omega), if_neg (by omega), W_small (n := X - 1 - p) (by omega) (by omega), W_small (n := Y - 1 - q) (by omega) (by omega), W_small (n := X - 1 - p + 1) (by omega) (by omega), W_small (n := Y - 1 - q + 1) (by omega) (by omega)]
    simp only [Prod.mk.injEq, true_and]
    omega
/-! ### The reference's -/
def stepJ (m : Mk) (r : Q) (x y : Int) : Q := bif decide (getM m x y > 0) then joinP r (x, y, 1, 1) else r
def rowJ (m : Mk) (y : Int) : Nat → Int → Q → Q
  | 0, _, r => r
  | k + 1, x, r => rowJ m y k (x + 1) (stepJ m r x y)
def rowsJ (m : Mk) (w : Nat) : Nat → Int → Q → Q
  | 0, _, r => r
  | k + 1, y, r => rowsJ m w k (y + 1) (rowJ m y w 0 r)
theorem stepJ_eq {m : Mk} {w h : Int} {s : Q} (hs : Inv w h s) (hw : 0 ≤ w) {x y : Int} (hx : 0 ≤ x ∧ x < w ∧ x < 256) (hy : 0 ≤ y ∧ y < h ∧ y < 256) : stepJ m (toR s) x y = toR (stepB m s x y) ∧ Inv w h (stepB m s x y) := by
  unfold stepJ stepB
  by_cases c : 0 < getM m x y
  · rw [decide_eq_true c, if_pos c]
    exact join_point hs hw hx hy
  · rw [decide_eq_false c, if_neg c]
    exact ⟨rfl, hs⟩
theorem rowJ_eq {m : Mk} {w h : Int} (hw : 0 ≤ w ∧ w ≤ 256) (hh : h ≤ 256) {y : Int} (hy : 0 ≤ y ∧ y < h) : ∀ (k : Nat) (x : Int) (s : Q), Inv w h s → 0 ≤ x → x + k ≤ w → rowJ m y k x (toR s) = toR (rowB m y k x s) ∧ Inv w h (rowB m y k x s)
  | 0, _, s, hs, _, _ => ⟨rfl, hs⟩
  | k + 1, x, s, hs, h0, h1 => by
    have := stepJ_eq (m := m) hs hw.1 (x := x) (y := y) (by omega) (by omega)
    rw [rowJ, rowB, this.1]
    exact rowJ_eq hw hh hy k (x + 1) _ this.2 (by omega) (by omega)
theorem rowsJ_eq {m : Mk} {w h : Int} (hw : 0 ≤ w ∧ w ≤ 256) (hh : h ≤ 256) : ∀ (k : Nat) (y : Int) (s : Q), Inv w h s → 0 ≤ y → y + k ≤ h → rowsJ m w.toNat k y (toR s) = toR (rowsB m w.toNat k y s)
  | 0, _, s, hs, _, _ => rfl
  | k + 1, y, s, hs, h0, h1 => by
    have := rowJ_eq (m := m) hw hh (y := y) (by omega) w.toNat 0 s hs (Int.le_refl _) (by omega)
    rw [rowsJ, rowsB, this.1]
    exact rowsJ_eq hw hh k (y + 1) _ this.2 (by omega) (by omega)
def lp21o (st : St) (R : Type) (K : Ex → St → Option R) : Option R := req (decide (st.length = 34)) (gM st 1 fun m => gQ st 2 fun z => gQ st 3 fun r => gI st 4 fun y =>
  req (decide (y = 0) && okSize m) (K (.exit 0) (mk 34 [(2, bQ z), (3, bQ (rowsJ m m.1.toNat m.2.1.toNat 0 r))])))
def lp21i (st : St) (R : Type) (K : Ex → St → Option R) : Option R := req (decide (st.length = 34)) (gM st 1 fun m => gQ st 2 fun z => gQ st 3 fun r => gI st 4 fun y => gI st 5 fun x =>
  req (decide (x = 0) && okSize m) (K (.exit 2) (mk 34 [(1, bM m), (2, bQ z), (3, bQ (rowJ m y m.1.toNat 0 r)), (4, iv y)])))
def L21 (ck : Mk → Int) : List Entry := [(31, pT dM, sp dM fun m => iv (ck m)), (53, pG, sG), (55, pT dQQ, sp dQQ fun a => qv (joinP a.1 a.2))]
def E21 (ck : Mk → Int) : Env := { EG (L21 ck) with lv := fun id => match id with | 0 => [1, 2, 3, 4] | _ => [1, 2, 3, 4, 5], lx := fun id => match id with | 0 => [2, 3] | _ => [1, 2, 3, 4], lp := fun id => match id with | 0 => lp21o | _ => lp21i }
def st21o (m : Mk) (z r : Q) (y : Int) : St := mk 34 [(1, bM m), (2, bQ z), (3, bQ r), (4, iv y)]
def st21i (m : Mk) (z r : Q) (y x : Int) : St := mk 34 [(1, bM m), (2, bQ z), (3, bQ r), (4, iv y), (5, iv x)]
theorem b21i (ck : Mk → Int) (m : Mk) (z r : Q) (y x : Int) : evalCode (E21 ck) (loopAt Try.f21 1) 2 (st21i m z r y x) (kp (E21 ck) 2) = bif decide (x < m.1) then bif okSize m then
    bif decide (getM m x y > 0) then some (.normal, st21i m z (joinP r (x, y, 1, 1)) y (W (x + 1))) else some (.normal, st21i m z r y (W (x + 1))) else none
    else some (.exit 2, st21o m z r y) := by kernel_rfl
theorem b21o (ck : Mk → Int) (m : Mk) (z r : Q) (y : Int) : evalCode (E21 ck) (loopAt Try.f21 0) 0 (st21o m z r y) (kp (E21 ck) 0) = bif decide (y < m.2.1) then bif decide ((0 : Int) = 0) && okSize m then some (.normal, st21o m z (rowJ m y m.1.toNat 0 r) (W (y + 1))) else none
    else some (.exit 0, mk 34 [(2, bQ z), (3, bQ r)]) := by kernel_rfl
theorem t21 (ck : Mk → Int) (w h : Int) (l : List Int) : evalF (E21 ck) Try.f21 [mk3 w h l] = bif ck (w, h, l) != 0 then oq (0, 0, 0, 0) else bif decide ((0 : Int) = 0) && okSize (w, h, l) then oq (rowsJ (w, h, l) w.toNat h.toNat 0 (0, 0, 0, 0)) else none := by kernel_rfl
theorem runs21i (ck : Mk → Int) (m : Mk) (z : Q) (y : Int) (ho : okSize m = true) (hm : m.1 ≤ 256) : ∀ (k : Nat) (x : Int) (r : Q), x + k = m.1 ∨ (k = 0 ∧ m.1 ≤ x) → 0 ≤ x →
    Runs (E21 ck) 2 (loopAt Try.f21 1) (st21i m z r y x) (.exit 2) (st21o m z (rowJ m y k x r) y) := by
  intro k
  induction k with
  | zero =>
    intro x r hx _
    refine .stop ?_ (by simp)
    rw [b21i, decide_eq_false (by omega), rowJ]
    rfl
  | succ k ih =>
    intro x r hx h0
    have hbd := b21i ck m z r y x
    rw [decide_eq_true (by omega : x < m.1), ho, W_small (n := x + 1) (by omega) (by omega)] at hbd
    rw [rowJ]
    have := ih (x + 1) (stepJ m r x y) (by omega) (by omega)
    refine .step ?_ this
    rw [hbd]
    unfold stepJ
    cases decide (getM m x y > 0) <;> rfl
theorem runs21o (ck : Mk → Int) (m : Mk) (z : Q) (ho : okSize m = true) (hm : m.1 ≤ 256) (hm2 : m.2.1 ≤ 256) : ∀ (k : Nat) (y : Int) (r : Q), y + k = m.2.1 ∨ (k = 0 ∧ m.2.1 ≤ y) → 0 ≤ y →
    Runs (E21 ck) 0 (loopAt Try.f21 0) (st21o m z r y) (.exit 0) (mk 34 [(2, bQ z), (3, bQ (rowsJ m m.1.toNat k y r))]) := by
  intro k
  induction k with
  | zero =>
    intro x r hx _
    refine .stop ?_ (by simp)
    rw [b21o, decide_eq_false (by omega), rowsJ]
    rfl
  | succ k ih =>
    intro y r hx h0
    have hbd := b21o ck m z r y
    rw [decide_eq_true (by omega : y < m.2.1), ho, W_small (n := y + 1) (by omega) (by omega)] at hbd
    exact .step hbd (ih (y + 1) (rowJ m y m.1.toNat 0 r) (by omega) (by omega))
theorem okSize_le {m : Mk} (h : okSize m = true) : 0 ≤ m.1 ∧ m.1 ≤ 256 ∧ 0 ≤ m.2.1 ∧ m.2.1 ≤ 256 := by
  obtain ⟨w, h', l⟩ := m
  have := (okSize_iff _ _ _).mp h
  simp only
  omega
theorem loop21i (ck : Mk → Int) : LoopOk (E21 ck) 2 (loopAt Try.f21 1) := by
  intro st R K z h
  obtain ⟨hn, h⟩ := req_some h
  obtain ⟨m, e0, h⟩ := gM_some h
  obtain ⟨z0, e1, h⟩ := gQ_some h
  obtain ⟨r, e2, h⟩ := gQ_some h
  obtain ⟨y, e3, h⟩ := gI_some h
  obtain ⟨x, e4, h⟩ := gI_some h
  obtain ⟨hc, h⟩ := req_some h
  simp only [Bool.and_eq_true, decide_eq_true_eq] at hc
  obtain ⟨h1, h2⟩ := hc
  rw [keep_mk (of_decide_eq_true hn)]
  have e := runs21i ck m z0 y h2 (okSize_le h2).2.1 m.1.toNat 0 r (by have := okSize_le h2; omega) (Int.le_refl _)
  have es : mk 34 (((E21 ck).lv 2).map fun i => (i, getS (keep ((E21 ck).lv 2) st) i)) = st21i m z0 r y 0 := by
    show mk 34 [(1, getS (keep ((E21 ck).lv 2) st) 1), (2, getS (keep ((E21 ck).lv 2) st) 2), (3, getS (keep ((E21 ck).lv 2) st) 3), (4, getS (keep ((E21 ck).lv 2) st) 4), (5, getS (keep ((E21 ck).lv 2) st) 5)] = _
    rw [e0, e1, e2, e3, e4, h1]
    rfl
  rw [es]
  exact ⟨_, _, e, h⟩
theorem loop21o (ck : Mk → Int) : LoopOk (E21 ck) 0 (loopAt Try.f21 0) := by
  intro st R K z h
  obtain ⟨hn, h⟩ := req_some h
  obtain ⟨m, e0, h⟩ := gM_some h
  obtain ⟨z0, e1, h⟩ := gQ_some h
  obtain ⟨r, e2, h⟩ := gQ_some h
  obtain ⟨y, e3, h⟩ := gI_some h
  obtain ⟨hc, h⟩ := req_some h
  simp only [Bool.and_eq_true, decide_eq_true_eq] at hc
  obtain ⟨h1, h2⟩ := hc
  rw [keep_mk (of_decide_eq_true hn)]
  have e := runs21o ck m z0 h2 (okSize_le h2).2.1 (okSize_le h2).2.2.2 m.2.1.toNat 0 r (by have := okSize_le h2; omega) (Int.le_refl _)
  have es : mk 34 (((E21 ck).lv 0).map fun i => (i, getS (keep ((E21 ck).lv 0) st) i)) = st21o m z0 r 0 := by
    show mk 34 [(1, getS (keep ((E21 ck).lv 0) st) 1), (2, getS (keep ((E21 ck).lv 0) st) 2), (3, getS (keep ((E21 ck).lv 0) st) 3), (4, getS (keep ((E21 ck).lv 0) st) 4)] = _
    rw [e0, e1, e2, e3, h1]
    rfl
  rw [es]
  exact ⟨_, _, e, h⟩
theorem loops21 : loopsOf Try.f21 = [(0, loopAt Try.f21 0), (2, loopAt Try.f21 1)] := by kernel_rfl
theorem e21 (w h : Int) (l : List Int) : evalF (E21 checkM) Try.f21 [mk3 w h l] = oq (boxM (w, h, l)) := by
  rw [t21]
  unfold boxM
  by_cases hc : checkM (w, h, l) = 0
  · have ho := (check_ok hc).1
    have hs := okSize_le ho
    simp only at hs
    rw [if_neg (fun h => h hc), bne_eq_false_iff_eq.mpr hc, ho]
    have := rowsJ_eq (m := (w, h, l)) (w := w) (h := h) ⟨hs.1, hs.2.1⟩ hs.2.2.2 h.toNat 0 (w, h, 0, 0) (.inl rfl) (Int.le_refl _) (by omega)
    rw [show toR (w, h, 0, 0) = (0, 0, 0, 0) from if_pos hs.1] at this
    rw [this]
    rfl
  · rw [if_pos hc, bne_iff_ne.mpr hc]; rfl
theorem m21 : Meets Try.prog 21 (gate (pT dM) (sp dM fun m => qv (boxM m))) := mG (rdL (e := E21 checkM) rfl (eg_cons m31 (eg_cons m53 (eg_cons m55 eg_nil))) (fn := Try.f21) (k := 1) (by kernel_rfl) (by kernel_rfl) (of_decide_eq_true (by kernel_rfl)) loops21 (fun p hp => by
  rcases List.mem_cons.mp hp with h | h
  · cases h; exact loop21o checkM
  · cases List.mem_singleton.mp h; exact loop21i checkM)) (fun _ _ => hhM) (fun _ => ⟨rfl, Nat.le_refl _⟩)
  fun ⟨w, h, l⟩ _ => e21 w h l
/-! ### The program's own -/
def stepK (w : Int) (l : List Int) (s : Q) (i : Nat) : Q := bif decide (l.getD i 0 > 0) then addP s ((i : Int).tmod w) ((i : Int).tdiv w) else s
def seqK (w : Int) (l : List Int) : Nat → Nat → Q → Q
  | 0, _, s => s
  | k + 1, i, s => seqK w l k (i + 1) (stepK w l s i)
def lp20 (st : St) (R : Type) (K : Ex → St → Option R) : Option R := req (decide (st.length = 65)) (gM st 1 fun m => gQ st 2 fun z => gI st 3 fun x0 => gI st 4 fun y0 => gI st 5 fun x1 => gI st 6 fun y1 => gL st 20 fun l => gI st 21 fun n => gI st 22 fun i =>
  req (decide (i = 0) && decide (n = l.length) && decide (l.length ≤ 65536) && decide (0 ≤ m.1 ∧ m.1 ≤ 256 ∧ (m.1 = 0 → l.length = 0)))
    (K (.exit 0) (mk 65 [(2, bQ z), (3, iv (seqK m.1 l l.length 0 (x0, y0, x1, y1)).1), (4, iv (seqK m.1 l l.length 0 (x0, y0, x1, y1)).2.1), (5, iv (seqK m.1 l l.length 0 (x0, y0, x1, y1)).2.2.1), (6, iv (seqK m.1 l l.length 0 (x0, y0, x1, y1)).2.2.2)])))
def E20 (ck : Mk → Int) : Env := { EG [(30, pT dM, sp dM fun m => iv (ck m))] with lv := fun _ => [1, 2, 3, 4, 5, 6, 20, 21, 22], lx := fun _ => [2, 3, 4, 5, 6], lp := fun _ => lp20 }
def st20 (m : Mk) (z s : Q) (l : List Int) (n i : Int) : St := mk 65 [(1, bM m), (2, bQ z), (3, iv s.1), (4, iv s.2.1), (5, iv s.2.2.1), (6, iv s.2.2.2), (20, isv l), (21, iv n), (22, iv i)]
theorem b20 (ck : Mk → Int) (m : Mk) (z s : Q) (l : List Int) (n i : Int) : evalCode (E20 ck) (loopAt Try.f20 0) 0 (st20 m z s l n i) (kp (E20 ck) 0) = bif decide (i < n) then bif decide (0 ≤ i) && decide (i < (l.length : Int)) then
    bif decide (l.getD i.toNat 0 > 0) then bif decide (m.1 = 0) then none else bif decide (m.1 = 0) then none else
      some (.normal, st20 m z (mn s.1 (i.tmod m.1), mn s.2.1 (W (i.tdiv m.1)), mx s.2.2.1 (W (i.tmod m.1 + 1)), mx s.2.2.2 (W (W (i.tdiv m.1) + 1))) l n (W (i + 1)))
    else some (.normal, st20 m z s l n (W (i + 1))) else none
    else some (.exit 0, mk 65 [(2, bQ z), (3, iv s.1), (4, iv s.2.1), (5, iv s.2.2.1), (6, iv s.2.2.2)]) := by kernel_rfl
theorem t20 (ck : Mk → Int) (w h : Int) (l : List Int) : evalF (E20 ck) Try.f20 [mk3 w h l] = bif ck (w, h, l) != 0 then oq (0, 0, 0, 0) else
    bif decide ((0 : Int) = 0) && decide ((l.length : Int) = l.length) && decide (l.length ≤ 65536) && decide (0 ≤ w ∧ w ≤ 256 ∧ (w = 0 → l.length = 0)) then
      bif decide ((seqK w l l.length 0 (w, h, 0, 0)).1 ≥ (seqK w l l.length 0 (w, h, 0, 0)).2.2.1) then oq (0, 0, 0, 0) else
        oq ((seqK w l l.length 0 (w, h, 0, 0)).1, (seqK w l l.length 0 (w, h, 0, 0)).2.1, W ((seqK w l l.length 0 (w, h, 0, 0)).2.2.1 - (seqK w l l.length 0 (w, h, 0, 0)).1), W ((seqK w l l.length 0 (w, h, 0, 0)).2.2.2 - (seqK w l l.length 0 (w, h, 0, 0)).2.1))
    else none := by kernel_rfl
theorem runs20 (ck : Mk → Int) (m : Mk) (z : Q) (l : List Int) (hl : l.length ≤ 65536) (hm : 0 ≤ m.1 ∧ m.1 ≤ 256 ∧ (m.1 = 0 → l.length = 0)) : ∀ (k i : Nat) (s : Q), i + k = l.length →
    Runs (E20 ck) 0 (loopAt Try.f20 0) (st20 m z s l l.length i) (.exit 0) (mk 65 [(2, bQ z), (3, iv (seqK m.1 l k i s).1), (4, iv (seqK m.1 l k i s).2.1), (5, iv (seqK m.1 l k i s).2.2.1), (6, iv (seqK m.1 l k i s).2.2.2)]) := by
  intro k
  induction k with
  | zero =>
    intro i s hi
    refine .stop ?_ (by simp)
    rw [b20, decide_eq_false (by omega)]
    rfl
  | succ k ih =>
    intro i s hi
    have hbd := b20 ck m z s l l.length i
    have h0 : ¬ m.1 = 0 := fun h => by have := hm.2.2 h; omega
    have d1 : ((i : Int).tdiv m.1) = (i : Int) / m.1 := Int.tdiv_eq_ediv_of_nonneg (by omega)
    have d2 : 0 ≤ (i : Int) / m.1 := Int.ediv_nonneg (by omega) (by omega)
    have d3 : (i : Int) / m.1 ≤ i := Int.ediv_le_self _ (by omega)
    have r1 : ((i : Int).tmod m.1) = (i : Int) % m.1 := Int.tmod_eq_emod_of_nonneg (by omega)
    have r2 := Int.emod_nonneg (i : Int) h0
    have r3 := Int.emod_lt_of_pos (i : Int) (show 0 < m.1 by omega)
    rw [decide_eq_true (by omega : (i : Int) < l.length), decide_eq_true (by omega : (0 : Int) ≤ i), Int.toNat_natCast, decide_eq_false h0, W_small (n := (i : Int) + 1) (by omega) (by omega), W_small (n := (i : Int).tdiv m.1) (by omega) (by omega), W_small (n := (i : Int).tdiv m.1 + 1) (by omega) (by omega), W_small (n := (i : Int).tmod m.1 + 1) (by omega) (by omega)] at hbd
    rw [seqK]
    refine .step ?_ (ih (i + 1) (stepK m.1 l s i) (by omega))
    rw [hbd]
    unfold stepK
    cases decide (l.getD i 0 > 0) <;> rfl
theorem loop20 (ck : Mk → Int) : LoopOk (E20 ck) 0 (loopAt Try.f20 0) := by
  intro st R K z h
  obtain ⟨hn, h⟩ := req_some h
  obtain ⟨m, e0, h⟩ := gM_some h
  obtain ⟨z0, e1, h⟩ := gQ_some h
  obtain ⟨x0, e2, h⟩ := gI_some h
  obtain ⟨y0, e3, h⟩ := gI_some h
  obtain ⟨x1, e4, h⟩ := gI_some h
  obtain ⟨y1, e5, h⟩ := gI_some h
  obtain ⟨l, e6, h⟩ := gL_some h
  obtain ⟨n, e7, h⟩ := gI_some h
  obtain ⟨i, e8, h⟩ := gI_some h
  obtain ⟨hc, h⟩ := req_some h
  simp only [Bool.and_eq_true, decide_eq_true_eq] at hc
  obtain ⟨⟨⟨h1, h2⟩, h3⟩, h4⟩ := hc
  rw [keep_mk (of_decide_eq_true hn)]
  have e := runs20 ck m z0 l h3 h4 l.length 0 (x0, y0, x1, y1) (by omega)
  have es : mk 65 (((E20 ck).lv 0).map fun i => (i, getS (keep ((E20 ck).lv 0) st) i)) = st20 m z0 (x0, y0, x1, y1) l l.length (0 : Nat) := by
    show mk 65 [(1, getS (keep ((E20 ck).lv 0) st) 1), (2, getS (keep ((E20 ck).lv 0) st) 2), (3, getS (keep ((E20 ck).lv 0) st) 3), (4, getS (keep ((E20 ck).lv 0) st) 4), (5, getS (keep ((E20 ck).lv 0) st) 5), (6, getS (keep ((E20 ck).lv 0) st) 6), (20, getS (keep ((E20 ck).lv 0) st) 20), (21, getS (keep ((E20 ck).lv 0) st) 21), (22, getS (keep ((E20 ck).lv 0) st) 22)] = _
    rw [e0, e1, e2, e3, e4, e5, e6, e7, e8, h1, h2]
    rfl
  rw [es]
  exact ⟨_, _, e, h⟩
theorem stepK_at {m : Mk} (ho : okSize m = true) {x y : Nat} (hx : x < m.1.toNat) (hy : y < m.2.1.toNat) (s : Q) : stepK m.1 m.2.2 s (y * m.1.toNat + x) = stepB m s x y := by
  have hs := okSize_le ho
  have e : ((y * m.1.toNat + x : Nat) : Int) = x + y * m.1 := by rw [Int.natCast_add, Int.natCast_mul, Int.toNat_of_nonneg hs.1, Int.add_comm]
  have hx' : (x : Int) < m.1 := by omega
  have h1 : (((y * m.1.toNat + x : Nat) : Int)).tdiv m.1 = y := by
    rw [Int.tdiv_eq_ediv_of_nonneg (by omega), e, Int.add_mul_ediv_right _ _ (by omega), Int.ediv_eq_zero_of_lt (by omega) hx', Int.zero_add]
  have h2 : (((y * m.1.toNat + x : Nat) : Int)).tmod m.1 = x := by
    rw [Int.tmod_eq_emod_of_nonneg (by omega), e, Int.add_mul_emod_self_right, Int.emod_eq_of_lt (by omega) hx']
  unfold stepK stepB
  rw [h1, h2, getM_at ho hx hy]
  by_cases c : 0 < m.2.2.getD (y * m.1.toNat + x) 0
  · rw [decide_eq_true c, if_pos c]; rfl
  · rw [decide_eq_false c, if_neg c]; rfl
theorem seqK_append (w : Int) (l : List Int) : ∀ (a b i : Nat) (s : Q), seqK w l (a + b) i s = seqK w l b (i + a) (seqK w l a i s)
  | 0, b, i, s => by rw [Nat.zero_add]; rfl
  | a + 1, b, i, s => by rw [Nat.succ_add, seqK, seqK, seqK_append w l a b (i + 1), Nat.add_assoc i 1 a, Nat.add_comm 1 a]
theorem rowB_seq {m : Mk} (ho : okSize m = true) {y : Nat} (hy : y < m.2.1.toNat) : ∀ (k x : Nat) (s : Q), x + k = m.1.toNat → rowB m y k x s = seqK m.1 m.2.2 k (y * m.1.toNat + x) s
  | 0, _, _, _ => rfl
  | k + 1, x, s, h => by
    rw [rowB, seqK, stepK_at ho (by omega) hy]
    have := rowB_seq ho hy k (x + 1) (stepB m s x y) (by omega)
    rw [show ((x : Int) + 1) = ((x + 1 : Nat) : Int) by omega, this]
    rfl
theorem rowsB_seq {m : Mk} (ho : okSize m = true) : ∀ (k y : Nat) (s : Q), y + k = m.2.1.toNat → rowsB m m.1.toNat k y s = seqK m.1 m.2.2 (m.1.toNat * k) (y * m.1.toNat) s
  | 0, _, _, _ => rfl
  | k + 1, y, s, h => by
    have h1 := rowB_seq ho (y := y) (by omega) m.1.toNat 0 s (by omega)
    have h2 := rowsB_seq ho k (y + 1) (rowB m y m.1.toNat 0 s) (by omega)
    rw [rowsB, show ((y : Int) + 1) = ((y + 1 : Nat) : Int) by omega, h2]
    rw [show ((0 : Nat) : Int) = 0 from rfl] at h1
    rw [h1, Nat.mul_succ, Nat.add_comm (m.1.toNat * k), seqK_append, Nat.succ_mul]
    rfl
theorem rowB_inv {m : Mk} {w h : Int} (hw : 0 ≤ w ∧ w ≤ 256) (hh : h ≤ 256) (k : Nat) (y : Int) (hy : 0 ≤ y) (hk : y + k ≤ h) (s : Q) (hs : Inv w h s) : Inv w h (rowsB m w.toNat k y s) := by
  induction k generalizing y s with
  | zero => exact hs
  | succ k ih =>
    rw [rowsB]
    exact ih (y + 1) (by omega) (by omega) _ (rowJ_eq (m := m) hw hh (y := y) (by omega) w.toNat 0 s hs (Int.le_refl _) (by omega)).2
theorem e20 (w h : Int) (l : List Int) : evalF (E20 checkM) Try.f20 [mk3 w h l] = oq (boxM (w, h, l)) := by
  rw [t20]
  unfold boxM
  by_cases hc : checkM (w, h, l) = 0
  · obtain ⟨ho, hz, hu⟩ := check_ok hc
    have hs := okSize_le ho
    have hs2 := (okSize_iff _ _ _).mp ho
    simp only at hs
    have hsz := size_le hs.1 hs.2.1 hs.2.2.1 hs.2.2.2
    have hlen : l.length = w.toNat * h.toNat := by omega
    have hb := rowsB_seq (m := (w, h, l)) ho h.toNat 0 (w, h, 0, 0) (by simp only; omega)
    simp only at hb
    rw [Nat.zero_mul, ← hlen, show ((0 : Nat) : Int) = 0 from rfl] at hb
    have hi := rowB_inv (m := (w, h, l)) (w := w) (h := h) ⟨hs.1, hs.2.1⟩ hs.2.2.2 h.toNat 0 (Int.le_refl _) (by omega) (w, h, 0, 0) (.inl rfl)
    rw [if_neg (fun h => h hc), bne_eq_false_iff_eq.mpr hc, decide_eq_true (by omega : l.length ≤ 65536), decide_eq_true (⟨hs.1, hs.2.1, fun h0 => by rw [hlen, h0, Int.toNat_zero, Nat.zero_mul]⟩ : 0 ≤ w ∧ w ≤ 256 ∧ (w = 0 → l.length = 0)), ← hb]
    generalize rowsB (w, h, l) w.toNat h.toNat 0 (w, h, 0, 0) = s at hi ⊢
    unfold toR
    by_cases c : s.1 ≥ s.2.2.1
    · rw [decide_eq_true c, if_pos c]
      simp only [decide_true, Bool.and_self, cond_true, cond_false]
    · rw [decide_eq_false c, if_neg c]
      rcases hi with rfl | hi
      · simp only at c; omega
      · rw [W_small (n := s.2.2.1 - s.1) (by omega) (by omega), W_small (n := s.2.2.2 - s.2.1) (by omega) (by omega)]
        simp only [decide_true, Bool.and_self, cond_true, cond_false]
  · rw [if_pos hc, bne_iff_ne.mpr hc]; rfl
theorem m20 : Meets Try.prog 20 (gate (pT dM) (sp dM fun m => qv (boxM m))) := mG (rdL (e := E20 checkM) rfl (eg_cons m30 eg_nil) (fn := Try.f20) (k := 1) (by kernel_rfl) (by kernel_rfl) (of_decide_eq_true (by kernel_rfl)) (show loopsOf Try.f20 = [(0, loopAt Try.f20 0)] by kernel_rfl) (fun p hp => by cases List.mem_singleton.mp hp; exact loop20 checkM)) (fun _ _ => hhM) (fun _ => ⟨rfl, Nat.le_refl _⟩)
  fun ⟨w, h, l⟩ _ => e20 w h l
end Go.Proofs.Ytkeildnpemiacaa.Ev

