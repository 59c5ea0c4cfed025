/- The coverage of the pixels of a rectangle, the program's own way. Conditions: none. Printed by gen.py of this session. -/
import Derived.Test.YtbgfgadekmemeaaCi
namespace Go.Proofs.Ytbgfgadekmemeaa.Ev
open Go.Proofs
set_option linter.unusedVariables false
set_option linter.unusedSimpArgs false
set_option maxRecDepth 100000
set_option maxHeartbeats 1000000

@[reducible] def ow (l : List Int) : AV := .rv (.sc (.sl (some 3) (.ints l)))
def gOw (st : St) (t : Nat) {R : Type} (K : List Int → Option R) : Option R := match getS st t with
  | .rv (.sc (.sl (some 3) (.ints l))) => K l
  | _ => none
theorem gOw_some {st : St} {t : Nat} {R : Type} {r : R} {K : List Int → Option R} (h : gOw st t K = some r) : ∃ n, getS st t = ow n ∧ K n = some r := by
  unfold gOw at h
  split at h
  · exact ⟨_, ‹_›, h⟩
  · cases h
def okQ (r : Q) : Bool := decide (-1048576 ≤ r.1 ∧ r.1 ≤ 1048576 ∧ -1048576 ≤ r.2.1 ∧ r.2.1 ≤ 1048576 ∧ 0 ≤ r.2.2.1 ∧ r.2.2.1 ≤ 256 ∧ 0 ≤ r.2.2.2 ∧ r.2.2.2 ≤ 256)
def okOut (ps : Ps) (r : Q) : Bool := shortPs ps && allPts ps && okQ r
theorem okOut_ok {ps : Ps} {r : Q} (h : okOut ps r = true) : shortPs ps = true ∧ allPts ps = true ∧ -1048576 ≤ r.1 ∧ r.1 ≤ 1048576 ∧ -1048576 ≤ r.2.1 ∧ r.2.1 ≤ 1048576 ∧ 0 ≤ r.2.2.1 ∧ r.2.2.1 ≤ 256 ∧ 0 ≤ r.2.2.2 ∧ r.2.2.2 ≤ 256 := by
  simp only [okOut, okQ, Bool.and_eq_true, decide_eq_true_eq] at h
  exact ⟨h.1.1, h.1.2, h.2⟩
def inU (cs : List Int) : Bool := cs.all fun c => decide (0 ≤ c ∧ c ≤ 256)
theorem inU_at {cs : List Int} (h : inU cs = true) (i : Nat) : 0 ≤ cs.getD i 0 ∧ cs.getD i 0 ≤ 256 := by
  rw [List.getD_eq_getElem?_getD]
  cases hi : cs[i]? with
  | none => exact ⟨Int.le_refl _, by decide⟩
  | some p => exact of_decide_eq_true (List.all_eq_true.1 h p (List.mem_of_getElem? hi))
theorem inU_of {cs : List Int} (h : ∀ i, 0 ≤ cs.getD i 0 ∧ cs.getD i 0 ≤ 256) : inU cs = true := by
  refine List.all_eq_true.2 fun c hc => decide_eq_true ?_
  obtain ⟨i, hi⟩ := List.getElem?_of_mem hc
  have := h i
  rw [List.getD_eq_getElem?_getD, hi] at this
  exact this
theorem okPs_of {ps : Ps} (h1 : shortPs ps = true) (h2 : allPts ps = true) : okPs ps = true := by
  simp only [shortPs, Bool.and_eq_true, decide_eq_true_eq] at h1
  refine List.all_eq_true.2 fun l hl => ?_
  unfold okPl
  rw [List.all_eq_true.1 h2 l hl, List.all_eq_true.1 h1.2 l hl]; rfl
def lp90o (st : St) (R : Type) (K : Ex → St → Option R) : Option R := req (decide (st.length = 54)) (gPl st 0 fun ps => gI st 1 fun rule => gQ st 5 fun r => gOw st 7 fun v => gI st 14 fun H => gI st 15 fun y =>
  req (decide (y = 0 ∧ H = r.2.2.2 ∧ v.length = 0) && okOut ps r) (K (.exit 0) (mk 54 [(7, ow (pxA (fW ps rule) r.1 r.2.2.1.toNat r.2.2.2.toNat r.2.1))])))
def lp90m (st : St) (R : Type) (K : Ex → St → Option R) : Option R := req (decide (st.length = 54)) (gPl st 0 fun ps => gI st 1 fun rule => gQ st 5 fun r => gOw st 7 fun v => gI st 8 fun y2 => gMs st 9 fun cs => gI st 14 fun H => gI st 15 fun y => gI st 21 fun j =>
  req (decide (j = 0 ∧ 0 ≤ y2 ∧ y2 < 256 ∧ cs.length ≤ 256) && okOut ps r) (K (.exit 2) (mk 54 [(0, plv ps), (1, iv rule), (5, bQ r), (7, ow v), (9, .ms (rowsC ps rule r.1 (r.2.1 + y2) 16 0 cs)), (14, iv H), (15, iv y)])))
def lp90i (st : St) (R : Type) (K : Ex → St → Option R) : Option R := req (decide (st.length = 54)) (gPl st 0 fun ps => gI st 1 fun rule => gQ st 5 fun r => gOw st 7 fun v => gI st 14 fun H => gI st 15 fun y => gL st 39 fun cs => gI st 40 fun n => gI st 41 fun k =>
  req (decide (n = cs.length ∧ k = 0 ∧ v.length + cs.length ≤ 1000000) && inU cs) (K (.exit 4) (mk 54 [(0, plv ps), (1, iv rule), (5, bQ r), (7, ow (v ++ mapD cs)), (14, iv H), (15, iv y)])))
def E90 : Env := { EG [(50, pRw, sRw), (25, pD, sp dII fun a => iv (divP a.1 a.2))] with made := [9], fz := [39], lv := fun id => match id with | 0 => [0, 1, 5, 7, 14, 15] | 2 => [0, 1, 5, 7, 8, 9, 14, 15, 21] | _ => [0, 1, 5, 7, 14, 15, 39, 40, 41], lx := fun id => match id with | 0 => [7] | 2 => [0, 1, 5, 7, 9, 14, 15] | _ => [0, 1, 5, 7, 14, 15], lp := fun id => match id with | 0 => lp90o | 2 => lp90m | _ => lp90i }
def st90o (ps : Ps) (rule : Int) (r : Q) (v : List Int) (H y : Int) : St := mk 54 [(0, plv ps), (1, iv rule), (5, bQ r), (7, ow v), (14, iv H), (15, iv y)]
def st90m (ps : Ps) (rule : Int) (r : Q) (v : List Int) (y2 : Int) (cs : List Int) (H y j : Int) : St := mk 54 [(0, plv ps), (1, iv rule), (5, bQ r), (7, ow v), (8, iv y2), (9, .ms cs), (14, iv H), (15, iv y), (21, iv j)]
def st90i (ps : Ps) (rule : Int) (r : Q) (v : List Int) (H y : Int) (cs : List Int) (n k : Int) : St := mk 54 [(0, plv ps), (1, iv rule), (5, bQ r), (7, ow v), (14, iv H), (15, iv y), (39, isv cs), (40, iv n), (41, iv k)]
theorem b90i (ps : Ps) (rule : Int) (r : Q) (v : List Int) (H y : Int) (cs : List Int) (n k : Int) : evalCode E90 (loopAt Try.f36 2) 4 (st90i ps rule r v H y cs n k) (kp E90 4) = bif decide (k < n) then bif decide (0 ≤ k) && decide (k < cs.length) then
      bif decide (0 ≤ W (65535 * cs.getD k.toNat 0) ∧ W (65535 * cs.getD k.toNat 0) ≤ 4503599627370496 ∧ (1 : Int) ≤ 256 ∧ (256 : Int) ≤ 1099511627776) then
        bif decide (0 < 1) && decide ((v ++ [divP (W (65535 * cs.getD k.toNat 0)) 256]).length * 8 ≤ 140737488355328) then some (.normal, st90i ps rule r (v ++ [divP (W (65535 * cs.getD k.toNat 0)) 256]) H y cs n (W (k + 1))) else none else none else none
    else some (.exit 4, mk 54 [(0, plv ps), (1, iv rule), (5, bQ r), (7, ow v), (14, iv H), (15, iv y)]) := by kernel_rfl
theorem b90m (ps : Ps) (rule : Int) (r : Q) (v : List Int) (y2 : Int) (cs : List Int) (H y j : Int) : evalCode E90 (loopAt Try.f36 1) 2 (st90m ps rule r v y2 cs H y j) (kp E90 2) = bif decide (j < 16) then
      bif okRw (ps, rule, W (W (16 * W (r.2.1 + y2)) + j), W (16 * r.1), cs) then some (.normal, st90m ps rule r v y2 (rowC ps rule (W (W (16 * W (r.2.1 + y2)) + j)) (W (16 * r.1)) cs) H y (W (j + 1))) else none
    else some (.exit 2, mk 54 [(0, plv ps), (1, iv rule), (5, bQ r), (7, ow v), (9, .ms cs), (14, iv H), (15, iv y)]) := by kernel_rfl
theorem b90o (ps : Ps) (rule : Int) (r : Q) (v : List Int) (H y : Int) : evalCode E90 (loopAt Try.f36 0) 0 (st90o ps rule r v H y) (kp E90 0) = bif decide (y < H) then
      bif decide (r.2.2.1 = r.2.2.1) && (decide (0 ≤ r.2.2.1) && decide (r.2.2.1 ≤ 1048576)) then
        bif decide ((0 : Int) = 0 ∧ 0 ≤ y ∧ y < 256 ∧ (List.replicate r.2.2.1.toNat (0 : Int)).length ≤ 256) && okOut ps r then
          bif decide (((rowsC ps rule r.1 (r.2.1 + y) 16 0 (List.replicate r.2.2.1.toNat 0)).length : Int) = (rowsC ps rule r.1 (r.2.1 + y) 16 0 (List.replicate r.2.2.1.toNat 0)).length ∧ (0 : Int) = 0 ∧ v.length + (rowsC ps rule r.1 (r.2.1 + y) 16 0 (List.replicate r.2.2.1.toNat 0)).length ≤ 1000000) && inU (rowsC ps rule r.1 (r.2.1 + y) 16 0 (List.replicate r.2.2.1.toNat 0)) then
            some (.normal, st90o ps rule r (v ++ mapD (rowsC ps rule r.1 (r.2.1 + y) 16 0 (List.replicate r.2.2.1.toNat 0))) H (W (y + 1))) else none else none else none
    else some (.exit 0, mk 54 [(7, ow v)]) := by kernel_rfl
theorem runs90i (ps : Ps) (rule : Int) (r : Q) (H y : Int) (cs : List Int) (hu : inU cs = true) (hcl : cs.length ≤ 1000000) : ∀ (k i : Nat) (v : List Int), i + k = cs.length → v.length + k ≤ 1000000 →
    Runs E90 4 (loopAt Try.f36 2) (st90i ps rule r v H y cs cs.length i) (.exit 4) (mk 54 [(0, plv ps), (1, iv rule), (5, bQ r), (7, ow (v ++ mapD (cs.drop i))), (14, iv H), (15, iv y)]) := by
  intro k
  induction k with
  | zero =>
    intro i v hi hv
    rw [List.drop_eq_nil_of_le (by omega)]
    refine .stop ?_ (by simp)
    rw [b90i, decide_eq_false (by omega), show mapD [] = [] from rfl, List.append_nil]
    rfl
  | succ k ih =>
    intro i v hi hv
    have h1 : i < cs.length := by omega
    have hbd := b90i ps rule r v H y cs cs.length i
    have hc := inU_at hu i
    rw [getD_at h1] at hc
    rw [List.drop_eq_getElem_cons h1]
    rw [decide_eq_true (by omega : (i : Int) < cs.length), decide_eq_true (by omega : (0 : Int) ≤ i), Int.toNat_natCast, getD_at h1, W_small (n := 65535 * cs[i]) (by omega) (by omega), W_small (n := (i : Int) + 1) (by omega) (by omega), decide_eq_true (by omega : 0 ≤ 65535 * cs[i] ∧ 65535 * cs[i] ≤ 4503599627370496 ∧ (1 : Int) ≤ 256 ∧ (256 : Int) ≤ 1099511627776),
      decide_eq_true (by omega : 0 < 1), decide_eq_true (by rw [List.length_append, List.length_singleton]; omega)] at hbd
    have := ih (i + 1) (v ++ [divP (65535 * cs[i]) 256]) (by omega) (by rw [List.length_append, List.length_singleton]; omega)
    rw [List.append_assoc, List.singleton_append] at this
    exact .step hbd this
theorem runs90m (ps : Ps) (rule : Int) (r : Q) (v : List Int) (y2 H y : Int) (ho : okOut ps r = true) (h0 : 0 ≤ y2) (h1 : y2 < 256) : ∀ (k : Nat) (j : Int) (cs : List Int), j + k = 16 → 0 ≤ j → cs.length ≤ 256 →
    Runs E90 2 (loopAt Try.f36 1) (st90m ps rule r v y2 cs H y j) (.exit 2) (mk 54 [(0, plv ps), (1, iv rule), (5, bQ r), (7, ow v), (9, .ms (rowsC ps rule r.1 (r.2.1 + y2) k j cs)), (14, iv H), (15, iv y)]) := by
  obtain ⟨hs, ha, hr⟩ := okOut_ok ho
  intro k
  induction k with
  | zero =>
    intro j cs hj hj0 hc
    refine .stop ?_ (by simp)
    rw [b90m, decide_eq_false (by omega), rowsC]
    rfl
  | succ k ih =>
    intro j cs hj hj0 hc
    have hbd := b90m ps rule r v y2 cs H y j
    have hok : okRw (ps, rule, 16 * (r.2.1 + y2) + j, 16 * r.1, cs) = true := by
      unfold okRw okRange
      simp only
      simp only [shortPs, Bool.and_eq_true, decide_eq_true_eq] at hs
      rw [decide_eq_true hs.1, decide_eq_true (by omega), decide_eq_true (by omega), decide_eq_true hc, okPs_of (by simp only [shortPs, Bool.and_eq_true, decide_eq_true_eq]; exact hs) ha]
      rfl
    rw [W_small (n := r.2.1 + y2) (by omega) (by omega), W_small (n := 16 * (r.2.1 + y2)) (by omega) (by omega), W_small (n := 16 * (r.2.1 + y2) + j) (by omega) (by omega), W_small (n := 16 * r.1) (by omega) (by omega), W_small (n := j + 1) (by omega) (by omega), decide_eq_true (by omega : j < 16), hok] at hbd
    rw [rowsC]
    exact .step hbd (ih (j + 1) _ (by omega) (by omega) (by rw [rowC_len]; exact hc))
theorem runs90o (ps : Ps) (rule : Int) (r : Q) (ho : okOut ps r = true) : ∀ (k : Nat) (y : Int) (v : List Int), y + k = r.2.2.2 → 0 ≤ y → v.length + k * 256 ≤ 65536 →
    Runs E90 0 (loopAt Try.f36 0) (st90o ps rule r v r.2.2.2 y) (.exit 0) (mk 54 [(7, ow (v ++ pxA (fW ps rule) r.1 r.2.2.1.toNat k (r.2.1 + y)))]) := by
  obtain ⟨hs, ha, hr⟩ := okOut_ok ho
  intro k
  induction k with
  | zero =>
    intro y v hy h0 hv
    refine .stop ?_ (by simp)
    rw [b90o, decide_eq_false (by omega), pxA, List.append_nil]
    rfl
  | succ k ih =>
    intro y v hy h0 hv
    have hbd := b90o ps rule r v r.2.2.2 y
    have hlen : (rowsC ps rule r.1 (r.2.1 + y) 16 0 (List.replicate r.2.2.1.toNat 0)).length = r.2.2.1.toNat := by rw [rowsC_len, List.length_replicate]
    have hX : -2097152 ≤ r.1 ∧ r.1 ≤ 2097152 := by omega
    have hY : -2097152 ≤ r.2.1 + y ∧ r.2.1 + y ≤ 2097152 := by omega
    have hU : inU (rowsC ps rule r.1 (r.2.1 + y) 16 0 (List.replicate r.2.2.1.toNat 0)) = true := inU_of (rows_le ha hX hY (by omega))
    rw [hU, hlen, mapD_rows ha hX hY (by omega), List.length_replicate, decide_eq_true (by omega : y < r.2.2.2), decide_eq_true rfl, decide_eq_true (by omega : 0 ≤ r.2.2.1), decide_eq_true (by omega : r.2.2.1 ≤ 1048576), decide_eq_true (⟨rfl, by omega, by omega, by omega⟩ : (0 : Int) = 0 ∧ 0 ≤ y ∧ y < 256 ∧ r.2.2.1.toNat ≤ 256), ho,
      decide_eq_true (⟨rfl, rfl, by omega⟩ : ((r.2.2.1.toNat : Nat) : Int) = (r.2.2.1.toNat : Nat) ∧ (0 : Int) = 0 ∧ v.length + r.2.2.1.toNat ≤ 1000000), W_small (n := y + 1) (by omega) (by omega)] at hbd
    have := ih (y + 1) (v ++ pxR (fW ps rule) (r.2.1 + y) r.2.2.1.toNat r.1) (by omega) (by omega) (by rw [List.length_append, pxR_len]; omega)
    rw [List.append_assoc, ← Int.add_assoc] at this
    rw [pxA]
    exact .step hbd this
theorem loop90o : LoopOk E90 0 (loopAt Try.f36 0) := by
  intro st R K z h
  obtain ⟨hn, h⟩ := req_some h
  obtain ⟨ps, e0, h⟩ := gPl_some h
  obtain ⟨rule, e1, h⟩ := gI_some h
  obtain ⟨r, e2, h⟩ := gQ_some h
  obtain ⟨v, e3, h⟩ := gOw_some h
  obtain ⟨H, e4, h⟩ := gI_some h
  obtain ⟨y, e5, h⟩ := gI_some h
  obtain ⟨hc, h⟩ := req_some h
  simp only [Bool.and_eq_true, decide_eq_true_eq] at hc
  obtain ⟨⟨h1, h2, h3⟩, h4⟩ := hc
  rw [keep_mk (of_decide_eq_true hn)]
  have e := runs90o ps rule r h4 r.2.2.2.toNat 0 [] (by have := (okOut_ok h4).2.2.2.2.2.2.2.2.1; omega) (Int.le_refl _) (by have := (okOut_ok h4).2.2; rw [List.length_nil]; omega)
  have es : mk 54 ((E90.lv 0).map fun i => (i, getS (keep (E90.lv 0) st) i)) = st90o ps rule r [] r.2.2.2 0 := by
    show mk 54 [(0, getS (keep (E90.lv 0) st) 0), (1, getS (keep (E90.lv 0) st) 1), (5, getS (keep (E90.lv 0) st) 5), (7, getS (keep (E90.lv 0) st) 7), (14, getS (keep (E90.lv 0) st) 14), (15, getS (keep (E90.lv 0) st) 15)] = _
    rw [e0, e1, e2, e3, e4, e5, h1, h2, List.length_eq_zero_iff.mp h3]
    rfl
  rw [es]
  rw [List.nil_append, Int.add_zero] at e
  exact ⟨_, _, e, h⟩
theorem loop90m : LoopOk E90 2 (loopAt Try.f36 1) := by
  intro st R K z h
  obtain ⟨hn, h⟩ := req_some h
  obtain ⟨ps, e0, h⟩ := gPl_some h
  obtain ⟨rule, e1, h⟩ := gI_some h
  obtain ⟨r, e2, h⟩ := gQ_some h
  obtain ⟨v, e3, h⟩ := gOw_some h
  obtain ⟨y2, e4, h⟩ := gI_some h
  obtain ⟨cs, e5, h⟩ := gMs_some h
  obtain ⟨H, e6, h⟩ := gI_some h
  obtain ⟨y, e7, h⟩ := gI_some h
  obtain ⟨j, e8, h⟩ := gI_some h
  obtain ⟨hc, h⟩ := req_some h
  simp only [Bool.and_eq_true, decide_eq_true_eq] at hc
  obtain ⟨⟨h1, h2, h3, h4⟩, h5⟩ := hc
  rw [keep_mk (of_decide_eq_true hn)]
  have e := runs90m ps rule r v y2 H y h5 h2 h3 16 0 cs (by omega) (Int.le_refl _) h4
  have es : mk 54 ((E90.lv 2).map fun i => (i, getS (keep (E90.lv 2) st) i)) = st90m ps rule r v y2 cs H y 0 := by
    show mk 54 [(0, getS (keep (E90.lv 2) st) 0), (1, getS (keep (E90.lv 2) st) 1), (5, getS (keep (E90.lv 2) st) 5), (7, getS (keep (E90.lv 2) st) 7), (8, getS (keep (E90.lv 2) st) 8), (9, getS (keep (E90.lv 2) st) 9), (14, getS (keep (E90.lv 2) st) 14), (15, getS (keep (E90.lv 2) st) 15), (21, getS (keep (E90.lv 2) st) 21)] = _
    rw [e0, e1, e2, e3, e4, e5, e6, e7, e8, h1]
    rfl
  rw [es]
  exact ⟨_, _, e, h⟩
theorem loop90i : LoopOk E90 4 (loopAt Try.f36 2) := by
  intro st R K z h
  obtain ⟨hn, h⟩ := req_some h
  obtain ⟨ps, e0, h⟩ := gPl_some h
  obtain ⟨rule, e1, h⟩ := gI_some h
  obtain ⟨r, e2, h⟩ := gQ_some h
  obtain ⟨v, e3, h⟩ := gOw_some h
  obtain ⟨H, e4, h⟩ := gI_some h
  obtain ⟨y, e5, h⟩ := gI_some h
  obtain ⟨cs, e6, h⟩ := gL_some h
  obtain ⟨n, e7, h⟩ := gI_some h
  obtain ⟨k, e8, h⟩ := gI_some h
  obtain ⟨hc, h⟩ := req_some h
  simp only [Bool.and_eq_true, decide_eq_true_eq] at hc
  obtain ⟨⟨h1, h2, h3⟩, h4⟩ := hc
  rw [keep_mk (of_decide_eq_true hn)]
  have e := runs90i ps rule r H y cs h4 (by omega) cs.length 0 v (by omega) h3
  have es : mk 54 ((E90.lv 4).map fun i => (i, getS (keep (E90.lv 4) st) i)) = st90i ps rule r v H y cs cs.length (0 : Nat) := by
    show mk 54 [(0, getS (keep (E90.lv 4) st) 0), (1, getS (keep (E90.lv 4) st) 1), (5, getS (keep (E90.lv 4) st) 5), (7, getS (keep (E90.lv 4) st) 7), (14, getS (keep (E90.lv 4) st) 14), (15, getS (keep (E90.lv 4) st) 15), (39, getS (keep (E90.lv 4) st) 39), (40, getS (keep (E90.lv 4) st) 40), (41, getS (keep (E90.lv 4) st) 41)] = _
    rw [e0, e1, e2, e3, e4, e5, e6, e7, e8, h1, h2]
    rfl
  rw [es]
  rw [List.drop_zero] at e
  exact ⟨_, _, e, h⟩
@[reducible] def nPRQ (a : Ps × Int × Q) : List AV := [plv a.1, iv a.2.1, qv a.2.2]
def dPRQ : List AV → Option (Ps × Int × Q)
  | [.rv (.sc (.sl none (.polys l))), .rv (.sc (.int .i64 b)), .rv (.agg [.int .i64 x, .int .i64 y, .int .i64 z, .int .i64 t])] => some (l, b, (x, y, z, t))
  | _ => none
theorem hPRQ {us : List AV} {a} (h : dPRQ us = some a) : us = nPRQ a := by unfold dPRQ at h; split at h <;> cases h; rfl
theorem t90 (ps : Ps) (rule a b c d : Int) : evalF E90 Try.f36 (nPRQ (ps, rule, (a, b, c, d))) = bif decide ((0 : Int) = 0 ∧ d = d ∧ ([] : List Int).length = 0) && okOut ps (a, b, c, d) then some (isv (pxA (fW ps rule) a c.toNat d.toNat b), []) else none := by kernel_rfl
abbrev pVs : List AV → Bool := ps dPRQ fun a => okOut a.1 a.2.2
abbrev sVs : Spec := sp dPRQ fun a => isv (pxA (fW a.1 a.2.1) a.2.2.1 a.2.2.2.2.1.toNat a.2.2.2.2.2.toNat a.2.2.2.1)
theorem m90 : Meets Try.prog 36 (gate pVs sVs) := mG (rdL (e := E90) rfl (eg_cons mRw (eg_cons mDiv eg_nil)) (fn := Try.f36) (k := 3) (by kernel_rfl) (by kernel_rfl) (of_decide_eq_true (by kernel_rfl)) (show loopsOf Try.f36 = [(0, loopAt Try.f36 0), (2, loopAt Try.f36 1), (4, loopAt Try.f36 2)] by kernel_rfl)
    (fun p hp => by rcases List.mem_cons.mp hp with rfl | hp; exact loop90o; rcases List.mem_cons.mp hp with rfl | hp; exact loop90m; cases List.mem_singleton.mp hp; exact loop90i)) (fun _ _ => hPRQ) (fun _ => ⟨rfl, Nat.le_refl _⟩)
  fun ⟨ps, rule, ⟨a, b, c, d⟩⟩ hp => by
    have hp : okOut ps (a, b, c, d) = true := hp
    refine (t90 ps rule a b c d).trans ?_
    rw [hp, decide_eq_true (⟨rfl, rfl, rfl⟩ : (0 : Int) = 0 ∧ d = d ∧ ([] : List Int).length = 0)]
    rfl
/-! ### The place -/
def placeE (r : Q) : Int := bif valid r then bif decide (r.2.2.1 > 256) then 15 else bif decide (r.2.2.2 > 256) then 15 else 0 else 2
theorem t89 (a b c d : Int) : evalF (EG [(49, pT dQ, sp dQ fun a => bw (valid a))]) Try.f35 [q4 a b c d] = bif !valid (a, b, c, d) then oi 2 else bif decide (c > 256) then oi 15 else bif decide (d > 256) then oi 15 else oi 0 := by kernel_rfl
theorem m89 : Meets Try.prog 35 (gate (pT dQ) (sp dQ fun r => iv (placeE r))) := mG (rdE (eg_cons m49 eg_nil) (fn := Try.f35) (k := 1) (by kernel_rfl) (by kernel_rfl) (of_decide_eq_true (by kernel_rfl)) (by kernel_rfl)) (fun _ _ => hQ) (fun _ => ⟨rfl, Nat.le_refl _⟩)
  fun ⟨a, b, c, d⟩ _ => by
    refine (t89 a b c d).trans ?_
    show _ = oi (placeE (a, b, c, d))
    unfold placeE
    simp only
    cases valid (a, b, c, d) <;> cases decide (c > 256) <;> cases decide (d > 256) <;> rfl
end Go.Proofs.Ytbgfgadekmemeaa.Ev

