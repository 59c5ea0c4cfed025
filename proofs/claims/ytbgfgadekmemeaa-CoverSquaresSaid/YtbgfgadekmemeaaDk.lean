/- That the law of turned polygons answers true: its loops and the plain law. Conditions: how many bytes the polygons have. Printed by gen.py of this session. -/
import Derived.Test.YtbgfgadekmemeaaDj
namespace Go.Proofs.Ytbgfgadekmemeaa.Ev
open Go.Proofs
set_option linter.unusedVariables false
set_option linter.unusedSimpArgs false
set_option maxRecDepth 100000
set_option maxHeartbeats 1000000

theorem runs6b (mk' : MkF) (sm : SmF) (tw : TwF) (ps : Ps) (rule : Int) (z : Q) (r : Bool) (l k : Ps) (p : List Pt) (hp : p.length * 16 ≤ 140737488351232) (ps' : Ps) (m i : Int) : ∀ (c j : Nat), j + c = p.length →
    Runs (E6 mk' sm tw) 2 (loopAt Try.f6 1) (st6b ps rule z r l k p ((revL p).take j) ((rotL p).take j) ps' m i p p.length j) (.exit 2) (mk 118 [(0, plv ps), (1, iv rule), (5, bQ z), (6, bw r), (7, opl l), (8, opl k), (10, psv p), (11, op (revL p)), (12, op (rotL p)), (20, plv ps'), (21, iv m), (22, iv i)]) := by
  intro c
  induction c with
  | zero =>
    intro j hj
    rw [List.take_of_length_le (l := revL p) (by rw [rev_len]; omega), List.take_of_length_le (l := rotL p) (by rw [rot_len]; omega)]
    refine .stop ?_ (by simp)
    rw [b6b, decide_eq_false (by omega)]
    rfl
  | succ c ih =>
    intro j hj
    have h1 : j < p.length := by omega
    have hbd := b6b mk' sm tw ps rule z r l k p ((revL p).take j) ((rotL p).take j) ps' m i p p.length j
    have e1 : W (W ((p.length : Int) - 1) - j) = ((p.length - 1 - j : Nat) : Int) := by rw [W_small (n := (p.length : Int) - 1) (by omega) (by omega), W_small (by omega) (by omega)]; omega
    have ht1 : 0 ≤ (W ((j : Int) + 1)).tmod p.length := by rw [W_small (by omega) (by omega)]; exact Int.tmod_nonneg _ (by omega)
    have ht2 : (W ((j : Int) + 1)).tmod p.length < p.length := by rw [W_small (by omega) (by omega)]; exact Int.tmod_lt_of_pos _ (by omega)
    rw [e1, decide_eq_true (by omega : (j : Int) < p.length), decide_eq_true (by omega : (0 : Int) ≤ ((p.length - 1 - j : Nat) : Int)), decide_eq_true (by omega : ((p.length - 1 - j : Nat) : Int) < p.length), apT_ok (by rw [List.length_take]; omega), decide_eq_false (by omega : ¬ (p.length : Int) = 0), decide_eq_true ht1, decide_eq_true ht2, apT_ok (by rw [List.length_take]; omega), nx_eq h1 (by omega), Int.toNat_natCast,
      ← rev_at h1, ← rot_at h1, W_small (n := (j : Int) + 1) (by omega) (by omega)] at hbd
    exact .step hbd (ih (j + 1) (by omega))
theorem runs6a (mk' : MkF) (sm : SmF) (tw : TwF) (rule : Int) (z : Q) (r : Bool) (ps : Ps) (hb : okBig ps = true) (ht : ps.all (okTw tw) = true) : ∀ (c i : Nat), i + c = ps.length →
    Runs (E6 mk' sm tw) 0 (loopAt Try.f6 0) (st6a ps rule z r ((ps.take i).map revL) ((ps.take i).map rotL) ps ps.length i) (.exit 0) (mk 118 [(0, plv ps), (1, iv rule), (5, bQ z), (7, opl (ps.map revL)), (8, opl (ps.map rotL))]) := by
  simp only [okBig, Bool.and_eq_true, decide_eq_true_eq] at hb
  intro c
  induction c with
  | zero =>
    intro i hi
    rw [List.take_of_length_le (by omega)]
    refine .stop ?_ (by simp)
    rw [b6a, decide_eq_false (by omega)]
    rfl
  | succ c ih =>
    intro i hi
    have h1 : i < ps.length := by omega
    have h2 : ps[i].length * 16 ≤ 140737488351232 := of_decide_eq_true (List.all_eq_true.1 hb.2 _ (List.getElem_mem h1))
    have h3 := List.all_eq_true.1 ht _ (List.getElem_mem h1)
    simp only [okTw, Bool.and_eq_true, beq_iff_eq] at h3
    have hbd := b6a mk' sm tw ps rule z r ((ps.take i).map revL) ((ps.take i).map rotL) ps ps.length i
    have s1 : shortL (revL ps[i]) = true := decide_eq_true (by rw [rev_len]; omega)
    have s2 : shortL ps[i] = true := decide_eq_true (by omega)
    have s3 : shortL (rotL ps[i]) = true := decide_eq_true (by rw [rot_len]; omega)
    rw [decide_eq_true (by omega : (i : Int) < ps.length), decide_eq_true (by omega : (0 : Int) ≤ i), Int.toNat_natCast, getL_at h1, decide_eq_true (⟨rfl, rfl, rfl, rfl, rfl, h2⟩ : ps[i] = ps[i] ∧ ((ps[i]).length : Int) = (ps[i]).length ∧ (0 : Int) = 0 ∧ ([] : List Pt) = [] ∧ ([] : List Pt) = [] ∧ (ps[i]).length * 16 ≤ 140737488351232), s1, s2, s3, h3.1, h3.2, bne_self_eq_false, bne_self_eq_false,
      apP_ok (by rw [List.length_map, List.length_take]; omega), apP_ok (by rw [List.length_map, List.length_take]; omega), W_small (n := (i : Int) + 1) (by omega) (by omega)] at hbd
    have e1 : (ps.take (i + 1)).map revL = (ps.take i).map revL ++ [revL ps[i]] := by rw [take_snoc h1, List.map_append]; rfl
    have e2 : (ps.take (i + 1)).map rotL = (ps.take i).map rotL ++ [rotL ps[i]] := by rw [take_snoc h1, List.map_append]; rfl
    rw [← e1, ← e2] at hbd
    exact .step hbd (ih (i + 1) (by omega))
theorem loop6b (mk' : MkF) (sm : SmF) (tw : TwF) : LoopOk (E6 mk' sm tw) 2 (loopAt Try.f6 1) := by
  intro st R K z h
  obtain ⟨hn, h⟩ := req_some h
  obtain ⟨ps, e0, h⟩ := gPl_some h
  obtain ⟨rule, e1, h⟩ := gI_some h
  obtain ⟨z, e2, h⟩ := gQ_some h
  obtain ⟨r, e3, h⟩ := gBo_some h
  obtain ⟨l, e4, h⟩ := gOl_some h
  obtain ⟨k, e5, h⟩ := gOl_some h
  obtain ⟨p, e6, h⟩ := gPs_some h
  obtain ⟨q, e7, h⟩ := gOp_some h
  obtain ⟨s, e8, h⟩ := gOp_some h
  obtain ⟨ps', e9, h⟩ := gPl_some h
  obtain ⟨m, e10, h⟩ := gI_some h
  obtain ⟨i, e11, h⟩ := gI_some h
  obtain ⟨p', e12, h⟩ := gPs_some h
  obtain ⟨n, e13, h⟩ := gI_some h
  obtain ⟨j, e14, h⟩ := gI_some h
  obtain ⟨hc, h⟩ := req_some h
  simp only [Bool.and_eq_true, decide_eq_true_eq] at hc
  obtain ⟨h1, h2, h3, h4, h5, h6⟩ := hc
  rw [keep_mk (of_decide_eq_true hn)]
  have e := runs6b mk' sm tw ps rule z r l k p h6 ps' m i p.length 0 (by omega)
  have es : mk 118 (((E6 mk' sm tw).lv 2).map fun i => (i, getS (keep ((E6 mk' sm tw).lv 2) st) i)) = st6b ps rule z r l k p ((revL p).take 0) ((rotL p).take 0) ps' m i p p.length (0 : Nat) := by
    show mk 118 [(0, getS (keep ((E6 mk' sm tw).lv 2) st) 0), (1, getS (keep ((E6 mk' sm tw).lv 2) st) 1), (5, getS (keep ((E6 mk' sm tw).lv 2) st) 5), (6, getS (keep ((E6 mk' sm tw).lv 2) st) 6), (7, getS (keep ((E6 mk' sm tw).lv 2) st) 7), (8, getS (keep ((E6 mk' sm tw).lv 2) st) 8), (10, getS (keep ((E6 mk' sm tw).lv 2) st) 10), (11, getS (keep ((E6 mk' sm tw).lv 2) st) 11), (12, getS (keep ((E6 mk' sm tw).lv 2) st) 12), (20, getS (keep ((E6 mk' sm tw).lv 2) st) 20), (21, getS (keep ((E6 mk' sm tw).lv 2) st) 21), (22, getS (keep ((E6 mk' sm tw).lv 2) st) 22), (26, getS (keep ((E6 mk' sm tw).lv 2) st) 26), (27, getS (keep ((E6 mk' sm tw).lv 2) st) 27), (28, getS (keep ((E6 mk' sm tw).lv 2) st) 28)] = _
    rw [e0, e1, e2, e3, e4, e5, e6, e7, e8, e9, e10, e11, e12, e13, e14, h1, h2, h3, h4, h5]
    rfl
  rw [es]
  exact ⟨_, _, e, h⟩
theorem loop6a (mk' : MkF) (sm : SmF) (tw : TwF) : LoopOk (E6 mk' sm tw) 0 (loopAt Try.f6 0) := by
  intro st R K z h
  obtain ⟨hn, h⟩ := req_some h
  obtain ⟨ps, e0, h⟩ := gPl_some h
  obtain ⟨rule, e1, h⟩ := gI_some h
  obtain ⟨z, e2, h⟩ := gQ_some h
  obtain ⟨r, e3, h⟩ := gBo_some h
  obtain ⟨l, e4, h⟩ := gOl_some h
  obtain ⟨k, e5, h⟩ := gOl_some h
  obtain ⟨ps', e6, h⟩ := gPl_some h
  obtain ⟨m, e7, h⟩ := gI_some h
  obtain ⟨i, e8, h⟩ := gI_some h
  obtain ⟨hc, h⟩ := req_some h
  simp only [Bool.and_eq_true, decide_eq_true_eq] at hc
  obtain ⟨⟨⟨h1, h2, h3, h4, h5⟩, h6⟩, h7⟩ := hc
  rw [keep_mk (of_decide_eq_true hn)]
  have e := runs6a mk' sm tw rule z r ps h6 h7 ps.length 0 (by omega)
  have es : mk 118 (((E6 mk' sm tw).lv 0).map fun i => (i, getS (keep ((E6 mk' sm tw).lv 0) st) i)) = st6a ps rule z r ((ps.take 0).map revL) ((ps.take 0).map rotL) ps ps.length (0 : Nat) := by
    show mk 118 [(0, getS (keep ((E6 mk' sm tw).lv 0) st) 0), (1, getS (keep ((E6 mk' sm tw).lv 0) st) 1), (5, getS (keep ((E6 mk' sm tw).lv 0) st) 5), (6, getS (keep ((E6 mk' sm tw).lv 0) st) 6), (7, getS (keep ((E6 mk' sm tw).lv 0) st) 7), (8, getS (keep ((E6 mk' sm tw).lv 0) st) 8), (20, getS (keep ((E6 mk' sm tw).lv 0) st) 20), (21, getS (keep ((E6 mk' sm tw).lv 0) st) 21), (22, getS (keep ((E6 mk' sm tw).lv 0) st) 22)] = _
    rw [e0, e1, e2, e3, e4, e5, e6, e7, e8, h1, h2, h3, h4, h5]
    rfl
  rw [es]
  exact ⟨_, _, e, h⟩
/-! ### The plain law -/
def gT (p q : Pt) : Int := p.1 * q.2 - q.1 * p.2
theorem gT_anti (p q : Pt) : gT q p = -gT p q := by unfold gT; omega
theorem twE_eq (p q : Pt) (n : Int) : twE p q n = W (n + gT p q) := by
  unfold twE gT W
  simp only [IntKind.wrap_i64]
  omega
theorem accT_eq (l : List Pt) : ∀ (k i : Nat) (n : Int), W n = n → accT l k i n = W (n + sumK gT l k i)
  | 0, i, n, h => by rw [accT, sumK, Int.add_zero, h]
  | k + 1, i, n, h => by rw [accT, accT_eq l k (i + 1) _ (by rw [twE_eq]; exact W_idem _), twE_eq, W_add, sumK, Int.add_assoc]
theorem twice_eq (l : List Pt) : twice l = bif chkC [l] 0 != 0 then 0 else W (sumG gT l) := by
  unfold twice
  rw [accT_eq l _ _ _ (W_small (by omega) (by omega)), sumK_all, Int.zero_add]
theorem okPts_perm {l m : List Pt} (h : ∀ x, x ∈ l ↔ x ∈ m) : okPts l = okPts m := by
  rw [Bool.eq_iff_iff]
  unfold okPts
  simp only [List.all_eq_true]
  exact ⟨fun a x hx => a x ((h x).2 hx), fun a x hx => a x ((h x).1 hx)⟩
theorem okPts_rev (l : List Pt) : okPts (revL l) = okPts l := okPts_perm fun x => List.mem_reverse
theorem okPts_rot (l : List Pt) : okPts (rotL l) = okPts l := okPts_perm fun x => by
  unfold rotL
  cases l with
  | nil => rfl
  | cons a t => simp [or_comm]
theorem chk_map {f : List Pt → List Pt} (h1 : ∀ l, (f l).length = l.length) (h2 : ∀ l, okPts (f l) = okPts l) (ps : Ps) (rule : Int) : chkC (ps.map f) rule = chkC ps rule := by
  have e1 : ∀ (ps : Ps) (t : Int), totW (ps.map f) t = totW ps t := by
    intro ps
    induction ps with
    | nil => intro t; rfl
    | cons a ps ih => intro t; simp only [List.map_cons, totW]; rw [ih, h1]
  have e2 : allPts (ps.map f) = allPts ps := by
    unfold allPts
    rw [List.all_map]
    congr 1
    exact funext fun l => h2 l
  unfold chkC
  rw [e1, e2]
theorem sumG_rotL (g : Pt → Pt → Int) (l : List Pt) : sumG g (rotL l) = sumG g l := by
  cases l with
  | nil => rfl
  | cons a t => exact sumG_rot g a t
theorem turns_tw (l : List Pt) : okTw twice l = true := by
  have c1 : chkC [revL l] 0 = chkC [l] 0 := chk_map rev_len okPts_rev [l] 0
  have c2 : chkC [rotL l] 0 = chkC [l] 0 := chk_map rot_len okPts_rot [l] 0
  have s1 : sumG gT (revL l) = -sumG gT l := sumG_rev gT gT_anti l
  unfold okTw
  rw [twice_eq, twice_eq, twice_eq, c1, c2, s1, sumG_rotL]
  cases chkC [l] 0 != 0
  · simp only [cond_false, beq_self_eq_true, Bool.and_true, beq_iff_eq]
    unfold W
    simp only [IntKind.wrap_i64]
    omega
  · simp only [cond_true, beq_self_eq_true, Bool.and_true, beq_iff_eq]
    rfl
theorem turns_map {f : List Pt → List Pt} {x y s : Int} (h : ∀ l, turn (f l) x y = s * turn l x y) (ps : Ps) : turns (ps.map f) x y = s * turns ps x y := by
  unfold turns
  induction ps with
  | nil => simp
  | cons a ps ih => simp only [List.map_cons, List.sum_cons] at ih ⊢; rw [ih, h, Int.mul_add]
theorem fW_def (ps : Ps) (rule x y : Int) : fW ps rule x y = insW rule (W (turns ps x y)) := by
  show insW rule (wnd ps x y) = _
  rw [wnd_eq]
theorem mask_rev (ps : Ps) (rule : Int) (r : Q) : maskP ps rule r = maskP (ps.map revL) rule r :=
  maskP_congr (chk_map rev_len okPts_rev ps rule).symm (fun x y => by
    rw [fW_def, fW_def, turns_map (s := -1) (fun l => by unfold turn revL; rw [sumG_rev _ (crw_anti x y)]; omega) ps, show -1 * turns ps x y = -turns ps x y by omega, insW_neg]) r
theorem mask_rot (ps : Ps) (rule : Int) (r : Q) : maskP ps rule r = maskP (ps.map rotL) rule r :=
  maskP_congr (chk_map rot_len okPts_rot ps rule).symm (fun x y => by
    rw [fW_def, fW_def, turns_map (s := 1) (fun l => by unfold turn; rw [sumG_rotL]; omega) ps, Int.one_mul]) r
theorem big_short {ps : Ps} (h : okBig ps = true) : shortPs ps = true := by
  simp only [okBig, Bool.and_eq_true, decide_eq_true_eq] at h
  unfold shortPs
  rw [decide_eq_true (by omega : ps.length < 4611686018427387904), Bool.true_and]
  refine List.all_eq_true.2 fun x hx => decide_eq_true ?_
  have := of_decide_eq_true (List.all_eq_true.1 h.2 x hx)
  omega
theorem short_map {f : List Pt → List Pt} (h1 : ∀ l, (f l).length = l.length) {ps : Ps} (h : shortPs ps = true) : shortPs (ps.map f) = true := by
  unfold shortPs at h ⊢
  rw [List.length_map, List.all_map]
  rw [show ((fun l : List Pt => decide (l.length < 4611686018427387904)) ∘ f) = fun l => decide (l.length < 4611686018427387904) from funext fun l => by simp only [Function.comp, h1]]
  exact h
theorem m6 : Meets Try.prog 6 (gate (ps dPRQ fun a => okBig a.1) (sp dPRQ fun _ => bw true)) := mG (rdL (e := E6 maskP sameM twice) rfl (eg_cons mAw (eg_cons mMk (eg_cons m20 (eg_cons mTw eg_nil)))) (fn := Try.f6) (k := 3) (by kernel_rfl) (by kernel_rfl) (of_decide_eq_true (by kernel_rfl)) (show loopsOf Try.f6 = [(0, loopAt Try.f6 0), (2, loopAt Try.f6 1)] by kernel_rfl)
    (fun p hp => by rcases List.mem_cons.mp hp with rfl | hp; exact loop6a maskP sameM twice; cases List.mem_singleton.mp hp; exact loop6b maskP sameM twice)) (fun _ _ => hPRQ) (fun _ => ⟨rfl, Nat.le_refl _⟩)
  fun ⟨p, rule, ⟨x, y, z, t⟩⟩ hp => by
    have hp : okBig p = true := hp
    refine (t6 maskP sameM twice p rule x y z t).trans ?_
    have ht : p.all (okTw twice) = true := List.all_eq_true.2 fun l _ => turns_tw l
    unfold tree6 gSp gLn
    rw [decide_eq_true (⟨rfl, rfl, rfl, rfl, rfl⟩ : p = p ∧ (p.length : Int) = p.length ∧ (0 : Int) = 0 ∧ ([] : Ps) = [] ∧ ([] : Ps) = []), hp, ht, big_short hp, short_map rev_len (big_short hp), short_map rot_len (big_short hp), ← mask_rev, ← mask_rot, mask_lt, sameM_self, beq_self_eq_true]
    rfl
theorem hS6 {l : Ps} {rule x y z t : Int} (h1 : l.length * 24 ≤ 140737488351232 ∧ (l.all fun x => decide (x.length * 16 ≤ 140737488351232)) = true) : (gate (ps dPRQ fun a => okBig a.1) (sp dPRQ fun _ => bw true)) [plv l, iv rule, q4 x y z t] = some (bw true, []) := by
  show (bif okBig l then some (bw true, []) else none) = _
  have : okBig l = true := by
    unfold okBig
    rw [h1.2, decide_eq_true h1.1]; rfl
  rw [this]; rfl
end Go.Proofs.Ytbgfgadekmemeaa.Ev

