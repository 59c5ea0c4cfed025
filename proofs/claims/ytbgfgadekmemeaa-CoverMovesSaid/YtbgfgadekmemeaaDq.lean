/- That the law of moved polygons answers true: its loops and the plain law. Conditions: how many bytes the polygons have. Printed by gen.py of this session. -/
import Derived.Test.YtbgfgadekmemeaaDp
namespace Go.Proofs.Ytbgfgadekmemeaa.Ev
open Go.Proofs
set_option linter.unusedVariables false
set_option linter.unusedSimpArgs false
set_option maxRecDepth 100000
set_option maxHeartbeats 1000000

/-! ### The loops -/
def u10b (ps : Ps) (rule dx dy : Int) (z : Q) (r : Bool) (l : Ps) (p q : List Pt) (ps' : Ps) (m i : Int) : St := mk 117 [(0, plv ps), (1, iv rule), (3, i8v dx), (4, i8v dy), (7, bQ z), (10, bw r), (11, opl l), (13, psv p), (14, op q), (22, plv ps'), (23, iv m), (24, iv i)]
def u10a (ps : Ps) (rule dx dy : Int) (z : Q) (r : Bool) (l : Ps) : St := mk 117 [(0, plv ps), (1, iv rule), (3, i8v dx), (4, i8v dy), (7, bQ z), (10, bw r), (11, opl l)]
theorem runs10b (mk' : MkF) (sm : SmF) (mo : MoF) (ar : ArF) (ps : Ps) (rule dx dy : Int) (z : Q) (r : Bool) (l : Ps) (p : List Pt) (hp : p.length * 16 ≤ 140737488351232) (ps' : Ps) (m i : Int) : ∀ (c j : Nat) (q : List Pt), j + c = p.length → q.length = j →
    Runs (E10 mk' sm mo ar) 2 (loopAt Try.f10 1) (st10b ps rule dx dy z r l p q ps' m i p p.length j) (bif inRs (p.drop j) then .exit 2 else .ret) (bif inRs (p.drop j) then u10b ps rule dx dy z r l p (q ++ mvL dx dy (p.drop j)) ps' m i else u10b ps rule dx dy z true l p (q ++ mvL dx dy ((p.drop j).takeWhile inR)) ps' m i) := by
  intro c
  induction c with
  | zero =>
    intro j q hj hq
    rw [List.drop_eq_nil_of_le (by omega)]
    have e : q ++ mvL dx dy [] = q := List.append_nil _
    rw [e]
    refine .stop ?_ (by simp [inRs])
    rw [b10b, decide_eq_false (by omega)]
    rfl
  | succ c ih =>
    intro j q hj hq
    have h1 : j < p.length := by omega
    have hbd := b10b mk' sm mo ar ps rule dx dy z r l p q ps' m i p p.length j
    rw [decide_eq_true (by omega : (j : Int) < p.length), decide_eq_true (by omega : (0 : Int) ≤ j), Int.toNat_natCast, getP_at h1, badM_eq, apT_ok (by omega), W_small (n := (j : Int) + 1) (by omega) (by omega)] at hbd
    have e0 : p.drop j = p[j] :: p.drop (j + 1) := List.drop_eq_getElem_cons h1
    have e1 : inRs (p.drop j) = (inR p[j] && inRs (p.drop (j + 1))) := by rw [e0]; rfl
    cases hc : inR p[j]
    · rw [hc] at hbd e1
      have e2 : (p.drop j).takeWhile inR = [] := by rw [e0, List.takeWhile_cons_of_neg (by rw [hc]; decide)]
      rw [e1, e2, show q ++ mvL dx dy [] = q from List.append_nil _]
      exact .stop hbd (by simp)
    · rw [hc] at hbd e1
      have e2 : (p.drop j).takeWhile inR = p[j] :: (p.drop (j + 1)).takeWhile inR := by rw [e0, List.takeWhile_cons_of_pos hc]
      have e3 : ∀ t : List Pt, q ++ mvL dx dy (p[j] :: t) = (q ++ [mvW dx dy p[j]]) ++ mvL dx dy t := by
        intro t
        rw [List.append_assoc]; rfl
      rw [e1, e2, e0, e3, e3]
      exact .step hbd (ih (j + 1) (q ++ [mvW dx dy p[j]]) (by omega) (by rw [List.length_append, hq]; rfl))
theorem runs10a (mk' : MkF) (sm : SmF) (mo : MoF) (ar : ArF) (ps : Ps) (rule dx dy : Int) (z : Q) (r : Bool) (hb : okBig ps = true) : ∀ (c i : Nat) (l : Ps), i + c = ps.length → l.length = i →
    Runs (E10 mk' sm mo ar) 0 (loopAt Try.f10 0) (st10a ps rule dx dy z r l ps ps.length i) (bif (ps.drop i).all inRs then .exit 0 else .ret) (bif (ps.drop i).all inRs then u10a ps rule dx dy z r (l ++ (ps.drop i).map (mvL dx dy)) else u10a ps rule dx dy z true (l ++ ((ps.drop i).takeWhile inRs).map (mvL dx dy))) := by
  have hb' := hb
  simp only [okBig, Bool.and_eq_true, decide_eq_true_eq] at hb'
  intro c
  induction c with
  | zero =>
    intro i l hi hl
    rw [List.drop_eq_nil_of_le (by omega)]
    have e : l ++ [].map (mvL dx dy) = l := List.append_nil _
    rw [e]
    refine .stop ?_ (by simp)
    rw [b10a, decide_eq_false (by omega)]
    rfl
  | succ c ih =>
    intro i l hi hl
    have h1 : i < ps.length := by omega
    have h2 := of_decide_eq_true (List.all_eq_true.1 hb'.2 _ (List.getElem_mem h1))
    have hbd := b10a mk' sm mo ar ps rule dx dy z r l ps ps.length i
    rw [decide_eq_true (by omega : (i : Int) < ps.length), decide_eq_true (by omega : (0 : Int) ≤ i), Int.toNat_natCast, getL_at h1,
      decide_eq_true (⟨rfl, rfl, rfl, rfl, h2⟩ : ps[i] = ps[i] ∧ (ps[i].length : Int) = ps[i].length ∧ (0 : Int) = 0 ∧ ([] : List Pt) = [] ∧ ps[i].length * 16 ≤ 140737488351232),
      apP_ok (by omega), W_small (n := (i : Int) + 1) (by omega) (by omega)] at hbd
    have e0 : ps.drop i = ps[i] :: ps.drop (i + 1) := List.drop_eq_getElem_cons h1
    have e1 : (ps.drop i).all inRs = (inRs ps[i] && (ps.drop (i + 1)).all inRs) := by rw [e0]; rfl
    cases hc : inRs ps[i]
    · rw [hc] at hbd e1
      have e2 : (ps.drop i).takeWhile inRs = [] := by rw [e0, List.takeWhile_cons_of_neg (by rw [hc]; decide)]
      rw [e1, e2, show l ++ [].map (mvL dx dy) = l from List.append_nil _]
      exact .stop hbd (by simp)
    · rw [hc] at hbd e1
      have e2 : (ps.drop i).takeWhile inRs = ps[i] :: (ps.drop (i + 1)).takeWhile inRs := by rw [e0, List.takeWhile_cons_of_pos hc]
      have e3 : ∀ t : Ps, l ++ (ps[i] :: t).map (mvL dx dy) = (l ++ [mvL dx dy ps[i]]) ++ t.map (mvL dx dy) := by
        intro t
        rw [List.append_assoc]; rfl
      rw [e1, e2, e0, e3, e3]
      exact .step hbd (ih (i + 1) (l ++ [mvL dx dy ps[i]]) (by omega) (by rw [List.length_append, hl]; rfl))
theorem loop10a (mk' : MkF) (sm : SmF) (mo : MoF) (ar : ArF) : LoopOk (E10 mk' sm mo ar) 0 (loopAt Try.f10 0) := by
  intro st R K z h
  obtain ⟨hn, h⟩ := req_some h
  obtain ⟨ps, e0, h⟩ := gPl_some h
  obtain ⟨rule, e1, h⟩ := gI_some h
  obtain ⟨dx, e2, h⟩ := gI8_some h
  obtain ⟨dy, e3, h⟩ := gI8_some h
  obtain ⟨z, e4, h⟩ := gQ_some h
  obtain ⟨r, e5, h⟩ := gBo_some h
  obtain ⟨l, e6, h⟩ := gOl_some h
  obtain ⟨ps', e7, h⟩ := gPl_some h
  obtain ⟨m, e8, h⟩ := gI_some h
  obtain ⟨i, e9, h⟩ := gI_some h
  obtain ⟨hc, h⟩ := req_some h
  simp only [Bool.and_eq_true, decide_eq_true_eq] at hc
  obtain ⟨⟨h1, h2, h3, h4⟩, h5⟩ := hc
  rw [keep_mk (of_decide_eq_true hn)]
  have e := runs10a mk' sm mo ar ps rule dx dy z r h5 ps.length 0 [] (by omega) rfl
  have es : mk 117 (((E10 mk' sm mo ar).lv 0).map fun i => (i, getS (keep ((E10 mk' sm mo ar).lv 0) st) i)) = st10a ps rule dx dy z r [] ps ps.length (0 : Nat) := by
    show mk 117 [(0, getS (keep ((E10 mk' sm mo ar).lv 0) st) 0), (1, getS (keep ((E10 mk' sm mo ar).lv 0) st) 1), (3, getS (keep ((E10 mk' sm mo ar).lv 0) st) 3), (4, getS (keep ((E10 mk' sm mo ar).lv 0) st) 4), (7, getS (keep ((E10 mk' sm mo ar).lv 0) st) 7), (10, getS (keep ((E10 mk' sm mo ar).lv 0) st) 10), (11, getS (keep ((E10 mk' sm mo ar).lv 0) st) 11), (22, getS (keep ((E10 mk' sm mo ar).lv 0) st) 22), (23, getS (keep ((E10 mk' sm mo ar).lv 0) st) 23), (24, getS (keep ((E10 mk' sm mo ar).lv 0) st) 24)] = _
    rw [e0, e1, e2, e3, e4, e5, e6, e7, e8, e9, h1, h2, h3, h4]
    rfl
  rw [es]
  rw [List.drop_zero, List.nil_append, List.nil_append] at e
  cases hc : ps.all inRs <;> rw [hc] at e h <;> exact ⟨_, _, e, h⟩
theorem loop10b (mk' : MkF) (sm : SmF) (mo : MoF) (ar : ArF) : LoopOk (E10 mk' sm mo ar) 2 (loopAt Try.f10 1) := by
  intro st R K z h
  obtain ⟨hn, h⟩ := req_some h
  obtain ⟨ps, e0, h⟩ := gPl_some h
  obtain ⟨rule, e1, h⟩ := gI_some h
  obtain ⟨dx, e2, h⟩ := gI8_some h
  obtain ⟨dy, e3, h⟩ := gI8_some h
  obtain ⟨z, e4, h⟩ := gQ_some h
  obtain ⟨r, e5, h⟩ := gBo_some h
  obtain ⟨l, e6, h⟩ := gOl_some h
  obtain ⟨p, e7, h⟩ := gPs_some h
  obtain ⟨q, e8, h⟩ := gOp_some h
  obtain ⟨ps', e9, h⟩ := gPl_some h
  obtain ⟨m, e10, h⟩ := gI_some h
  obtain ⟨i, e11, h⟩ := gI_some h
  obtain ⟨p', e12, h⟩ := gPs_some h
  obtain ⟨n, e13, h⟩ := gI_some h
  obtain ⟨j, e14, h⟩ := gI_some h
  obtain ⟨hc, h⟩ := req_some h
  simp only [Bool.and_eq_true, decide_eq_true_eq] at hc
  obtain ⟨h1, h2, h3, h4, h5⟩ := hc
  rw [keep_mk (of_decide_eq_true hn)]
  have e := runs10b mk' sm mo ar ps rule dx dy z r l p h5 ps' m i p.length 0 [] (by omega) rfl
  have es : mk 117 (((E10 mk' sm mo ar).lv 2).map fun i => (i, getS (keep ((E10 mk' sm mo ar).lv 2) st) i)) = st10b ps rule dx dy z r l p [] ps' m i p p.length (0 : Nat) := by
    show mk 117 [(0, getS (keep ((E10 mk' sm mo ar).lv 2) st) 0), (1, getS (keep ((E10 mk' sm mo ar).lv 2) st) 1), (3, getS (keep ((E10 mk' sm mo ar).lv 2) st) 3), (4, getS (keep ((E10 mk' sm mo ar).lv 2) st) 4), (7, getS (keep ((E10 mk' sm mo ar).lv 2) st) 7), (10, getS (keep ((E10 mk' sm mo ar).lv 2) st) 10), (11, getS (keep ((E10 mk' sm mo ar).lv 2) st) 11), (13, getS (keep ((E10 mk' sm mo ar).lv 2) st) 13), (14, getS (keep ((E10 mk' sm mo ar).lv 2) st) 14), (22, getS (keep ((E10 mk' sm mo ar).lv 2) st) 22), (23, getS (keep ((E10 mk' sm mo ar).lv 2) st) 23), (24, getS (keep ((E10 mk' sm mo ar).lv 2) st) 24), (28, getS (keep ((E10 mk' sm mo ar).lv 2) st) 28), (29, getS (keep ((E10 mk' sm mo ar).lv 2) st) 29), (30, getS (keep ((E10 mk' sm mo ar).lv 2) st) 30)] = _
    rw [e0, e1, e2, e3, e4, e5, e6, e7, e8, e9, e10, e11, e12, e13, e14, h1, h2, h3, h4]
    rfl
  rw [es]
  rw [List.drop_zero, List.nil_append, List.nil_append] at e
  cases hc : inRs p <;> rw [hc] at e h <;> exact ⟨_, _, e, h⟩
/-! ### The plain law -/
theorem cnI_move {f g : Int → Int → Bool} {u v : Int} (h : ∀ x y, g (x + u) (y + v) = f x y) (y : Int) : ∀ (k : Nat) (x : Int), cnI g (y + v) k (x + u) = cnI f y k x
  | 0, _ => rfl
  | k + 1, x => by
    have := cnI_move h y k (x + 1)
    rw [cnI, cnI, h, ← this, show x + 1 + u = x + u + 1 by omega]
theorem cnJ_move {f g : Int → Int → Bool} {u v : Int} (h : ∀ x y, g (x + u) (y + v) = f x y) (x : Int) : ∀ (k : Nat) (y : Int), cnJ g (x + u) k (y + v) = cnJ f x k y
  | 0, _ => rfl
  | k + 1, y => by
    have := cnJ_move h x k (y + 1)
    rw [cnJ, cnJ, cnI_move h, ← this, show y + 1 + v = y + v + 1 by omega]
theorem pxl_move {f g : Int → Int → Bool} {u v : Int} (h : ∀ x y, g (x + 16 * u) (y + 16 * v) = f x y) (X Y : Int) : pxl g (X + u) (Y + v) = pxl f X Y := by
  unfold pxl
  rw [Int.mul_add, Int.mul_add, cnJ_move h]
theorem pxR_move {f g : Int → Int → Bool} {u v : Int} (h : ∀ x y, g (x + 16 * u) (y + 16 * v) = f x y) (Y : Int) : ∀ (k : Nat) (X : Int), pxR g (Y + v) k (X + u) = pxR f Y k X
  | 0, _ => rfl
  | k + 1, X => by
    have := pxR_move h Y k (X + 1)
    rw [pxR, pxR, pxl_move h, ← this, show X + 1 + u = X + u + 1 by omega]
theorem pxA_move {f g : Int → Int → Bool} {u v : Int} (h : ∀ x y, g (x + 16 * u) (y + 16 * v) = f x y) (X : Int) (w : Nat) : ∀ (k : Nat) (Y : Int), pxA g (X + u) w k (Y + v) = pxA f X w k Y
  | 0, _ => rfl
  | k + 1, Y => by
    have := pxA_move h X w k (Y + 1)
    rw [pxA, pxA, pxR_move h, ← this, show Y + 1 + v = Y + v + 1 by omega]
theorem turns_move (u v : Int) (ps : Ps) (x y : Int) : turns (ps.map fun l => l.map (mvP u v)) (x + u) (y + v) = turns ps x y := by
  unfold turns
  rw [List.map_map]
  congr 1
  refine List.map_congr_left fun l _ => ?_
  exact turn_move u v l x y
theorem tot_map {f : List Pt → List Pt} (h1 : ∀ l, (f l).length = l.length) : ∀ (ps : Ps) (t : Int), totW (ps.map f) t = totW ps t
  | [], _ => rfl
  | a :: ps, t => by rw [List.map_cons, totW, totW, tot_map h1, h1]
theorem inR_ok {p : Pt} (h : inR p = true) : -1048576 ≤ p.1 ∧ p.1 ≤ 1048576 ∧ -1048576 ≤ p.2 ∧ p.2 ≤ 1048576 := of_decide_eq_true h
theorem mvW_eq {dx dy : Int} (hx : -128 ≤ dx ∧ dx ≤ 127) (hy : -128 ≤ dy ∧ dy ≤ 127) {p : Pt} (h : inR p = true) : mvW dx dy p = mvP (16 * dx) (16 * dy) p := by
  have := inR_ok h
  unfold mvW mvP
  rw [W_small (n := dx) (by omega) (by omega), W_small (n := dy) (by omega) (by omega), W_small (n := 16 * dx) (by omega) (by omega), W_small (n := 16 * dy) (by omega) (by omega), W_small (n := p.1 + 16 * dx) (by omega) (by omega), W_small (n := p.2 + 16 * dy) (by omega) (by omega)]
theorem mvs_eq {dx dy : Int} (hx : -128 ≤ dx ∧ dx ≤ 127) (hy : -128 ≤ dy ∧ dy ≤ 127) {ps : Ps} (h : ps.all inRs = true) : ps.map (mvL dx dy) = ps.map fun l => l.map (mvP (16 * dx) (16 * dy)) :=
  List.map_congr_left fun l hl => List.map_congr_left fun p hp => mvW_eq hx hy (List.all_eq_true.1 (List.all_eq_true.1 h l hl) p hp)
theorem inRs_ok {ps : Ps} (h : ps.all inRs = true) : allPts ps = true := List.all_eq_true.2 fun l hl => List.all_eq_true.2 fun p hp => by
  have := inR_ok (List.all_eq_true.1 (List.all_eq_true.1 h l hl) p hp)
  exact decide_eq_true (by omega)
theorem mvs_ok {dx dy : Int} (hx : -128 ≤ dx ∧ dx ≤ 127) (hy : -128 ≤ dy ∧ dy ≤ 127) {ps : Ps} (h : ps.all inRs = true) : allPts (ps.map (mvL dx dy)) = true := by
  rw [mvs_eq hx hy h]
  refine List.all_eq_true.2 fun l' hl' => ?_
  obtain ⟨l, hl, rfl⟩ := List.mem_map.1 hl'
  refine List.all_eq_true.2 fun p' hp' => ?_
  obtain ⟨p, hp, rfl⟩ := List.mem_map.1 hp'
  have := inR_ok (List.all_eq_true.1 (List.all_eq_true.1 h l hl) p hp)
  refine decide_eq_true ?_
  unfold mvP
  simp only
  omega
theorem chk_move {dx dy : Int} (hx : -128 ≤ dx ∧ dx ≤ 127) (hy : -128 ≤ dy ∧ dy ≤ 127) {ps : Ps} (h : ps.all inRs = true) (rule : Int) : chkC (ps.map (mvL dx dy)) rule = chkC ps rule := by
  unfold chkC
  rw [tot_map (mvL_len dx dy), mvs_ok hx hy h, inRs_ok h]
theorem fW_move {dx dy : Int} (hx : -128 ≤ dx ∧ dx ≤ 127) (hy : -128 ≤ dy ∧ dy ≤ 127) {ps : Ps} (h : ps.all inRs = true) (rule x y : Int) : fW (ps.map (mvL dx dy)) rule (x + 16 * dx) (y + 16 * dy) = fW ps rule x y := by
  rw [fW_def, fW_def, mvs_eq hx hy h, turns_move]
theorem limP_small {n : Int} (h : -128 ≤ n ∧ n ≤ 127) : limP n = n := by
  unfold limP lo2 hi2
  split <;> split <;> omega
theorem mul_less {a b z t : Int} (ha : 0 < a) (hb : 0 < b) (h1 : a ≤ z) (h2 : b ≤ t) (h : a * b = z * t) : a = z ∧ b = t := by
  have g1 : a * b ≤ a * t := Int.mul_le_mul_of_nonneg_left h2 (by omega)
  have g2 : a * t ≤ z * t := Int.mul_le_mul_of_nonneg_right h1 (by omega)
  have g3 : a * b = a * t := by omega
  have g4 : a * t = z * t := by omega
  exact ⟨Int.eq_of_mul_eq_mul_right (by omega) g4, Int.eq_of_mul_eq_mul_left (by omega) g3⟩
theorem moved_eq {x y z t dx dy : Int} (hx : -128 ≤ dx ∧ dx ≤ 127) (hy : -128 ≤ dy ∧ dy ≤ 127) (he : empty (x, y, z, t) = false) (ha : areaP (moveP (x, y, z, t) (W dx, W dy)) = areaP (x, y, z, t)) :
    moveP (x, y, z, t) (W dx, W dy) = (x + dx, y + dy, z, t) ∧ valid (x + dx, y + dy, z, t) = true := by
  obtain ⟨hv, hz, ht⟩ := (nonempty_iff x y z t).1 he
  have hv' := (valid_iff x y z t).1 hv
  have hm : moveP (x, y, z, t) (W dx, W dy) = betw (hi2 (x + dx) (-1048576)) (hi2 (y + dy) (-1048576)) (lo2 (x + dx + z) 1048576) (lo2 (y + dy + t) 1048576) := by
    unfold moveP meetP
    rw [he]
    simp only [cond_false]
    rw [W_small (n := dx) (by omega) (by omega), W_small (n := dy) (by omega) (by omega), limP_small hx, limP_small hy, W_small (n := x + dx) (by omega) (by omega), W_small (n := y + dy) (by omega) (by omega), W_small (n := x + dx + z) (by omega) (by omega), W_small (n := y + dy + t) (by omega) (by omega), W_small (n := -1048576 + 2097152) (by omega) (by omega)]
    rfl
  have hk : known (x, y, z, t) = (x, y, z, t) := by unfold known; rw [if_pos hv]
  have hp : 0 < z * t := Int.mul_pos hz ht
  have hq : z * t ≤ 2097152 * 2097152 := Int.mul_le_mul (by omega) (by omega) (by omega) (by omega)
  have har : areaP (x, y, z, t) = z * t := by
    unfold areaP
    rw [hk]
    exact W_small (n := z * t) (by omega) (by omega)
  rw [har, hm] at ha
  rw [hm]
  have b1 : hi2 (x + dx) (-1048576) = x + dx ∨ hi2 (x + dx) (-1048576) = -1048576 := by unfold hi2; split <;> simp
  have b2 : hi2 (y + dy) (-1048576) = y + dy ∨ hi2 (y + dy) (-1048576) = -1048576 := by unfold hi2; split <;> simp
  have b3 : lo2 (x + dx + z) 1048576 = x + dx + z ∨ lo2 (x + dx + z) 1048576 = 1048576 := by unfold lo2; split <;> simp
  have b4 : lo2 (y + dy + t) 1048576 = y + dy + t ∨ lo2 (y + dy + t) 1048576 = 1048576 := by unfold lo2; split <;> simp
  have c1 : x + dx ≤ hi2 (x + dx) (-1048576) ∧ -1048576 ≤ hi2 (x + dx) (-1048576) := by unfold hi2; split <;> omega
  have c2 : y + dy ≤ hi2 (y + dy) (-1048576) ∧ -1048576 ≤ hi2 (y + dy) (-1048576) := by unfold hi2; split <;> omega
  have c3 : lo2 (x + dx + z) 1048576 ≤ x + dx + z ∧ lo2 (x + dx + z) 1048576 ≤ 1048576 := by unfold lo2; split <;> omega
  have c4 : lo2 (y + dy + t) 1048576 ≤ y + dy + t ∧ lo2 (y + dy + t) 1048576 ≤ 1048576 := by unfold lo2; split <;> omega
  generalize hi2 (x + dx) (-1048576) = X0 at *
  generalize hi2 (y + dy) (-1048576) = Y0 at *
  generalize lo2 (x + dx + z) 1048576 = X1 at *
  generalize lo2 (y + dy + t) 1048576 = Y1 at *
  unfold betw at ha ⊢
  cases hc : decide (X0 ≥ X1) || decide (Y0 ≥ Y1)
  · rw [hc, cond_false] at ha
    rw [cond_false]
    simp only [Bool.or_eq_false_iff, decide_eq_false_iff_not] at hc
    rw [W_small (n := X1 - X0) (by omega) (by omega), W_small (n := Y1 - Y0) (by omega) (by omega)] at ha ⊢
    have hv2 : valid (X0, Y0, X1 - X0, Y1 - Y0) = true := (valid_iff _ _ _ _).2 ⟨by omega, by omega⟩
    have hk2 : known (X0, Y0, X1 - X0, Y1 - Y0) = (X0, Y0, X1 - X0, Y1 - Y0) := by unfold known; rw [if_pos hv2]
    have hp2 : 0 < (X1 - X0) * (Y1 - Y0) := Int.mul_pos (by omega) (by omega)
    have hq2 : (X1 - X0) * (Y1 - Y0) ≤ 2097152 * 2097152 := Int.mul_le_mul (by omega) (by omega) (by omega) (by omega)
    unfold areaP at ha
    rw [hk2] at ha
    simp only at ha
    rw [W_small (by omega) (by omega)] at ha
    obtain ⟨e1, e2⟩ := mul_less (by omega) (by omega) (by omega) (by omega) ha
    obtain rfl : X0 = x + dx := by omega
    obtain rfl : Y0 = y + dy := by omega
    rw [e1, e2] at hv2 ⊢
    exact ⟨rfl, hv2⟩
  · rw [hc, cond_true] at ha
    exact absurd (show (0 : Int) = z * t from ha) (by omega)
theorem place_move {x y z t dx dy : Int} (h1 : valid (x, y, z, t) = true) (h2 : valid (x + dx, y + dy, z, t) = true) : placeE (x + dx, y + dy, z, t) = placeE (x, y, z, t) := by
  unfold placeE
  rw [h1, h2]
theorem mask_move {x y z t dx dy : Int} (hx : -128 ≤ dx ∧ dx ≤ 127) (hy : -128 ≤ dy ∧ dy ≤ 127) {ps : Ps} (h : ps.all inRs = true) (rule : Int) (he : empty (x, y, z, t) = false) (hv : valid (x + dx, y + dy, z, t) = true) :
    maskP (ps.map (mvL dx dy)) rule (x + dx, y + dy, z, t) = maskP ps rule (x, y, z, t) := by
  have h1 := (nonempty_iff x y z t).1 he
  unfold maskP maskX
  rw [chk_move hx hy h, place_move h1.1 hv, he, (nonempty_iff (x + dx) (y + dy) z t).2 ⟨hv, h1.2⟩]
  simp only
  rw [pxA_move (f := fW ps rule) (g := fW (ps.map (mvL dx dy)) rule) (u := dx) (v := dy) (fun a b => fW_move hx hy h rule a b)]
abbrev p10 : List AV → Bool := ps d10 fun a => okBig a.1 && decide ((-128 ≤ a.2.2.2.1 ∧ a.2.2.2.1 ≤ 127) ∧ (-128 ≤ a.2.2.2.2 ∧ a.2.2.2.2 ≤ 127))
theorem m10 : Meets Try.prog 10 (gate p10 (sp d10 fun _ => bw true)) := mG (rdL (e := E10 maskP sameM moveP areaP) rfl (eg_cons mAw (eg_cons mMk (eg_cons m20 (eg_cons mz29 (eg_cons mz30 (eg_cons m24 eg_nil)))))) (fn := Try.f10) (k := 5) (by kernel_rfl) (by kernel_rfl) (of_decide_eq_true (by kernel_rfl)) (show loopsOf Try.f10 = [(0, loopAt Try.f10 0), (2, loopAt Try.f10 1)] by kernel_rfl)
    (fun p hp => by rcases List.mem_cons.mp hp with rfl | hp; exact loop10a maskP sameM moveP areaP; cases List.mem_singleton.mp hp; exact loop10b maskP sameM moveP areaP)) (fun _ _ => hd10) (fun _ => ⟨rfl, Nat.le_refl _⟩)
  fun ⟨p, rule, ⟨x, y, z, t⟩, dx, dy⟩ hp => by
    have hp : (okBig p && decide ((-128 ≤ dx ∧ dx ≤ 127) ∧ (-128 ≤ dy ∧ dy ≤ 127))) = true := hp
    simp only [Bool.and_eq_true, decide_eq_true_eq] at hp
    obtain ⟨hb, hx, hy⟩ := hp
    refine (t10 maskP sameM moveP areaP p rule x y z t dx dy).trans ?_
    unfold tree10 gSp gLn
    rw [decide_eq_true (⟨rfl, rfl, rfl, rfl⟩ : p = p ∧ (p.length : Int) = p.length ∧ (0 : Int) = 0 ∧ ([] : Ps) = []), hb, big_short hb, short_map (mvL_len dx dy) (big_short hb)]
    cases hi : p.all inRs
    · rfl
    cases hn : areaP (moveP (x, y, z, t) (W dx, W dy)) != areaP (x, y, z, t)
    · cases he : empty (x, y, z, t)
      · obtain ⟨e1, e2⟩ := moved_eq hx hy he (bne_eq_false_iff_eq.1 hn)
        rw [e1, mask_move hx hy hi rule he e2, mask_lt, sameM_self, beq_self_eq_true]
        rfl
      · rfl
    · rfl
theorem hS10 {l : Ps} {rule x y z t dx dy : Int} (h1 : l.length * 24 ≤ 140737488351232 ∧ (l.all fun x => decide (x.length * 16 ≤ 140737488351232)) = true) (hx : (Lit.int .i8 dx).wf = true) (hy : (Lit.int .i8 dy).wf = true) : (gate p10 (sp d10 fun _ => bw true)) [plv l, iv rule, q4 x y z t, iw .i8 dx, iw .i8 dy] = some (bw true, []) := by
  show (bif okBig l && decide ((-128 ≤ dx ∧ dx ≤ 127) ∧ (-128 ≤ dy ∧ dy ≤ 127)) then some (bw true, []) else none) = _
  have : okBig l = true := by
    unfold okBig
    rw [h1.2, decide_eq_true h1.1]; rfl
  rw [this, decide_eq_true ⟨ki8 hx, ki8 hy⟩]; rfl
end Go.Proofs.Ytbgfgadekmemeaa.Ev

