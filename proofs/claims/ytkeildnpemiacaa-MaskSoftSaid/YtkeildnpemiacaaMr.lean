/- Growing and shrinking, the program's own. Conditions: none. Printed by gen.py of this session. -/
import Derived.Test.YtkeildnpemiacaaMj
namespace Go.Proofs.Ytkeildnpemiacaa.Ev
open Go.Proofs
set_option linter.unusedVariables false
set_option linter.unusedSimpArgs false
set_option maxRecDepth 100000
set_option maxHeartbeats 1000000

def gCm (st : St) (t : Nat) {R : Type} (K : Mk → Option R) : Option R := match getS st t with
  | .cbox 24 [.int .i64 a, .int .i64 b, .sl none (.ints l)] => K (a, b, l)
  | _ => none
def gCi (st : St) (t : Nat) {R : Type} (K : Int → Option R) : Option R := match getS st t with
  | .cbox 3 [.int .i64 a] => K a
  | _ => none
@[reducible] def cM (m : Mk) : AV := cm m.1 m.2.1 m.2.2
theorem gCm_some {st : St} {t : Nat} {R : Type} {r : R} {K : Mk → Option R} (h : gCm st t K = some r) : ∃ n, getS st t = cM n ∧ K n = some r := by
  unfold gCm at h
  split at h
  · exact ⟨(_, _, _), ‹_›, h⟩
  · cases h
theorem gCi_some {st : St} {t : Nat} {R : Type} {r : R} {K : Int → Option R} (h : gCi st t K = some r) : ∃ n, getS st t = ci n ∧ K n = some r := by
  unfold gCi at h
  split at h
  · exact ⟨_, ‹_›, h⟩
  · cases h
/-! ### In plain words -/
def upd (n b v : Int) : Int := if 0 < n ∧ b < v ∨ n < 0 ∧ v < b then v else b
def stepW (m : Mk) (n x y j i b : Int) : Int := if i * i + j * j > n * n then b else upd n b (getM m (x + i) (y + j))
def rowW (m : Mk) (n x y j : Int) : Nat → Int → Int → Int
  | 0, _, b => b
  | k + 1, i, b => rowW m n x y j k (i + 1) (stepW m n x y j i b)
def iLo (r x : Int) : Int := mx (0 - r) (0 - x)
def iHi (r w x : Int) : Int := mn r (w - 1 - x)
def cnt (lo hi : Int) : Nat := (hi - lo + 1).toNat
def rowsW (m : Mk) (n r x y : Int) : Nat → Int → Int → Int
  | 0, _, b => b
  | k + 1, j, b => rowsW m n r x y k (j + 1) (rowW m n x y j (cnt (iLo r x) (iHi r m.1 x)) (iLo r x) b)
def growV (m : Mk) (r n x y : Int) : Int := rowsW m n r x y (cnt (iLo r y) (iHi r m.2.1 y)) (iLo r y) (getM m x y)
/-- What the closure asks for. -/
def okG (m : Mk) (r n x y : Int) : Bool := okSize m && decide (0 ≤ r ∧ r ≤ 16 ∧ -16 ≤ n ∧ n ≤ 16 ∧ 0 ≤ x ∧ x < 256 ∧ 0 ≤ y ∧ y < 256)
def lp74i (st : St) (R : Type) (K : Ex → St → Option R) : Option R := req (decide (st.length = 85)) (gI st 0 fun x => gI st 1 fun y => gCm st 2 fun m => gCi st 3 fun r => gCi st 4 fun n => gI st 8 fun b => gI st 9 fun j => gI st 10 fun i =>
  req (okG m r n x y && decide (-16 ≤ j ∧ j ≤ 16) && decide (i = iLo r x)) (K (.exit 2) (mk 85 [(0, iv x), (1, iv y), (2, cM m), (3, ci r), (4, ci n), (8, iv (rowW m n x y j (cnt (iLo r x) (iHi r m.1 x)) (iLo r x) b)), (9, iv j)])))
def lp74o (st : St) (R : Type) (K : Ex → St → Option R) : Option R := req (decide (st.length = 85)) (gI st 0 fun x => gI st 1 fun y => gCm st 2 fun m => gCi st 3 fun r => gCi st 4 fun n => gI st 8 fun b => gI st 9 fun j =>
  req (okG m r n x y && decide (j = iLo r y)) (K (.exit 0) (mk 85 [(8, iv (rowsW m n r x y (cnt (iLo r y) (iHi r m.2.1 y)) (iLo r y) b))])))
def E74 : Env := { EG [(50, pG, sG)] with lv := fun id => match id with | 0 => [0, 1, 2, 3, 4, 8, 9] | _ => [0, 1, 2, 3, 4, 8, 9, 10], lx := fun id => match id with | 0 => [8] | _ => [0, 1, 2, 3, 4, 8, 9], lp := fun id => match id with | 0 => lp74o | _ => lp74i }
def st74o (x y : Int) (m : Mk) (r n b j : Int) : St := mk 85 [(0, iv x), (1, iv y), (2, cM m), (3, ci r), (4, ci n), (8, iv b), (9, iv j)]
def st74i (x y : Int) (m : Mk) (r n b j i : Int) : St := mk 85 [(0, iv x), (1, iv y), (2, cM m), (3, ci r), (4, ci n), (8, iv b), (9, iv j), (10, iv i)]
theorem b74i (x y : Int) (m : Mk) (r n b j i : Int) : evalCode E74 (loopAt Try.f74 1) 2 (st74i x y m r n b j i) (kp E74 2) = bif decide (i ≤ mn r (W (W (m.1 - 1) - x))) then
    bif decide (W (W (i * i) + W (j * j)) > W (n * n)) then some (.normal, st74i x y m r n b j (W (i + 1))) else
    bif okSize m then
      bif decide (n > 0) then bif decide (getM m (W (x + i)) (W (y + j)) > b) then some (.normal, st74i x y m r n (getM m (W (x + i)) (W (y + j))) j (W (i + 1))) else
        bif decide (n < 0) then bif decide (getM m (W (x + i)) (W (y + j)) < b) then some (.normal, st74i x y m r n (getM m (W (x + i)) (W (y + j))) j (W (i + 1))) else some (.normal, st74i x y m r n b j (W (i + 1))) else some (.normal, st74i x y m r n b j (W (i + 1)))
      else bif decide (n < 0) then bif decide (getM m (W (x + i)) (W (y + j)) < b) then some (.normal, st74i x y m r n (getM m (W (x + i)) (W (y + j))) j (W (i + 1))) else some (.normal, st74i x y m r n b j (W (i + 1))) else some (.normal, st74i x y m r n b j (W (i + 1)))
    else none
    else some (.exit 2, st74o x y m r n b j) := by kernel_rfl
theorem b74o (x y : Int) (m : Mk) (r n b j : Int) : evalCode E74 (loopAt Try.f74 0) 0 (st74o x y m r n b j) (kp E74 0) = bif decide (j ≤ mn r (W (W (m.2.1 - 1) - y))) then
    bif okG m r n x y && decide (-16 ≤ j ∧ j ≤ 16) && decide (mx (W (0 - r)) (W (0 - x)) = iLo r x) then some (.normal, st74o x y m r n (rowW m n x y j (cnt (iLo r x) (iHi r m.1 x)) (iLo r x) b) (W (j + 1))) else none
    else some (.exit 0, mk 85 [(8, iv b)]) := by kernel_rfl
@[reducible] def nKg (a : Int × Int × Mk × Int × Int) : List AV := [iv a.1, iv a.2.1, cM a.2.2.1, ci a.2.2.2.1, ci a.2.2.2.2]
def dKg : List AV → Option (Int × Int × Mk × Int × Int)
  | [.rv (.sc (.int .i64 x)), .rv (.sc (.int .i64 y)), .cbox 24 [.int .i64 a, .int .i64 b, .sl none (.ints l)], .cbox 3 [.int .i64 r], .cbox 3 [.int .i64 n]] => some (x, y, (a, b, l), r, n)
  | _ => none
theorem hKg {us : List AV} {a} (h : dKg us = some a) : us = nKg a := by unfold dKg at h; split at h <;> cases h; rfl
theorem t74 (x y a b : Int) (l : List Int) (r n : Int) : evalF E74 Try.f74 (nKg (x, y, (a, b, l), r, n)) = bif okSize (a, b, l) then
    bif okG (a, b, l) r n x y && decide (mx (W (0 - r)) (W (0 - y)) = iLo r y) then oi (growV (a, b, l) r n x y) else none else none := by kernel_rfl
theorem okG_iff {m : Mk} {r n x y : Int} (h : okG m r n x y = true) : okSize m = true ∧ (0 ≤ r ∧ r ≤ 16 ∧ -16 ≤ n ∧ n ≤ 16 ∧ 0 ≤ x ∧ x < 256 ∧ 0 ≤ y ∧ y < 256) ∧ (0 ≤ m.1 ∧ m.1 ≤ 256 ∧ 0 ≤ m.2.1 ∧ m.2.1 ≤ 256) := by
  simp only [okG, Bool.and_eq_true, decide_eq_true_eq] at h
  refine ⟨h.1, h.2, ?_⟩
  obtain ⟨w, h', l⟩ := m
  have := (okSize_iff _ _ _).mp h.1
  simp only
  omega
theorem sqb {i : Int} (h1 : -17 ≤ i) (h2 : i ≤ 17) : 0 ≤ i * i ∧ i * i ≤ 289 := by
  by_cases h : 0 ≤ i
  · exact ⟨Int.mul_nonneg h h, Int.mul_le_mul h2 h2 h (by decide)⟩
  · rw [← Int.neg_mul_neg]
    exact ⟨Int.mul_nonneg (by omega) (by omega), Int.mul_le_mul (show -i ≤ 17 by omega) (show -i ≤ 17 by omega) (by omega) (by decide)⟩
theorem lo_hi {r x w : Int} (hr : 0 ≤ r ∧ r ≤ 16) (hx : 0 ≤ x ∧ x < 256) (hw : 0 ≤ w ∧ w ≤ 256) : mx (W (0 - r)) (W (0 - x)) = iLo r x ∧ mn r (W (W (w - 1) - x)) = iHi r w x ∧ -16 ≤ iLo r x ∧ iLo r x ≤ 0 ∧ iHi r w x ≤ 16 := by
  rw [W_small (n := 0 - r) (by omega) (by omega), W_small (n := 0 - x) (by omega) (by omega), W_small (n := w - 1) (by omega) (by omega), W_small (n := w - 1 - x) (by omega) (by omega)]
  refine ⟨rfl, rfl, ?_⟩
  unfold iLo iHi mx mn
  refine ⟨?_, ?_, ?_⟩ <;> split <;> omega
theorem runs74i (x y : Int) (m : Mk) (r n j : Int) (hg : okG m r n x y = true) (hj : -16 ≤ j ∧ j ≤ 16) : ∀ (k : Nat) (i b : Int), k = cnt i (iHi r m.1 x) → -16 ≤ i → i ≤ 17 →
    Runs E74 2 (loopAt Try.f74 1) (st74i x y m r n b j i) (.exit 2) (st74o x y m r n (rowW m n x y j k i b) j) := by
  obtain ⟨ho, hb, hm⟩ := okG_iff hg
  have hl := lo_hi (r := r) (x := x) (w := m.1) (by omega) (by omega) (by omega)
  intro k
  induction k with
  | zero =>
    intro i b hk h0 h1
    refine .stop ?_ (by simp)
    unfold cnt at hk
    rw [b74i, hl.2.1, decide_eq_false (by omega), rowW]
    rfl
  | succ k ih =>
    intro i b hk h0 h1
    unfold cnt at hk
    have hbd := b74i x y m r n b j i
    have q1 := sqb (i := i) (by omega) h1
    have q2 := sqb (i := j) (by omega) (by omega)
    have q3 := sqb (i := n) (by omega) (by omega)
    have hi : i ≤ 16 := by omega
    rw [hl.2.1, decide_eq_true (by omega : i ≤ iHi r m.1 x), W_small (n := i * i) (by omega) (by omega), W_small (n := j * j) (by omega) (by omega), W_small (n := n * n) (by omega) (by omega), W_small (n := i * i + j * j) (by omega) (by omega),
      W_small (n := i + 1) (by omega) (by omega), W_small (n := x + i) (by omega) (by omega), W_small (n := y + j) (by omega) (by omega), ho] at hbd
    rw [rowW]
    have := ih (i + 1) (stepW m n x y j i b) (by unfold cnt; omega) (by omega) (by omega)
    refine .step ?_ this
    rw [hbd]
    unfold stepW upd
    by_cases c1 : i * i + j * j > n * n
    · rw [decide_eq_true c1, if_pos c1]; rfl
    rw [decide_eq_false c1, if_neg c1]
    by_cases c2 : n > 0
    · by_cases c3 : getM m (x + i) (y + j) > b
      · rw [decide_eq_true c2, decide_eq_true c3, if_pos (.inl ⟨c2, c3⟩)]; rfl
      · rw [decide_eq_true c2, decide_eq_false c3, decide_eq_false (by omega : ¬ n < 0), if_neg (by omega)]; rfl
    · by_cases c4 : n < 0
      · by_cases c5 : getM m (x + i) (y + j) < b
        · rw [decide_eq_false c2, decide_eq_true c4, decide_eq_true c5, if_pos (.inr ⟨c4, c5⟩)]; rfl
        · rw [decide_eq_false c2, decide_eq_true c4, decide_eq_false c5, if_neg (by omega)]; rfl
      · rw [decide_eq_false c2, decide_eq_false c4, if_neg (by omega)]; rfl
theorem runs74o (x y : Int) (m : Mk) (r n : Int) (hg : okG m r n x y = true) : ∀ (k : Nat) (j b : Int), k = cnt j (iHi r m.2.1 y) → -16 ≤ j → j ≤ 17 →
    Runs E74 0 (loopAt Try.f74 0) (st74o x y m r n b j) (.exit 0) (mk 85 [(8, iv (rowsW m n r x y k j b))]) := by
  obtain ⟨ho, hb, hm⟩ := okG_iff hg
  have hl := lo_hi (r := r) (x := x) (w := m.1) (by omega) (by omega) (by omega)
  have hl2 := lo_hi (r := r) (x := y) (w := m.2.1) (by omega) (by omega) (by omega)
  intro k
  induction k with
  | zero =>
    intro j b hk h0 h1
    refine .stop ?_ (by simp)
    unfold cnt at hk
    rw [b74o, hl2.2.1, decide_eq_false (by omega), rowsW]
    rfl
  | succ k ih =>
    intro j b hk h0 h1
    unfold cnt at hk
    have hbd := b74o x y m r n b j
    have hj : j ≤ 16 := by omega
    rw [hl2.2.1, decide_eq_true (by omega : j ≤ iHi r m.2.1 y), hg, decide_eq_true (⟨h0, hj⟩ : -16 ≤ j ∧ j ≤ 16), decide_eq_true hl.1, W_small (n := j + 1) (by omega) (by omega)] at hbd
    exact .step hbd (ih (j + 1) _ (by unfold cnt; omega) (by omega) (by omega))
theorem loop74i : LoopOk E74 2 (loopAt Try.f74 1) := by
  intro st R K z h
  obtain ⟨hn, h⟩ := req_some h
  obtain ⟨x, e0, h⟩ := gI_some h
  obtain ⟨y, e1, h⟩ := gI_some h
  obtain ⟨m, e2, h⟩ := gCm_some h
  obtain ⟨r, e3, h⟩ := gCi_some h
  obtain ⟨n, e4, h⟩ := gCi_some h
  obtain ⟨b, e5, h⟩ := gI_some h
  obtain ⟨j, e6, h⟩ := gI_some h
  obtain ⟨i, e7, h⟩ := gI_some h
  obtain ⟨hc, h⟩ := req_some h
  simp only [Bool.and_eq_true, decide_eq_true_eq] at hc
  obtain ⟨⟨h1, h2⟩, h3⟩ := hc
  rw [keep_mk (of_decide_eq_true hn)]
  have e := runs74i x y m r n j h1 h2 _ (iLo r x) b rfl (by have := okG_iff h1; have := lo_hi (r := r) (x := x) (w := m.1) (by omega) (by omega) (by omega); omega) (by have := okG_iff h1; have := lo_hi (r := r) (x := x) (w := m.1) (by omega) (by omega) (by omega); omega)
  have es : mk 85 ((E74.lv 2).map fun i => (i, getS (keep (E74.lv 2) st) i)) = st74i x y m r n b j (iLo r x) := by
    show mk 85 [(0, getS (keep (E74.lv 2) st) 0), (1, getS (keep (E74.lv 2) st) 1), (2, getS (keep (E74.lv 2) st) 2), (3, getS (keep (E74.lv 2) st) 3), (4, getS (keep (E74.lv 2) st) 4), (8, getS (keep (E74.lv 2) st) 8), (9, getS (keep (E74.lv 2) st) 9), (10, getS (keep (E74.lv 2) st) 10)] = _
    rw [e0, e1, e2, e3, e4, e5, e6, e7, h3]
    rfl
  rw [es]
  exact ⟨_, _, e, h⟩
theorem loop74o : LoopOk E74 0 (loopAt Try.f74 0) := by
  intro st R K z h
  obtain ⟨hn, h⟩ := req_some h
  obtain ⟨x, e0, h⟩ := gI_some h
  obtain ⟨y, e1, h⟩ := gI_some h
  obtain ⟨m, e2, h⟩ := gCm_some h
  obtain ⟨r, e3, h⟩ := gCi_some h
  obtain ⟨n, e4, h⟩ := gCi_some h
  obtain ⟨b, e5, h⟩ := gI_some h
  obtain ⟨j, e6, h⟩ := gI_some h
  obtain ⟨hc, h⟩ := req_some h
  simp only [Bool.and_eq_true, decide_eq_true_eq] at hc
  obtain ⟨h1, h3⟩ := hc
  rw [keep_mk (of_decide_eq_true hn)]
  have e := runs74o x y m r n h1 _ (iLo r y) b rfl (by have := okG_iff h1; have := lo_hi (r := r) (x := y) (w := m.2.1) (by omega) (by omega) (by omega); omega) (by have := okG_iff h1; have := lo_hi (r := r) (x := y) (w := m.2.1) (by omega) (by omega) (by omega); omega)
  have es : mk 85 ((E74.lv 0).map fun i => (i, getS (keep (E74.lv 0) st) i)) = st74o x y m r n b (iLo r y) := by
    show mk 85 [(0, getS (keep (E74.lv 0) st) 0), (1, getS (keep (E74.lv 0) st) 1), (2, getS (keep (E74.lv 0) st) 2), (3, getS (keep (E74.lv 0) st) 3), (4, getS (keep (E74.lv 0) st) 4), (8, getS (keep (E74.lv 0) st) 8), (9, getS (keep (E74.lv 0) st) 9)] = _
    rw [e0, e1, e2, e3, e4, e5, e6, h3]
    rfl
  rw [es]
  exact ⟨_, _, e, h⟩
abbrev pKg : List AV → Bool := ps dKg fun a => okG a.2.2.1 a.2.2.2.1 a.2.2.2.2 a.1 a.2.1
abbrev sKg : Spec := sp dKg fun a => iv (growV a.2.2.1 a.2.2.2.1 a.2.2.2.2 a.1 a.2.1)
theorem loops74 : loopsOf Try.f74 = [(0, loopAt Try.f74 0), (2, loopAt Try.f74 1)] := by kernel_rfl
theorem m74 : Meets Try.prog 74 (gate pKg sKg) := mG (rdL (e := E74) rfl (eg_cons m50 eg_nil) (fn := Try.f74) (k := 5) (by kernel_rfl) (by kernel_rfl) (of_decide_eq_true (by kernel_rfl)) loops74 (fun p hp => by
  rcases List.mem_cons.mp hp with h | h
  · cases h; exact loop74o
  · cases List.mem_singleton.mp h; exact loop74i)) (fun _ _ => hKg) (fun _ => ⟨rfl, Nat.le_refl _⟩)
  fun ⟨x, y, ⟨a, b, l⟩, r, n⟩ hp => by
    have hp : okG (a, b, l) r n x y = true := hp
    obtain ⟨ho, hb, hm⟩ := okG_iff hp
    have hl2 := lo_hi (r := r) (x := y) (w := b) (by omega) (by omega) (by simp only at hm; omega)
    refine (t74 x y a b l r n).trans ?_
    rw [ho, hp, decide_eq_true hl2.1]
    rfl
/-! ### Grow -/
def growM (m : Mk) (n : Int) : Mk × Int := if checkM m ≠ 0 then errM (checkM m) else if n < -16 ∨ n > 16 then errM 2 else ((m.1, m.2.1, rowsG (growV m (mx n (0 - n)) n) m.1.toNat m.2.1.toNat 0), 0)
def L34 (ck : Mk → Int) : List Entry := [(30, pT dM, sp dM fun m => iv (ck m)), (48, pF, sF), (74, pKg, sKg)]
@[reducible] def F74 (ck : Mk → Int) (m : Mk) (r n : Int) : Fn2 := closure ((EG (L34 ck)).ctx #[]) 74 [cm m.1 m.2.1 m.2.2, ci r, ci n]
theorem t34 (ck : Mk → Int) (a b : Int) (l : List Int) (n : Int) : evalF (EG (L34 ck)) Try.f34 [mk3 a b l, iv n] = bif ck (a, b, l) != 0 then omv (errM (ck (a, b, l))) else bif decide (n < -16) then omv (errM 2) else bif decide (n > 16) then omv (errM 2) else
    bif decide (0 ≤ a ∧ a ≤ 256 ∧ b ≤ 256) && okRs (F74 ck (a, b, l) (mx n (W (0 - n))) n) a.toNat b.toNat 0 then omv ((a, b, rowsG (fI (F74 ck (a, b, l) (mx n (W (0 - n))) n)) a.toNat b.toNat 0), 0) else none := by kernel_rfl
theorem F74_eq {ck : Mk → Int} {m : Mk} {r n x y : Int} (ho : okG m r n x y = true) : F74 ck m r n [.int .i64 x, .int .i64 y] = some (.int .i64 (growV m r n x y)) := by
  have : F74 ck m r n [.int .i64 x, .int .i64 y] = (match (bif okG m r n x y then some (iv (growV m r n x y), []) else none : Option (AV × List AV)) with
    | some (.rv r, _) => toV r
    | _ => none) := by kernel_rfl
  rw [this, ho]
  rfl
theorem rowG_congrR {g g' : Int → Int → Int} (y : Int) (w : Nat) (h : ∀ x : Int, 0 ≤ x → x < w → g x y = g' x y) : ∀ (k : Nat) (x : Int), 0 ≤ x → x + k ≤ w → rowG g y k x = rowG g' y k x
  | 0, _, _, _ => rfl
  | k + 1, x, h0, h1 => by rw [rowG, rowG, h x h0 (by omega), rowG_congrR y w h k (x + 1) (by omega) (by omega)]
theorem rowsG_congrR {g g' : Int → Int → Int} (w hh : Nat) (h : ∀ x y : Int, 0 ≤ x → x < w → 0 ≤ y → y < hh → g x y = g' x y) : ∀ (k : Nat) (y : Int), 0 ≤ y → y + k ≤ hh → rowsG g w k y = rowsG g' w k y
  | 0, _, _, _ => rfl
  | k + 1, y, h0, h1 => by rw [rowsG, rowsG, rowG_congrR y w (fun x a b => h x y a b h0 (by omega)) w 0 (Int.le_refl _) (by omega), rowsG_congrR w hh h k (y + 1) (by omega) (by omega)]
theorem e34 (a b : Int) (l : List Int) (n : Int) : evalF (EG (L34 checkM)) Try.f34 [mk3 a b l, iv n] = omv (growM (a, b, l) n) := by
  rw [t34]
  unfold growM
  by_cases hc : checkM (a, b, l) = 0
  · obtain ⟨ho, hz, hu⟩ := check_ok hc
    have hs := (okSize_iff a b l).mp ho
    rw [if_neg (fun h => h hc), bne_eq_false_iff_eq.mpr hc]
    by_cases h1 : n < -16
    · rw [if_pos (.inl h1), decide_eq_true h1]; rfl
    by_cases h2 : n > 16
    · rw [if_pos (.inr h2), decide_eq_false h1, decide_eq_true h2]; rfl
    rw [if_neg (by omega), decide_eq_false h1, decide_eq_false h2, W_small (n := 0 - n) (by omega) (by omega)]
    have hr : 0 ≤ mx n (0 - n) ∧ mx n (0 - n) ≤ 16 := by unfold mx; split <;> omega
    have hok : ∀ x y : Int, 0 ≤ x → x < a.toNat → 0 ≤ y → y < b.toNat → okG (a, b, l) (mx n (0 - n)) n x y = true := fun x y x0 x1 y0 y1 => by
      unfold okG
      rw [ho, decide_eq_true (by omega)]
      rfl
    rw [decide_eq_true (by omega : 0 ≤ a ∧ a ≤ 256 ∧ b ≤ 256), okRs_of _ a.toNat b.toNat (fun x y x0 x1 y0 y1 => by rw [F74_eq (hok x y x0 x1 y0 y1)]; rfl) b.toNat 0 (Int.le_refl _) (by omega),
      rowsG_congrR (g' := growV (a, b, l) (mx n (0 - n)) n) a.toNat b.toNat (fun x y x0 x1 y0 y1 => by unfold fI; rw [F74_eq (hok x y x0 x1 y0 y1)]; rfl) b.toNat 0 (Int.le_refl _) (by omega)]
    rfl
  · rw [if_pos hc, bne_iff_ne.mpr hc]
    rfl
theorem m34 : Meets Try.prog 34 (gate (pT dMI) (sp dMI fun a => mev (growM a.1 a.2))) := mG (rdE (l := L34 checkM) (eg_cons m30 (eg_cons m48 (eg_cons m74 eg_nil))) (fn := Try.f34) (k := 2) (by kernel_rfl) (by kernel_rfl) (of_decide_eq_true (by kernel_rfl)) (by kernel_rfl)) (fun _ _ => hMI) (fun _ => ⟨rfl, Nat.le_refl _⟩)
  fun ⟨⟨a, b, l⟩, n⟩ _ => e34 a b l n
end Go.Proofs.Ytkeildnpemiacaa.Ev

