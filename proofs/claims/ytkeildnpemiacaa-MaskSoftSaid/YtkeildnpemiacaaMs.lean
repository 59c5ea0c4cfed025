/- That the law of growing answers true. Conditions: none. Printed by gen.py of this session. -/
import Derived.Test.YtkeildnpemiacaaMr
namespace Go.Proofs.Ytkeildnpemiacaa.Ev
open Go.Proofs
set_option linter.unusedVariables false
set_option linter.unusedSimpArgs false
set_option maxRecDepth 100000
set_option maxHeartbeats 1000000

theorem upd_dual (n b v : Int) : upd n (65535 - b) (65535 - v) = 65535 - upd (0 - n) b v := by
  unfold upd
  split <;> split <;> omega
theorem upd_or (n b v : Int) : upd n b v = b ∨ upd n b v = v := by
  unfold upd
  split
  · exact .inr rfl
  · exact .inl rfl
theorem upd_up {n : Int} (h : 0 ≤ n) (b v : Int) : b ≤ upd n b v := by unfold upd; split <;> omega
theorem upd_down {n : Int} (h : n ≤ 0) (b v : Int) : upd n b v ≤ b := by unfold upd; split <;> omega
theorem rowW_up {m : Mk} {n x y j : Int} (h : 0 ≤ n) : ∀ (k : Nat) (i b : Int), b ≤ rowW m n x y j k i b
  | 0, _, _ => Int.le_refl _
  | k + 1, i, b => by
    rw [rowW]
    refine Int.le_trans ?_ (rowW_up h k (i + 1) _)
    unfold stepW
    split
    · exact Int.le_refl _
    · exact upd_up h _ _
theorem rowsW_up {m : Mk} {n r x y : Int} (h : 0 ≤ n) : ∀ (k : Nat) (j b : Int), b ≤ rowsW m n r x y k j b
  | 0, _, _ => Int.le_refl _
  | k + 1, j, b => by rw [rowsW]; exact Int.le_trans (rowW_up h _ _ _) (rowsW_up h k (j + 1) _)
theorem rowW_down {m : Mk} {n x y j : Int} (h : n ≤ 0) : ∀ (k : Nat) (i b : Int), rowW m n x y j k i b ≤ b
  | 0, _, _ => Int.le_refl _
  | k + 1, i, b => by
    rw [rowW]
    refine Int.le_trans (rowW_down h k (i + 1) _) ?_
    unfold stepW
    split
    · exact Int.le_refl _
    · exact upd_down h _ _
theorem rowsW_down {m : Mk} {n r x y : Int} (h : n ≤ 0) : ∀ (k : Nat) (j b : Int), rowsW m n r x y k j b ≤ b
  | 0, _, _ => Int.le_refl _
  | k + 1, j, b => by rw [rowsW]; exact Int.le_trans (rowsW_down h k (j + 1) _) (rowW_down h _ _ _)
def U (v : Int) : Prop := 0 ≤ v ∧ v ≤ 65535
theorem rowW_U {m : Mk} (hm : ∀ x y, U (getM m x y)) {n x y j : Int} : ∀ (k : Nat) (i b : Int), U b → U (rowW m n x y j k i b)
  | 0, _, _, h => h
  | k + 1, i, b, h => by
    rw [rowW]
    refine rowW_U hm k (i + 1) _ ?_
    unfold stepW
    split
    · exact h
    · rcases upd_or n b (getM m (x + i) (y + j)) with e | e <;> rw [e]
      · exact h
      · exact hm _ _
theorem rowsW_U {m : Mk} (hm : ∀ x y, U (getM m x y)) {n r x y : Int} : ∀ (k : Nat) (j b : Int), U b → U (rowsW m n r x y k j b)
  | 0, _, _, h => h
  | k + 1, j, b, h => by rw [rowsW]; exact rowsW_U hm k (j + 1) _ (rowW_U hm _ _ _ h)
/-- Two masks of one size, each the inverse of the other. -/
structure Dual (m m' : Mk) : Prop where
  w : m'.1 = m.1
  h : m'.2.1 = m.2.1
  v : ∀ x y : Int, 0 ≤ x → x < m.1 → 0 ≤ y → y < m.2.1 → getM m' x y = 65535 - getM m x y
theorem rowW_dual {m m' : Mk} (d : Dual m m') {n x y j : Int} (hj : 0 ≤ y + j ∧ y + j < m.2.1) : ∀ (k : Nat) (i b : Int), 0 ≤ x + i → x + i + k ≤ m.1 → rowW m' n x y j k i (65535 - b) = 65535 - rowW m (0 - n) x y j k i b
  | 0, _, _, _, _ => rfl
  | k + 1, i, b, h0, h1 => by
    have e : stepW m' n x y j i (65535 - b) = 65535 - stepW m (0 - n) x y j i b := by
      unfold stepW
      rw [show (0 - n) * (0 - n) = n * n by rw [Int.zero_sub, Int.neg_mul_neg]]
      split
      · rfl
      · rw [d.v (x + i) (y + j) (by omega) (by omega) hj.1 hj.2, upd_dual]
    rw [rowW, rowW, e]
    exact rowW_dual d hj k (i + 1) _ (by omega) (by omega)
theorem lo_ge (r x : Int) : 0 - x ≤ iLo r x ∧ 0 - r ≤ iLo r x := by unfold iLo mx; split <;> omega
theorem hi_le (r w x : Int) : iHi r w x ≤ w - 1 - x ∧ iHi r w x ≤ r := by unfold iHi mn; split <;> omega
theorem lo_hi1 {r w x : Int} (hr : 0 ≤ r) (hx : 0 ≤ x ∧ x < w) : iLo r x ≤ 0 ∧ 0 ≤ iHi r w x := by unfold iLo iHi mx mn; constructor <;> split <;> omega
theorem rowsW_dual {m m' : Mk} (d : Dual m m') {n r x y : Int} (hr : 0 ≤ r) (hx : 0 ≤ x ∧ x < m.1) : ∀ (k : Nat) (j b : Int), 0 ≤ y + j → y + j + k ≤ m.2.1 → rowsW m' n r x y k j (65535 - b) = 65535 - rowsW m (0 - n) r x y k j b
  | 0, _, _, _, _ => rfl
  | k + 1, j, b, h0, h1 => by
    have l := lo_ge r x
    have h := hi_le r m.1 x
    have q := lo_hi1 hr hx
    rw [rowsW, rowsW, d.w, rowW_dual d (by omega) (cnt (iLo r x) (iHi r m.1 x)) (iLo r x) b (by omega) (by unfold cnt; omega)]
    exact rowsW_dual d hr hx k (j + 1) _ (by omega) (by omega)
theorem growV_dual {m m' : Mk} (d : Dual m m') {n r x y : Int} (hr : 0 ≤ r) (hx : 0 ≤ x ∧ x < m.1) (hy : 0 ≤ y ∧ y < m.2.1) : growV m' r n x y = 65535 - growV m r (0 - n) x y := by
  have l := lo_ge r y
  have h := hi_le r m.2.1 y
  have q := lo_hi1 hr hy
  unfold growV
  rw [d.h, d.v x y hx.1 hx.2 hy.1 hy.2]
  exact rowsW_dual d hr hx (cnt (iLo r y) (iHi r m.2.1 y)) (iLo r y) _ (by omega) (by unfold cnt; omega)
def growS (m : Mk) (n : Int) (w : Nat) (k : Nat) : Int := growV m (mx n (0 - n)) n ((k % w : Nat)) ((k / w : Nat))
theorem Good.grow {w h : Int} {l : List Int} {N : Nat} (g : Good w h l N) {n : Int} (hn : -16 ≤ n ∧ n ≤ 16) : growM (w, h, l) n = ((w, h, seqL (growS (w, h, l) n w.toNat) N 0), 0) := by
  unfold growM
  rw [if_neg (fun h => h g.check), if_neg (by omega)]
  have := rowsG_seq (growS (w, h, l) n w.toNat) (growV (w, h, l) (mx n (0 - n)) n) w.toNat h.toNat (fun x y hx hy => by
    unfold growS
    rw [show (y * w.toNat + x) % w.toNat = x by rw [Nat.mul_comm, Nat.mul_add_mod, Nat.mod_eq_of_lt hx], show (y * w.toNat + x) / w.toNat = y by rw [Nat.mul_comm, Nat.mul_add_div (by omega), Nat.div_eq_of_lt hx, Nat.add_zero]]) h.toNat 0 (by omega)
  rw [Nat.zero_mul, show ((0 : Nat) : Int) = 0 from rfl, g.num] at this
  rw [this]
theorem Good.getU {w h : Int} {l : List Int} {N : Nat} (g : Good w h l N) (x y : Int) : U (getM (w, h, l) x y) := by
  unfold getM
  by_cases hi : inM (w, h, l) x y = true
  · rw [if_pos hi]
    have hi := of_decide_eq_true hi
    simp only at hi
    have := idx_nat (x := x.toNat) (y := y.toNat) (w := w.toNat) (h := h.toNat) (by omega) (by omega)
    have e : (y * w + x).toNat = y.toNat * w.toNat + x.toNat := by
      have : y * w + x = ((y.toNat * w.toNat + x.toNat : Nat) : Int) := by rw [Int.natCast_add, Int.natCast_mul, Int.toNat_of_nonneg hi.2.2.1, Int.toNat_of_nonneg g.size.1, Int.toNat_of_nonneg hi.1]
      rw [this, Int.toNat_natCast]
    simp only
    rw [e]
    exact g.get (by rw [← g.num]; exact this)
  · rw [if_neg hi]; exact ⟨Int.le_refl _, by decide⟩
theorem Good.growU {w h : Int} {l : List Int} {N : Nat} (g : Good w h l N) (n : Int) (k : Nat) : U (growS (w, h, l) n w.toNat k) := rowsW_U g.getU _ _ _ (g.getU _ _)
theorem Good.at {w h : Int} {l : List Int} {N : Nat} (g : Good w h l N) {k : Nat} (hk : k < N) : k % w.toNat < w.toNat ∧ k / w.toNat < h.toNat ∧ getM (w, h, l) ((k % w.toNat : Nat)) ((k / w.toNat : Nat)) = l.getD k 0 := by
  have hw : 0 < w.toNat := by
    rcases Nat.eq_zero_or_pos w.toNat with h0 | h0
    · have := g.num; rw [h0, Nat.zero_mul] at this; omega
    · exact h0
  have h1 := Nat.mod_lt k hw
  have h2 : k / w.toNat < h.toNat := by
    rw [Nat.div_lt_iff_lt_mul hw, Nat.mul_comm, g.num]; exact hk
  refine ⟨h1, h2, ?_⟩
  rw [getM_at (m := (w, h, l)) (check_ok g.check).1 h1 h2]
  show l.getD (k / w.toNat * w.toNat + k % w.toNat) 0 = _
  rw [Nat.mul_comm, Nat.div_add_mod]
theorem Good.dual {w h : Int} {l : List Int} {N : Nat} (g : Good w h l N) : Dual (w, h, l) (w, h, seqL (fun k => 65535 - l.getD k 0) N 0) := by
  have gi := g.seq (v := fun k => 65535 - l.getD k 0) fun j hj => by have := g.get hj; omega
  refine ⟨rfl, rfl, fun x y x0 x1 y0 y1 => ?_⟩
  simp only at x1 y1
  have e1 := getM_at (m := (w, h, l)) (check_ok g.check).1 (x := x.toNat) (y := y.toNat) (by simp only; omega) (by simp only; omega)
  have e2 := getM_at (m := (w, h, seqL (fun k => 65535 - l.getD k 0) N 0)) (check_ok gi.check).1 (x := x.toNat) (y := y.toNat) (by simp only; omega) (by simp only; omega)
  rw [Int.toNat_of_nonneg x0, Int.toNat_of_nonneg y0] at e1 e2
  have := idx_nat (x := x.toNat) (y := y.toNat) (w := w.toNat) (h := h.toNat) (by omega) (by omega)
  rw [e1, e2]
  simp only
  rw [seqL_get _ N 0 _ (by rw [← g.num]; exact this), Nat.zero_add]
/-! ### The law's own loop -/
def cmpK (l a b : List Int) : Nat → Nat → Bool
  | 0, _ => true
  | k + 1, i => decide (l.getD i 0 ≤ a.getD i 0) && decide (b.getD i 0 ≤ l.getD i 0) && cmpK l a b k (i + 1)
theorem cmpK_of (l a b : List Int) : ∀ (k i : Nat), (∀ j, i ≤ j → j < i + k → l.getD j 0 ≤ a.getD j 0 ∧ b.getD j 0 ≤ l.getD j 0) → cmpK l a b k i = true
  | 0, _, _ => rfl
  | k + 1, i, h => by
    have := h i (Nat.le_refl _) (by omega)
    rw [cmpK, decide_eq_true this.1, decide_eq_true this.2, cmpK_of l a b k (i + 1) fun j h1 h2 => h j (by omega) (by omega)]
    rfl
def lp13 (st : St) (R : Type) (K : Ex → St → Option R) : Option R := req (decide (st.length = 117)) (gI st 5 fun n => gM st 6 fun a => gM st 8 fun b => gM st 10 fun x => gL st 74 fun l => gI st 75 fun k => gI st 76 fun i =>
  req (decide (i = 0) && decide (k = l.length) && decide (l.length ≤ 65536) && decide (l.length ≤ a.2.2.length) && decide (l.length ≤ b.2.2.length) && cmpK l a.2.2 b.2.2 l.length 0) (K (.exit 0) (mk 117 [(5, iv n), (8, bM b), (10, bM x)])))
def L13 (ck : Mk → Int) (gr : Mk → Int → Mk × Int) (inv : Mk → Mk × Int) (iz : Mk → Int → Mk → Bool) : List Entry := [(16, pT d0, sp d0 fun _ => bw true), (30, pT dM, sp dM fun m => iv (ck m)), (34, pT dMI, sp dMI fun a => mev (gr a.1 a.2)), (44, pT dM, sp dM fun a => mev (inv a)), (41, p41, sp dMIM fun a => bw (iz a.1 a.2.1 a.2.2))]
def E13 (ck : Mk → Int) (gr : Mk → Int → Mk × Int) (inv : Mk → Mk × Int) (iz : Mk → Int → Mk → Bool) : Env := { EG (L13 ck gr inv iz) with lv := fun _ => [5, 6, 8, 10, 74, 75, 76], lx := fun _ => [4, 5, 8, 10], lp := fun _ => lp13 }
def st13 (n : Int) (a b x : Mk) (l : List Int) (k i : Int) : St := mk 117 [(5, iv n), (6, bM a), (8, bM b), (10, bM x), (74, isv l), (75, iv k), (76, iv i)]
def xx13 (n : Int) (b x : Mk) : Option (Ex × St) := some (.ret, mk 117 [(4, bw false), (5, iv n), (8, bM b), (10, bM x)])
theorem b13 (ck : Mk → Int) (gr : Mk → Int → Mk × Int) (inv : Mk → Mk × Int) (iz : Mk → Int → Mk → Bool) (n : Int) (a b x : Mk) (l : List Int) (k i : Int) : evalCode (E13 ck gr inv iz) (loopAt Try.f13 0) 0 (st13 n a b x l k i) (kp (E13 ck gr inv iz) 0) =
    bif decide (i < k) then bif decide (0 ≤ i) && decide (i < (l.length : Int)) then bif decide (0 ≤ i) && decide (i < (a.2.2.length : Int)) then bif decide (a.2.2.getD i.toNat 0 < l.getD i.toNat 0) then xx13 n b x else
      bif decide (0 ≤ i) && decide (i < (b.2.2.length : Int)) then bif decide (b.2.2.getD i.toNat 0 > l.getD i.toNat 0) then xx13 n b x else some (.normal, st13 n a b x l k (W (i + 1))) else none else none else none
    else some (.exit 0, mk 117 [(5, iv n), (8, bM b), (10, bM x)]) := by kernel_rfl
def tree13 (ck : Mk → Int) (gr : Mk → Int → Mk × Int) (inv : Mk → Mk × Int) (iz : Mk → Int → Mk → Bool) (m : Mk) (n : Int) : Option (AV × List AV) :=
  bif ck m != 0 then ob true else bif (gr m n).2 != 0 then ob false else bif (gr m (W (0 - n))).2 != 0 then ob false else bif (inv m).2 != 0 then ob false else
  bif ((gr m n).1.2.2.length : Int) != m.2.2.length then ob false else bif ((gr m (W (0 - n))).1.2.2.length : Int) != m.2.2.length then ob false else
  bif decide ((0 : Int) = 0) && decide ((m.2.2.length : Int) = m.2.2.length) && decide (m.2.2.length ≤ 65536) && decide (m.2.2.length ≤ (gr m n).1.2.2.length) && decide (m.2.2.length ≤ (gr m (W (0 - n))).1.2.2.length) && cmpK m.2.2 (gr m n).1.2.2 (gr m (W (0 - n))).1.2.2 m.2.2.length 0 then
    bif (gr (inv m).1 n).2 == 0 then gl (inv (gr (inv m).1 n).1).1 (ob (iz (inv (gr (inv m).1 n).1).1 (inv (gr (inv m).1 n).1).2 (gr m (W (0 - n))).1)) else ob false
  else none
theorem t13 (ck : Mk → Int) (gr : Mk → Int → Mk × Int) (inv : Mk → Mk × Int) (iz : Mk → Int → Mk → Bool) (a b : Int) (l : List Int) (u : Int) : evalF (E13 ck gr inv iz) Try.f13 [mk3 a b l, iw .u8 u] = tree13 ck gr inv iz (a, b, l) ((W u).tmod 17) := by kernel_rfl
abbrev EZ : Env := E13 checkM growM invM isM
theorem runs13 (n : Int) (a b x : Mk) (l : List Int) (hl : l.length ≤ 65536) (ha : l.length ≤ a.2.2.length) (hb : l.length ≤ b.2.2.length) : ∀ (k i : Nat), i + k = l.length → cmpK l a.2.2 b.2.2 k i = true →
    Runs EZ 0 (loopAt Try.f13 0) (st13 n a b x l l.length i) (.exit 0) (mk 117 [(5, iv n), (8, bM b), (10, bM x)]) := by
  intro k
  induction k with
  | zero =>
    intro i hi _
    refine .stop ?_ (by simp)
    rw [b13, decide_eq_false (by omega)]
    rfl
  | succ k ih =>
    intro i hi hc
    simp only [cmpK, Bool.and_eq_true, decide_eq_true_eq] at hc
    have hbd := b13 checkM growM invM isM n a b x l l.length i
    rw [decide_eq_true (by omega : (i : Int) < l.length), decide_eq_true (by omega : (0 : Int) ≤ i), decide_eq_true (by omega : (i : Int) < a.2.2.length), decide_eq_true (by omega : (i : Int) < b.2.2.length), Int.toNat_natCast, decide_eq_false (by omega : ¬ a.2.2.getD i 0 < l.getD i 0), decide_eq_false (by omega : ¬ b.2.2.getD i 0 > l.getD i 0),
      W_small (n := (i : Int) + 1) (by omega) (by omega)] at hbd
    exact .step hbd (ih (i + 1) (by omega) hc.2)
theorem loop13 : LoopOk EZ 0 (loopAt Try.f13 0) := by
  intro st R K z h
  obtain ⟨hn, h⟩ := req_some h
  obtain ⟨n, e0, h⟩ := gI_some h
  obtain ⟨a, e1, h⟩ := gM_some h
  obtain ⟨b, e2, h⟩ := gM_some h
  obtain ⟨x, e3, h⟩ := gM_some h
  obtain ⟨l, e4, h⟩ := gL_some h
  obtain ⟨k, e5, h⟩ := gI_some h
  obtain ⟨i, e6, h⟩ := gI_some h
  obtain ⟨hc, h⟩ := req_some h
  simp only [Bool.and_eq_true, decide_eq_true_eq] at hc
  obtain ⟨⟨⟨⟨⟨h1, h2⟩, h3⟩, h4⟩, h5⟩, h6⟩ := hc
  rw [keep_mk (of_decide_eq_true hn)]
  have e := runs13 n a b x l h3 h4 h5 l.length 0 (by omega) h6
  have es : mk 117 ((EZ.lv 0).map fun i => (i, getS (keep (EZ.lv 0) st) i)) = st13 n a b x l l.length (0 : Nat) := by
    show mk 117 [(5, getS (keep (EZ.lv 0) st) 5), (6, getS (keep (EZ.lv 0) st) 6), (8, getS (keep (EZ.lv 0) st) 8), (10, getS (keep (EZ.lv 0) st) 10), (74, getS (keep (EZ.lv 0) st) 74), (75, getS (keep (EZ.lv 0) st) 75), (76, getS (keep (EZ.lv 0) st) 76)] = _
    rw [e0, e1, e2, e3, e4, e5, e6, h1, h2]
    rfl
  rw [es]
  exact ⟨_, _, e, h⟩
theorem tree13_true (m : Mk) {n : Int} (hn : 0 ≤ n ∧ n ≤ 16) : tree13 checkM growM invM isM m n = ob true := by
  obtain ⟨w, h, l⟩ := m
  unfold tree13
  rw [W_small (n := 0 - n) (by omega) (by omega)]
  by_cases c1 : checkM (w, h, l) = 0
  rotate_left
  · rw [bne_iff_ne.mpr c1]; rfl
  have g := good_of c1
  generalize hN : w.toNat * h.toNat = N at g
  have hle := g.le
  have hmx : mx (0 - n) (0 - (0 - n)) = mx n (0 - n) := by unfold mx; split <;> split <;> omega
  have hr : 0 ≤ mx n (0 - n) := by unfold mx; split <;> omega
  have gi := g.seq (v := fun k => 65535 - l.getD k 0) fun j hj => by have := g.get hj; omega
  have gy := gi.seq (v := growS (w, h, seqL (fun k => 65535 - l.getD k 0) N 0) n w.toNat) fun j _ => gi.growU n j
  have e1 : seqL (fun k => 65535 - (seqL (growS (w, h, seqL (fun k => 65535 - l.getD k 0) N 0) n w.toNat) N 0).getD k 0) N 0 = seqL (growS (w, h, l) (0 - n) w.toNat) N 0 := by
    refine seqL_congr N 0 fun j _ hj => ?_
    rw [seqL_get _ N 0 j (by omega), Nat.zero_add]
    have ha := g.at (k := j) (by omega)
    unfold growS
    rw [hmx, growV_dual g.dual hr (x := ((j % w.toNat : Nat) : Int)) (y := ((j / w.toNat : Nat) : Int)) ⟨Int.natCast_nonneg _, by simp only; omega⟩ ⟨Int.natCast_nonneg _, by have := ha.2.1; have q := Int.ofNat_lt.mpr this; rw [Int.toNat_of_nonneg g.size.2.2.1] at q; exact q⟩]
    omega
  have e2 : cmpK l (seqL (growS (w, h, l) n w.toNat) N 0) (seqL (growS (w, h, l) (0 - n) w.toNat) N 0) N 0 = true := cmpK_of _ _ _ N 0 fun j _ hj => by
    have ha := g.at (k := j) (by omega)
    rw [seqL_get _ N 0 j (by omega), seqL_get _ N 0 j (by omega), Nat.zero_add, ← ha.2.2]
    exact ⟨rowsW_up hn.1 _ _ _, rowsW_down (by omega) _ _ _⟩
  rw [c1, g.grow (by omega), g.grow (n := 0 - n) (by omega), g.inv]
  simp only
  rw [gi.grow (by omega)]
  simp only
  rw [gy.inv, e1, g.len, seqL_len, seqL_len, e2, gl_ok (by rw [seqL_len]; exact hle), isM_self, decide_eq_true hle, decide_eq_true (Nat.le_refl N)]
  simp
@[reducible] def nMU (m : Mk × Int) : List AV := [mv m.1, iw .u8 m.2]
def dMU : List AV → Option (Mk × Int)
  | [.rv (.agg [.int .i64 a, .int .i64 b, .sl none (.ints l)]), .rv (.sc (.int .u8 x))] => some ((a, b, l), x)
  | _ => none
theorem hMU {us : List AV} {a} (h : dMU us = some a) : us = nMU a := by unfold dMU at h; split at h <;> cases h; rfl
theorem g13 : ∀ f, Meets Try.prog f (EZ.sp f) := eg_cons m16 (eg_cons m30 (eg_cons m34 (eg_cons m44 (eg_cons m41 eg_nil))))
theorem m13 : Meets Try.prog 13 (gate (ps dMU fun a => decide (0 ≤ a.2 ∧ a.2 ≤ 255)) (sp dMU fun _ => bw true)) := mG (rdL (e := EZ) rfl g13 (fn := Try.f13) (k := 2) (by kernel_rfl) (by kernel_rfl) (of_decide_eq_true (by kernel_rfl)) (show loopsOf Try.f13 = [(0, loopAt Try.f13 0)] by kernel_rfl) (fun p hp => by cases List.mem_singleton.mp hp; exact loop13)) (fun _ _ => hMU) (fun _ => ⟨rfl, Nat.le_refl _⟩)
  fun ⟨⟨a, b, l⟩, u⟩ hp => by
    have hp := of_decide_eq_true hp
    simp only at hp
    refine (t13 checkM growM invM isM a b l u).trans (tree13_true _ ?_)
    rw [W_small (n := u) (by omega) (by omega)]
    have h1 := Int.tmod_nonneg (a := u) 17 (by omega)
    have h2 := Int.tmod_lt_of_pos u (show (0 : Int) < 17 by decide)
    omega
theorem hS13 {a b : Int} {l : List Int} {u : Int} (h : (Lit.int .u8 u).wf = true) : gate (ps dMU fun a => decide (0 ≤ a.2 ∧ a.2 ≤ 255)) (sp dMU fun _ => bw true) [mk3 a b l, iw .u8 u] = some (bw true, []) := by
  have h' : (decide (IntKind.u8.min ≤ u) && decide (u ≤ IntKind.u8.max)) = true := h
  simp only [Bool.and_eq_true, decide_eq_true_eq] at h'
  have h2 : 0 ≤ u ∧ u ≤ 255 := h'
  show (bif decide (0 ≤ u ∧ u ≤ 255) then some (bw true, []) else none) = _
  rw [decide_eq_true h2]
  rfl
end Go.Proofs.Ytkeildnpemiacaa.Ev

