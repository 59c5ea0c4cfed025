/- The law of round masks: its loop, and that it answers true. Conditions: none. Printed by gen.py of this session. -/
import Derived.Test.YtkeildnpemiacaaNa
import Derived.Test.YtkeildnpemiacaaMf
namespace Go.Proofs.Ytkeildnpemiacaa.Ev
open Go.Proofs
set_option linter.unusedVariables false
set_option linter.unusedSimpArgs false
set_option maxRecDepth 100000
set_option maxHeartbeats 1000000

def symR (A B : Nat) (l : List Int) : Nat → Nat → Bool
  | 0, _ => true
  | k + 1, i => decide (0 ≤ l.getD i 0 ∧ l.getD i 0 ≤ 65535) && decide (l.getD i 0 = l.getD (i / A * A + (A - 1 - i % A)) 0) && decide (l.getD i 0 = l.getD ((B - 1 - i / A) * A + i % A) 0) && symR A B l k (i + 1)
def sumV (l : List Int) : Nat → Nat → Int
  | 0, _ => 0
  | k + 1, i => l.getD i 0 + sumV l k (i + 1)
def lp10 (st : St) (R : Type) (K : Ex → St → Option R) : Option R := req (decide (st.length = 129)) (gI st 5 fun a => gI st 6 fun b => gM st 7 fun m => gI st 9 fun s => gL st 59 fun l => gI st 60 fun n => gI st 61 fun i =>
  req (decide (i = 0) && decide (n = l.length) && decide (l = m.2.2) && decide (s = 0) && decide (1 ≤ a ∧ a ≤ 24 ∧ 1 ≤ b ∧ b ≤ 24 ∧ l.length = a.toNat * b.toNat) && symR a.toNat b.toNat l l.length 0) (K (.exit 0) (mk 129 [(5, iv a), (6, iv b), (9, iv (sumV l l.length 0))])))
def L10 (el : Int → Int → Q → Mk × Int) : List Entry := [(16, pT d0, sp d0 fun _ => bw true), (28, pT dIIQ, sp dIIQ fun a => mev (el a.1 a.2.1 a.2.2))]
def E10 (el : Int → Int → Q → Mk × Int) : Env := { EG (L10 el) with lv := fun _ => [5, 6, 7, 9, 59, 60, 61], lx := fun _ => [4, 5, 6, 9], lp := fun _ => lp10 }
def st10 (a b : Int) (m : Mk) (s : Int) (l : List Int) (n i : Int) : St := mk 129 [(5, iv a), (6, iv b), (7, bM m), (9, iv s), (59, isv l), (60, iv n), (61, iv i)]
def xx10 (a b s : Int) : Option (Ex × St) := some (.ret, mk 129 [(4, bw false), (5, iv a), (6, iv b), (9, iv s)])
theorem b10 (el : Int → Int → Q → Mk × Int) (a b : Int) (m : Mk) (s : Int) (l : List Int) (n i : Int) : evalCode (E10 el) (loopAt Try.f10 0) 0 (st10 a b m s l n i) (kp (E10 el) 0) = bif decide (i < n) then
    bif decide (0 ≤ i) && decide (i < (l.length : Int)) then bif decide (a = 0) then none else bif decide (a = 0) then none else bif decide (l.getD i.toNat 0 < 0) then xx10 a b s else bif decide (l.getD i.toNat 0 > 65535) then xx10 a b s else
    bif decide (0 ≤ W (W (W (W (W (i.tdiv a) * a) + a) - 1) - i.tmod a)) && decide (W (W (W (W (W (i.tdiv a) * a) + a) - 1) - i.tmod a) < (m.2.2.length : Int)) then
    bif l.getD i.toNat 0 != m.2.2.getD (W (W (W (W (W (i.tdiv a) * a) + a) - 1) - i.tmod a)).toNat 0 then xx10 a b s else
    bif decide (0 ≤ W (W (W (W (b - 1) - W (i.tdiv a)) * a) + i.tmod a)) && decide (W (W (W (W (b - 1) - W (i.tdiv a)) * a) + i.tmod a) < (m.2.2.length : Int)) then
    bif l.getD i.toNat 0 != m.2.2.getD (W (W (W (W (b - 1) - W (i.tdiv a)) * a) + i.tmod a)).toNat 0 then xx10 a b s else
      some (.normal, st10 a b m (W (s + l.getD i.toNat 0)) l n (W (i + 1))) else none else none else none
    else some (.exit 0, mk 129 [(5, iv a), (6, iv b), (9, iv s)]) := by kernel_rfl
def tree10 (el : Int → Int → Q → Mk × Int) (a b : Int) : Option (AV × List AV) :=
  bif (el a b (0, 0, a, b)).2 != 0 then ob false else bif (el a b (0, 0, a, b)).1.1 != a then ob false else bif (el a b (0, 0, a, b)).1.2.1 != b then ob false else bif ((el a b (0, 0, a, b)).1.2.2.length : Int) != W (a * b) then ob false else
  bif decide ((0 : Int) = 0) && decide (((el a b (0, 0, a, b)).1.2.2.length : Int) = (el a b (0, 0, a, b)).1.2.2.length) && decide ((el a b (0, 0, a, b)).1.2.2 = (el a b (0, 0, a, b)).1.2.2) && decide ((0 : Int) = 0) &&
      decide (1 ≤ a ∧ a ≤ 24 ∧ 1 ≤ b ∧ b ≤ 24 ∧ (el a b (0, 0, a, b)).1.2.2.length = a.toNat * b.toNat) && symR a.toNat b.toNat (el a b (0, 0, a, b)).1.2.2 (el a b (0, 0, a, b)).1.2.2.length 0 then
    bif decide (sumV (el a b (0, 0, a, b)).1.2.2 (el a b (0, 0, a, b)).1.2.2.length 0 < W (W (a * b) * 65535)) then ob (decide (W (2 * sumV (el a b (0, 0, a, b)).1.2.2 (el a b (0, 0, a, b)).1.2.2.length 0) > W (W (a * b) * 65535))) else ob false
  else none
theorem t10 (el : Int → Int → Q → Mk × Int) (w h : Int) : evalF (E10 el) Try.f10 [iw .u8 w, iw .u8 h] = tree10 el (W (1 + (W w).tmod 24)) (W (1 + (W h).tmod 24)) := by kernel_rfl
theorem runs10 (el : Int → Int → Q → Mk × Int) (A B : Nat) (m : Mk) (hA : 1 ≤ A ∧ A ≤ 24) (hB : 1 ≤ B ∧ B ≤ 24) (hl : m.2.2.length = A * B) : ∀ (k i : Nat) (s : Int), i + k = m.2.2.length → 0 ≤ s → s ≤ 65535 * i → symR A B m.2.2 k i = true →
    Runs (E10 el) 0 (loopAt Try.f10 0) (st10 A B m s m.2.2 m.2.2.length i) (.exit 0) (mk 129 [(5, iv A), (6, iv B), (9, iv (s + sumV m.2.2 k i))]) := by
  intro k
  have hAB : A * B ≤ 24 * 24 := Nat.mul_le_mul hA.2 hB.2
  induction k with
  | zero =>
    intro i s hi _ _ _
    refine .stop ?_ (by simp)
    rw [b10, decide_eq_false (by omega), sumV, Int.add_zero]
    rfl
  | succ k ih =>
    intro i s hi h0 h1 hc
    simp only [symR, Bool.and_eq_true, decide_eq_true_eq] at hc
    obtain ⟨⟨⟨c1, c2⟩, c3⟩, c4⟩ := hc
    have hbd := b10 el A B m s m.2.2 m.2.2.length i
    have hd : i / A < B := Nat.div_lt_of_lt_mul (by omega)
    have hm : i % A < A := Nat.mod_lt _ (by omega)
    have e1 : (i : Int).tdiv A = ((i / A : Nat) : Int) := by rw [Int.tdiv_eq_ediv_of_nonneg (by omega)]; rfl
    have e2 : (i : Int).tmod A = ((i % A : Nat) : Int) := by rw [Int.tmod_eq_emod_of_nonneg (by omega)]; rfl
    generalize i / A = Y at *
    generalize i % A = X at *
    have i1 := idx_nat (x := A - 1 - X) (y := Y) (w := A) (h := B) (by omega) hd
    have i2 := idx_nat (x := X) (y := B - 1 - Y) (w := A) (h := B) hm (by omega)
    have f1 : (Y : Int) * A + A - 1 - (X : Int) = ((Y * A + (A - 1 - X) : Nat) : Int) := by rw [Int.natCast_add, Int.natCast_mul]; omega
    have f2 : ((B : Int) - 1 - (Y : Int)) * A + (X : Int) = (((B - 1 - Y) * A + X : Nat) : Int) := by
      rw [Int.natCast_add, Int.natCast_mul, show ((B - 1 - Y : Nat) : Int) = (B : Int) - 1 - (Y : Int) by omega]
    have g1 : ((Y * A : Nat) : Int) = (Y : Int) * A := Int.natCast_mul _ _
    have g2 : (((B - 1 - Y) * A : Nat) : Int) = ((B : Int) - 1 - (Y : Int)) * A := by rw [Int.natCast_mul, show ((B - 1 - Y : Nat) : Int) = (B : Int) - 1 - (Y : Int) by omega]
    rw [e1, e2, W_small (n := (Y : Int)) (by omega) (by omega), W_small (n := (Y : Int) * A) (by omega) (by omega), W_small (n := (Y : Int) * A + A) (by omega) (by omega), W_small (n := (Y : Int) * A + A - 1) (by omega) (by omega), W_small (n := (Y : Int) * A + A - 1 - (X : Int)) (by omega) (by omega),
      W_small (n := (B : Int) - 1) (by omega) (by omega), W_small (n := (B : Int) - 1 - (Y : Int)) (by omega) (by omega), W_small (n := ((B : Int) - 1 - (Y : Int)) * A) (by omega) (by omega), W_small (n := ((B : Int) - 1 - (Y : Int)) * A + (X : Int)) (by omega) (by omega), f1, f2,
      decide_eq_true (by omega : (i : Int) < m.2.2.length), decide_eq_true (by omega : (0 : Int) ≤ i), decide_eq_false (by omega : ¬ (A : Int) = 0), Int.toNat_natCast, Int.toNat_natCast, Int.toNat_natCast, decide_eq_false (by omega : ¬ m.2.2.getD i 0 < 0), decide_eq_false (by omega : ¬ m.2.2.getD i 0 > 65535),
      decide_eq_true (Int.natCast_nonneg (Y * A + (A - 1 - X))), decide_eq_true (Int.natCast_nonneg ((B - 1 - Y) * A + X)), decide_eq_true (Int.ofNat_lt.mpr (hl ▸ i1)), decide_eq_true (Int.ofNat_lt.mpr (hl ▸ i2)), bne_eq_false_iff_eq.mpr c2, bne_eq_false_iff_eq.mpr c3,
      W_small (n := s + m.2.2.getD i 0) (by omega) (by omega), W_small (n := (i : Int) + 1) (by omega) (by omega)] at hbd
    have := ih (i + 1) (s + m.2.2.getD i 0) (by omega) (by omega) (by omega) c4
    rw [sumV, ← Int.add_assoc]
    exact .step hbd this
theorem loop10 (el : Int → Int → Q → Mk × Int) : LoopOk (E10 el) 0 (loopAt Try.f10 0) := by
  intro st R K z h
  obtain ⟨hn, h⟩ := req_some h
  obtain ⟨a, e0, h⟩ := gI_some h
  obtain ⟨b, e1, h⟩ := gI_some h
  obtain ⟨m, e2, h⟩ := gM_some h
  obtain ⟨s, e3, h⟩ := gI_some h
  obtain ⟨l, e4, h⟩ := gL_some h
  obtain ⟨n, e5, h⟩ := gI_some h
  obtain ⟨i, e6, h⟩ := gI_some h
  obtain ⟨hc, h⟩ := req_some h
  simp only [Bool.and_eq_true, decide_eq_true_eq] at hc
  obtain ⟨⟨⟨⟨⟨h1, h2⟩, h3⟩, h4⟩, h5⟩, h6⟩ := hc
  subst h3
  rw [keep_mk (of_decide_eq_true hn)]
  have ea : ((a.toNat : Nat) : Int) = a := Int.toNat_of_nonneg (by omega)
  have eb : ((b.toNat : Nat) : Int) = b := Int.toNat_of_nonneg (by omega)
  have e := runs10 el a.toNat b.toNat m (by omega) (by omega) (by omega) m.2.2.length 0 0 (by omega) (Int.le_refl _) (by omega) h6
  rw [ea, eb, Int.zero_add] at e
  have es : mk 129 (((E10 el).lv 0).map fun i => (i, getS (keep ((E10 el).lv 0) st) i)) = st10 a b m 0 m.2.2 m.2.2.length (0 : Nat) := by
    show mk 129 [(5, getS (keep ((E10 el).lv 0) st) 5), (6, getS (keep ((E10 el).lv 0) st) 6), (7, getS (keep ((E10 el).lv 0) st) 7), (9, getS (keep ((E10 el).lv 0) st) 9), (59, getS (keep ((E10 el).lv 0) st) 59), (60, getS (keep ((E10 el).lv 0) st) 60), (61, getS (keep ((E10 el).lv 0) st) 61)] = _
    rw [e0, e1, e2, e3, e4, e5, e6, h1, h2, h4]
    rfl
  rw [es]
  exact ⟨_, _, e, h⟩
/-! ### The values -/
def vN (A B x y : Nat) : Int := divP (65535 * cN A B x y) 256
theorem vN_ok (A B x y : Nat) : 0 ≤ vN A B x y ∧ vN A B x y ≤ 65535 ∧ 131070 * cN A B x y - 256 ≤ 512 * vN A B x y := by
  have := cN_le A B x y
  unfold vN divP
  omega
theorem vN_corner {A B : Nat} (hA : 1 ≤ A) (hB : 1 ≤ B) : vN A B 0 0 + 1 ≤ 65535 := by
  have := cN_corner hA hB
  unfold vN divP
  omega
theorem ellG_vN {A B x y : Nat} (hA : 1 ≤ A ∧ A ≤ 24) (hB : 1 ≤ B ∧ B ≤ 24) (hx : x < A) (hy : y < B) : ellG (0, 0, (A : Int), (B : Int)) x y = vN A B x y := by
  have hv : valid (0, 0, (A : Int), (B : Int)) = true := (valid_iff _ _ _ _).mpr (by omega)
  have hk : known (0, 0, (A : Int), (B : Int)) = (0, 0, (A : Int), (B : Int)) := by unfold known; rw [if_pos hv]
  have he : empty (0, 0, (A : Int), (B : Int)) = false := by
    unfold empty
    rw [hk, Bool.or_eq_false_iff]
    exact ⟨beq_eq_false_iff_ne.mpr (by simp only; omega), beq_eq_false_iff_ne.mpr (by simp only; omega)⟩
  have hh : has (0, 0, (A : Int), (B : Int)) (x, y) = true := by
    unfold has
    rw [hk]
    exact decide_eq_true (by simp only; omega)
  unfold ellG ellV
  rw [he, hh, cnt_cN hA hB hx hy]
  rfl
def lN (A B : Nat) : List Int := seqL (fun k => vN A B (k % A) (k / A)) (A * B) 0
theorem rows_lN {A B : Nat} (hA : 1 ≤ A ∧ A ≤ 24) (hB : 1 ≤ B ∧ B ≤ 24) : rowsG (ellG (0, 0, (A : Int), (B : Int))) A B 0 = lN A B := by
  have := rowsG_seq (fun k => vN A B (k % A) (k / A)) (ellG (0, 0, (A : Int), (B : Int))) A B (fun x y hx hy => by
    rw [ellG_vN hA hB hx hy, show (y * A + x) % A = x by rw [Nat.mul_comm, Nat.mul_add_mod, Nat.mod_eq_of_lt hx], show (y * A + x) / A = y by rw [Nat.mul_comm, Nat.mul_add_div (by omega), Nat.div_eq_of_lt hx, Nat.add_zero]]) B 0 (by omega)
  rw [Nat.zero_mul] at this
  exact this
theorem lN_get {A B i : Nat} (hi : i < A * B) : (lN A B).getD i 0 = vN A B (i % A) (i / A) := by
  unfold lN
  rw [seqL_get _ _ 0 i hi, Nat.zero_add]
theorem sym_lN {A B : Nat} (hA : 1 ≤ A) (hB : 1 ≤ B) : ∀ (k i : Nat), i + k = A * B → symR A B (lN A B) k i = true
  | 0, _, _ => rfl
  | k + 1, i, h => by
    have hd : i / A < B := Nat.div_lt_of_lt_mul (by omega)
    have hm : i % A < A := Nat.mod_lt _ (by omega)
    generalize hY : i / A = Y at *
    generalize hX : i % A = X at *
    have i1 := idx_nat (x := A - 1 - X) (y := Y) (w := A) (h := B) (by omega) hd
    have i2 := idx_nat (x := X) (y := B - 1 - Y) (w := A) (h := B) hm (by omega)
    have v := vN_ok A B (X) (Y)
    have m1 : ∀ x y : Nat, x < A → (y * A + x) % A = x := fun x y hx => by rw [Nat.mul_comm, Nat.mul_add_mod, Nat.mod_eq_of_lt hx]
    have m2 : ∀ x y : Nat, x < A → (y * A + x) / A = y := fun x y hx => by rw [Nat.mul_comm, Nat.mul_add_div (by omega), Nat.div_eq_of_lt hx, Nat.add_zero]
    rw [symR, hY, hX, lN_get (by omega), lN_get i1, lN_get i2, hY, hX, sym_lN hA hB k (i + 1) (by omega), m1 _ _ (by omega), m2 _ _ (by omega), m1 _ _ hm, m2 _ _ hm]
    have s1 : vN A B (X) (Y) = vN A B (A - 1 - X) (Y) := by unfold vN; rw [cN_mx hm]
    have s2 : vN A B (X) (Y) = vN A B (X) (B - 1 - Y) := by unfold vN; rw [cN_my hd]
    rw [decide_eq_true (by omega : 0 ≤ vN A B (X) (Y) ∧ vN A B (X) (Y) ≤ 65535), decide_eq_true s1, decide_eq_true s2]
    rfl
theorem sumV_H (l : List Int) : ∀ (k i : Nat), sumV l k i = H (fun t => l.getD t 0) k i
  | 0, _ => rfl
  | k + 1, i => by rw [sumV, H, sumV_H l k (i + 1)]
theorem sum_lN {A B : Nat} (hA : 1 ≤ A ∧ A ≤ 24) (hB : 1 ≤ B ∧ B ≤ 24) : 0 ≤ sumV (lN A B) (A * B) 0 ∧ sumV (lN A B) (A * B) 0 < (A : Int) * B * 65535 ∧ 2 * sumV (lN A B) (A * B) 0 > (A : Int) * B * 65535 := by
  have e : sumV (lN A B) (A * B) 0 = H (fun k => vN A B (k % A) (k / A)) (A * B) 0 := by
    rw [sumV_H]
    exact H_congr _ _ fun t _ ht => lN_get (by omega)
  have c : ((A * B : Nat) : Int) = (A : Int) * B := Int.natCast_mul _ _
  have p : 1 * 1 ≤ A * B := Nat.mul_le_mul hA.1 hB.1
  have p2 : A * B ≤ 24 * 24 := Nat.mul_le_mul hA.2 hB.2
  have h0 := H_ge (f := fun k => vN A B (k % A) (k / A)) (c := 0) (A * B) 0 fun t _ _ => (vN_ok _ _ _ _).1
  have h1 := H_le_at (f := fun k => vN A B (k % A) (k / A)) (c := 65535) (d := 1) 0 (by show vN A B (0 % A) (0 / A) + 1 ≤ 65535; rw [Nat.zero_mod, Nat.zero_div]; exact vN_corner hA.1 hB.1) (A * B) 0 (fun t _ _ => (vN_ok _ _ _ _).2.1) (Nat.le_refl _) (by omega)
  have h2 := H_lin (c := fun k => cN A B (k % A) (k / A)) (v := fun k => vN A B (k % A) (k / A)) (A * B) 0 fun t _ _ => (vN_ok _ _ _ _).2.2
  rw [cN_sum hA.1] at h2
  have h3 := tN_ge hA.1 hB.1
  rw [e]
  omega
theorem el_lN {A B : Nat} (hA : 1 ≤ A ∧ A ≤ 24) (hB : 1 ≤ B ∧ B ≤ 24) : ellM A B (0, 0, (A : Int), (B : Int)) = (((A : Int), (B : Int), lN A B), 0) := by
  have hv : valid (0, 0, (A : Int), (B : Int)) = true := (valid_iff _ _ _ _).mpr (by omega)
  unfold ellM
  rw [if_neg (fun h => h ((sizeE_iff _ _).mpr (by omega))), if_neg (by
    intro h
    rcases h with h | h | h
    · rw [hv] at h; cases h
    · simp only at h; omega
    · simp only at h; omega), Int.toNat_natCast, Int.toNat_natCast, rows_lN hA hB]
theorem tree10_true {A B : Nat} (hA : 1 ≤ A ∧ A ≤ 24) (hB : 1 ≤ B ∧ B ≤ 24) : tree10 ellM A B = ob true := by
  unfold tree10
  rw [el_lN hA hB]
  have hl : (lN A B).length = A * B := seqL_len _ _ _
  have p2 : A * B ≤ 24 * 24 := Nat.mul_le_mul hA.2 hB.2
  have c : ((A * B : Nat) : Int) = (A : Int) * B := Int.natCast_mul _ _
  have s := sum_lN hA hB
  simp only
  rw [hl, W_small (n := (A : Int) * B) (by omega) (by omega), c, bne_self_eq_false, bne_self_eq_false, bne_self_eq_false, bne_self_eq_false, W_small (n := (A : Int) * B * 65535) (by omega) (by omega), W_small (n := 2 * sumV (lN A B) (A * B) 0) (by omega) (by omega), Int.toNat_natCast, Int.toNat_natCast, sym_lN hA.1 hB.1 _ _ (by omega),
    decide_eq_true (by omega : 1 ≤ (A : Int) ∧ (A : Int) ≤ 24 ∧ 1 ≤ (B : Int) ∧ (B : Int) ≤ 24 ∧ A * B = A * B), decide_eq_true s.2.1, decide_eq_true s.2.2]
  simp only [decide_true, Bool.and_self, cond_true, cond_false]
/-! ### The law -/
@[reducible] def nRo (a : Int × Int) : List AV := [iw .u8 a.1, iw .u8 a.2]
def dRo : List AV → Option (Int × Int)
  | [.rv (.sc (.int .u8 a)), .rv (.sc (.int .u8 b))] => some (a, b)
  | _ => none
theorem hRo {us : List AV} {a} (h : dRo us = some a) : us = nRo a := by unfold dRo at h; split at h <;> cases h; rfl
def okRo (a : Int × Int) : Bool := decide (0 ≤ a.1 ∧ a.1 ≤ 255 ∧ 0 ≤ a.2 ∧ a.2 ≤ 255)
theorem m10 : Meets Try.prog 10 (gate (ps dRo okRo) (sp dRo fun _ => bw true)) := mG (rdL (e := E10 ellM) rfl (eg_cons m16 (eg_cons m28 eg_nil)) (fn := Try.f10) (k := 2) (by kernel_rfl) (by kernel_rfl) (of_decide_eq_true (by kernel_rfl)) (show loopsOf Try.f10 = [(0, loopAt Try.f10 0)] by kernel_rfl) (fun p hp => by cases List.mem_singleton.mp hp; exact loop10 ellM)) (fun _ _ => hRo) (fun _ => ⟨rfl, Nat.le_refl _⟩)
  fun ⟨a, b⟩ hp => by
    have hp := of_decide_eq_true hp
    simp only at hp
    refine (t10 ellM a b).trans ?_
    have h1 : 0 ≤ a.tmod 24 ∧ a.tmod 24 < 24 := ⟨Int.tmod_nonneg _ hp.1, Int.tmod_lt_of_pos a (by decide)⟩
    have h2 : 0 ≤ b.tmod 24 ∧ b.tmod 24 < 24 := ⟨Int.tmod_nonneg _ hp.2.2.1, Int.tmod_lt_of_pos b (by decide)⟩
    rw [W_small (n := a) (by omega) (by omega), W_small (n := b) (by omega) (by omega), W_small (n := 1 + a.tmod 24) (by omega) (by omega), W_small (n := 1 + b.tmod 24) (by omega) (by omega),
      show 1 + a.tmod 24 = (((1 + a.tmod 24).toNat : Nat) : Int) by omega, show 1 + b.tmod 24 = (((1 + b.tmod 24).toNat : Nat) : Int) by omega]
    exact tree10_true (by omega) (by omega)
theorem hS10 {a b : Int} (ha : (Lit.int .u8 a).wf = true) (hb : (Lit.int .u8 b).wf = true) : gate (ps dRo okRo) (sp dRo fun _ => bw true) [iw .u8 a, iw .u8 b] = some (bw true, []) := by
  have k8 : ∀ {u : Int}, (Lit.int .u8 u).wf = true → 0 ≤ u ∧ u ≤ 255 := fun {u} h => by
    have h' : (decide (IntKind.u8.min ≤ u) && decide (u ≤ IntKind.u8.max)) = true := h
    simp only [Bool.and_eq_true, decide_eq_true_eq] at h'
    exact h'
  have ha := k8 ha
  have hb := k8 hb
  show (bif okRo (a, b) then some (bw true, []) else none) = _
  rw [show okRo (a, b) = true from decide_eq_true (by simp only; omega)]
  rfl
end Go.Proofs.Ytkeildnpemiacaa.Ev
