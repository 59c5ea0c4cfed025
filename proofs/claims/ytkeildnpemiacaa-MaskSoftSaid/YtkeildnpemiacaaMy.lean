/- Soft edges, the reference's: the code. Conditions: none. Printed by gen.py of this session. -/
import Derived.Test.YtkeildnpemiacaaMx
namespace Go.Proofs.Ytkeildnpemiacaa.Ev
open Go.Proofs
set_option linter.unusedVariables false
set_option linter.unusedSimpArgs false
set_option maxRecDepth 100000
set_option maxHeartbeats 1000000

def okH (m : Mk) (l : List Int) (r x y : Int) : Bool := okSize m && decide (0 ≤ r ∧ r ≤ 7 ∧ (l.length : Int) = 2 * r + 1 ∧ 0 ≤ x ∧ x < 256 ∧ 0 ≤ y ∧ y < 256)
def okB (ck : Mk → Int) (m : Mk) (l : List Int) (r a : Int) : Bool := decide (ck m = 0) && decide (0 ≤ r ∧ r ≤ 7) && decide (l = binL (2 * r)) && decide (a = sh4 r)
def refF (m : Mk) (l : List Int) (r a x y : Int) : Int := divP (sumF m l r x y) a
def lp33k (st : St) (R : Type) (K : Ex → St → Option R) : Option R := req (decide (st.length = 114)) (gI st 1 fun r => gM st 2 fun m => gB st 4 fun z => gL st 7 fun l => gI st 8 fun a => gI st 9 fun k =>
  req (decide (a = 1) && decide (k = 0) && decide (0 ≤ r ∧ r ≤ 7)) (K (.exit 0) (mk 114 [(1, iv r), (2, bM m), (4, bB z), (7, isv l), (8, iv (sh4 r))])))
def lp33i (st : St) (R : Type) (K : Ex → St → Option R) : Option R := req (decide (st.length = 114)) (gI st 1 fun r => gM st 2 fun m => gB st 4 fun z => gL st 7 fun l => gI st 8 fun a => gB st 10 fun t => gI st 11 fun y => gI st 12 fun x => gI st 13 fun s => gI st 14 fun j => gI st 15 fun i =>
  req (okH m l r x y && decide (0 - r ≤ j ∧ j ≤ r) && decide (i = 0 - r)) (K (.exit 8) (mk 114 [(1, iv r), (2, bM m), (4, bB z), (7, isv l), (8, iv a), (10, bB t), (11, iv y), (12, iv x), (13, iv (rowF m l r x y j (side r) (0 - r) s)), (14, iv j)])))
def lp33j (st : St) (R : Type) (K : Ex → St → Option R) : Option R := req (decide (st.length = 114)) (gI st 1 fun r => gM st 2 fun m => gB st 4 fun z => gL st 7 fun l => gI st 8 fun a => gB st 10 fun t => gI st 11 fun y => gI st 12 fun x => gI st 13 fun s => gI st 14 fun j =>
  req (okH m l r x y && decide (j = 0 - r) && decide (s = 0)) (K (.exit 6) (mk 114 [(1, iv r), (2, bM m), (4, bB z), (7, isv l), (8, iv a), (10, bB t), (11, iv y), (12, iv x), (13, iv (sumF m l r x y))])))
def lp33x (ck : Mk → Int) (st : St) (R : Type) (K : Ex → St → Option R) : Option R := req (decide (st.length = 114)) (gI st 1 fun r => gM st 2 fun m => gB st 4 fun z => gL st 7 fun l => gI st 8 fun a => gB st 10 fun t => gI st 11 fun y => gI st 12 fun x =>
  req (okB ck m l r a && decide (0 ≤ y ∧ y < m.2.1) && decide (x = 0) && decide (t.2.2.length ≤ 65536)) (K (.exit 4) (mk 114 [(1, iv r), (2, bM m), (4, bB z), (7, isv l), (8, iv a), (10, bB (t.1, t.2.1, t.2.2 ++ rowG (refF m l r a) y m.1.toNat 0)), (11, iv y)])))
def lp33y (ck : Mk → Int) (st : St) (R : Type) (K : Ex → St → Option R) : Option R := req (decide (st.length = 114)) (gI st 1 fun r => gM st 2 fun m => gB st 4 fun z => gL st 7 fun l => gI st 8 fun a => gB st 10 fun t => gI st 11 fun y =>
  req (okB ck m l r a && decide (y = 0) && decide (t.2.2.length = 0)) (K (.exit 2) (mk 114 [(4, bB z), (10, bB (t.1, t.2.1, rowsG (refF m l r a) m.1.toNat m.2.1.toNat 0))])))
def L33 (ck : Mk → Int) : List Entry := [(31, pT dM, sp dM fun m => iv (ck m)), (73, ps dI even14, sp dI fun n => isv (binL n)), (53, pG, sG), (68, pD, sp dII fun a => iv (divP a.1 a.2))]
def E33 (ck : Mk → Int) : Env := { EG (L33 ck) with
  lv := fun id => match id with | 0 => [1, 2, 4, 7, 8, 9] | 2 => [1, 2, 4, 7, 8, 10, 11] | 4 => [1, 2, 4, 7, 8, 10, 11, 12] | 6 => [1, 2, 4, 7, 8, 10, 11, 12, 13, 14] | _ => [1, 2, 4, 7, 8, 10, 11, 12, 13, 14, 15],
  lx := fun id => match id with | 0 => [1, 2, 4, 7, 8] | 2 => [4, 10] | 4 => [1, 2, 4, 7, 8, 10, 11] | 6 => [1, 2, 4, 7, 8, 10, 11, 12, 13] | _ => [1, 2, 4, 7, 8, 10, 11, 12, 13, 14],
  lp := fun id => match id with | 0 => lp33k | 2 => lp33y ck | 4 => lp33x ck | 6 => lp33j | _ => lp33i }
def st33k (r : Int) (m z : Mk) (l : List Int) (a k : Int) : St := mk 114 [(1, iv r), (2, bM m), (4, bB z), (7, isv l), (8, iv a), (9, iv k)]
def st33y (r : Int) (m z : Mk) (l : List Int) (a : Int) (t : Mk) (y : Int) : St := mk 114 [(1, iv r), (2, bM m), (4, bB z), (7, isv l), (8, iv a), (10, bB t), (11, iv y)]
def st33x (r : Int) (m z : Mk) (l : List Int) (a : Int) (t : Mk) (y x : Int) : St := mk 114 [(1, iv r), (2, bM m), (4, bB z), (7, isv l), (8, iv a), (10, bB t), (11, iv y), (12, iv x)]
def st33j (r : Int) (m z : Mk) (l : List Int) (a : Int) (t : Mk) (y x s j : Int) : St := mk 114 [(1, iv r), (2, bM m), (4, bB z), (7, isv l), (8, iv a), (10, bB t), (11, iv y), (12, iv x), (13, iv s), (14, iv j)]
def st33i (r : Int) (m z : Mk) (l : List Int) (a : Int) (t : Mk) (y x s j i : Int) : St := mk 114 [(1, iv r), (2, bM m), (4, bB z), (7, isv l), (8, iv a), (10, bB t), (11, iv y), (12, iv x), (13, iv s), (14, iv j), (15, iv i)]
theorem b33i (ck : Mk → Int) (r : Int) (m z : Mk) (l : List Int) (a : Int) (t : Mk) (y x s j i : Int) : evalCode (E33 ck) (loopAt Try.f33 4) 8 (st33i r m z l a t y x s j i) (kp (E33 ck) 8) = bif decide (i ≤ r) then
    bif decide (0 ≤ W (r + i)) && decide (W (r + i) < (l.length : Int)) then bif decide (0 ≤ W (r + j)) && decide (W (r + j) < (l.length : Int)) then bif okSize m then
      some (.normal, st33i r m z l a t y x (stepF m l r x y j i s) j (W (i + 1))) else none else none else none
    else some (.exit 8, st33j r m z l a t y x s j) := by kernel_rfl
theorem b33j (ck : Mk → Int) (r : Int) (m z : Mk) (l : List Int) (a : Int) (t : Mk) (y x s j : Int) : evalCode (E33 ck) (loopAt Try.f33 3) 6 (st33j r m z l a t y x s j) (kp (E33 ck) 6) = bif decide (j ≤ r) then
    bif okH m l r x y && decide (0 - r ≤ j ∧ j ≤ r) && decide (W (0 - r) = 0 - r) then some (.normal, st33j r m z l a t y x (rowF m l r x y j (side r) (0 - r) s) (W (j + 1))) else none
    else some (.exit 6, mk 114 [(1, iv r), (2, bM m), (4, bB z), (7, isv l), (8, iv a), (10, bB t), (11, iv y), (12, iv x), (13, iv s)]) := by kernel_rfl
theorem b33x (ck : Mk → Int) (r : Int) (m z : Mk) (l : List Int) (a : Int) (t : Mk) (y x : Int) : evalCode (E33 ck) (loopAt Try.f33 2) 4 (st33x r m z l a t y x) (kp (E33 ck) 4) = bif decide (x < m.1) then
    bif okH m l r x y && decide (W (0 - r) = 0 - r) && decide ((0 : Int) = 0) then bif okD (sumF m l r x y) a then bif decide (0 < [refF m l r a x y].length) && decide ((t.2.2 ++ [refF m l r a x y]).length * 8 ≤ 140737488355328) then
      some (.normal, st33x r m z l a (t.1, t.2.1, t.2.2 ++ [refF m l r a x y]) y (W (x + 1))) else none else none else none
    else some (.exit 4, st33y r m z l a t y) := by kernel_rfl
theorem b33y (ck : Mk → Int) (r : Int) (m z : Mk) (l : List Int) (a : Int) (t : Mk) (y : Int) : evalCode (E33 ck) (loopAt Try.f33 1) 2 (st33y r m z l a t y) (kp (E33 ck) 2) = bif decide (y < m.2.1) then
    bif okB ck m l r a && decide (0 ≤ y ∧ y < m.2.1) && decide ((0 : Int) = 0) && decide (t.2.2.length ≤ 65536) then some (.normal, st33y r m z l a (t.1, t.2.1, t.2.2 ++ rowG (refF m l r a) y m.1.toNat 0) (W (y + 1))) else none
    else some (.exit 2, mk 114 [(4, bB z), (10, bB t)]) := by kernel_rfl
theorem b33k (ck : Mk → Int) (r : Int) (m z : Mk) (l : List Int) (a k : Int) : evalCode (E33 ck) (loopAt Try.f33 0) 0 (st33k r m z l a k) (kp (E33 ck) 0) = bif decide (k < W (4 * r)) then some (.normal, st33k r m z l (W (a * 2)) (W (k + 1)))
    else some (.exit 0, mk 114 [(1, iv r), (2, bM m), (4, bB z), (7, isv l), (8, iv a)]) := by kernel_rfl
theorem t33 (ck : Mk → Int) (a b : Int) (l : List Int) (r : Int) : evalF (E33 ck) Try.f33 [mk3 a b l, iv r] = bif ck (a, b, l) != 0 then omv (errM (ck (a, b, l))) else bif decide (r < 0) then omv (errM 2) else bif decide (r > 7) then omv (errM 2) else
    bif even14 (W (2 * r)) then bif decide ((1 : Int) = 1) && decide ((0 : Int) = 0) && decide (0 ≤ r ∧ r ≤ 7) then bif okB ck (a, b, l) (binL (W (2 * r))) r (sh4 r) && decide ((0 : Int) = 0) && decide ([].length (α := Int) = 0) then
      omv ((a, b, rowsG (refF (a, b, l) (binL (W (2 * r))) r (sh4 r)) a.toNat b.toNat 0), 0) else none else none else none := by kernel_rfl
theorem sh4_pow {r : Int} (h : 0 ≤ r ∧ r ≤ 7) : sh4 r = (2 : Int) ^ (4 * r).toNat := by
  rcases (show r = 0 ∨ r = 1 ∨ r = 2 ∨ r = 3 ∨ r = 4 ∨ r = 5 ∨ r = 6 ∨ r = 7 by omega) with h | h | h | h | h | h | h | h <;> subst h <;> decide +kernel
theorem pow28 {k : Nat} (h : k ≤ 28) : (1 : Int) ≤ 2 ^ k ∧ (2 : Int) ^ k ≤ 268435456 := by
  have a := Nat.pow_le_pow_right (n := 2) (by decide) h
  have b := Nat.two_pow_pos k
  have c : ((2 ^ k : Nat) : Int) = (2 : Int) ^ k := by rw [Int.natCast_pow]; rfl
  have : (2 : Nat) ^ 28 = 268435456 := by decide
  omega
theorem runs33k (ck : Mk → Int) (r : Int) (m z : Mk) (l : List Int) (hr : 0 ≤ r ∧ r ≤ 7) : ∀ (d k : Nat), (k : Int) + d = 4 * r →
    Runs (E33 ck) 0 (loopAt Try.f33 0) (st33k r m z l (2 ^ k) k) (.exit 0) (mk 114 [(1, iv r), (2, bM m), (4, bB z), (7, isv l), (8, iv (sh4 r))]) := by
  intro d
  induction d with
  | zero =>
    intro k hk
    refine .stop ?_ (by simp)
    rw [b33k, W_small (n := 4 * r) (by omega) (by omega), decide_eq_false (by omega), sh4_pow hr, show (4 * r).toNat = k by omega]
    rfl
  | succ d ih =>
    intro k hk
    have hbd := b33k ck r m z l (2 ^ k) k
    have p := pow28 (k := k) (by omega)
    rw [W_small (n := 4 * r) (by omega) (by omega), decide_eq_true (by omega), W_small (n := 2 ^ k * 2) (by omega) (by omega), W_small (n := (k : Int) + 1) (by omega) (by omega), ← Int.pow_succ] at hbd
    exact .step hbd (ih (k + 1) (by omega))
theorem okH_iff {m : Mk} {l : List Int} {r x y : Int} (h : okH m l r x y = true) : okSize m = true ∧ (0 ≤ r ∧ r ≤ 7 ∧ (l.length : Int) = 2 * r + 1 ∧ 0 ≤ x ∧ x < 256 ∧ 0 ≤ y ∧ y < 256) := by
  simp only [okH, Bool.and_eq_true, decide_eq_true_eq] at h
  exact h
theorem runs33i (ck : Mk → Int) (r : Int) (m z : Mk) (l : List Int) (a : Int) (t : Mk) (y x j : Int) (hg : okH m l r x y = true) (hj : 0 - r ≤ j ∧ j ≤ r) : ∀ (k : Nat) (i s : Int), i + k = r + 1 → 0 - r ≤ i →
    Runs (E33 ck) 8 (loopAt Try.f33 4) (st33i r m z l a t y x s j i) (.exit 8) (st33j r m z l a t y x (rowF m l r x y j k i s) j) := by
  obtain ⟨ho, hb⟩ := okH_iff hg
  intro k
  induction k with
  | zero =>
    intro i s hi _
    refine .stop ?_ (by simp)
    rw [b33i, decide_eq_false (by omega), rowF]
    rfl
  | succ k ih =>
    intro i s hi h0
    have hbd := b33i ck r m z l a t y x s j i
    rw [decide_eq_true (by omega : i ≤ r), W_small (n := r + i) (by omega) (by omega), W_small (n := r + j) (by omega) (by omega), W_small (n := i + 1) (by omega) (by omega), ho, decide_eq_true (by omega : 0 ≤ r + i), decide_eq_true (by omega : r + i < (l.length : Int)),
      decide_eq_true (by omega : 0 ≤ r + j), decide_eq_true (by omega : r + j < (l.length : Int))] at hbd
    rw [rowF]
    exact .step hbd (ih (i + 1) _ (by omega) (by omega))
theorem runs33j (ck : Mk → Int) (r : Int) (m z : Mk) (l : List Int) (a : Int) (t : Mk) (y x : Int) (hg : okH m l r x y = true) : ∀ (k : Nat) (j s : Int), j + k = r + 1 → 0 - r ≤ j →
    Runs (E33 ck) 6 (loopAt Try.f33 3) (st33j r m z l a t y x s j) (.exit 6) (mk 114 [(1, iv r), (2, bM m), (4, bB z), (7, isv l), (8, iv a), (10, bB t), (11, iv y), (12, iv x), (13, iv (rowsFF m l r x y k j s))]) := by
  obtain ⟨ho, hb⟩ := okH_iff hg
  intro k
  induction k with
  | zero =>
    intro j s hj _
    refine .stop ?_ (by simp)
    rw [b33j, decide_eq_false (by omega), rowsFF]
    rfl
  | succ k ih =>
    intro j s hj h0
    have hbd := b33j ck r m z l a t y x s j
    rw [decide_eq_true (by omega : j ≤ r), hg, decide_eq_true (by omega : 0 - r ≤ j ∧ j ≤ r), decide_eq_true (W_small (n := 0 - r) (by omega) (by omega)), W_small (n := j + 1) (by omega) (by omega)] at hbd
    exact .step hbd (ih (j + 1) _ (by omega) (by omega))
theorem okB_iff {ck : Mk → Int} {m : Mk} {l : List Int} {r a : Int} (h : okB ck m l r a = true) : ck m = 0 ∧ (0 ≤ r ∧ r ≤ 7) ∧ l = binL (2 * r) ∧ a = sh4 r := by
  simp only [okB, Bool.and_eq_true, decide_eq_true_eq] at h
  exact ⟨h.1.1.1, h.1.1.2, h.1.2, h.2⟩
theorem okB_H {m : Mk} {l : List Int} {r a x y : Int} (h : okB checkM m l r a = true) (hx : 0 ≤ x ∧ x < m.1) (hy : 0 ≤ y ∧ y < m.2.1) : okH m l r x y = true ∧ okD (sumF m l r x y) a = true := by
  obtain ⟨hc, hr, hl, ha⟩ := okB_iff h
  obtain ⟨w, h', v⟩ := m
  have g := good_of hc
  have hs := g.size
  have e := side_len hr
  subst hl ha
  refine ⟨?_, ?_⟩
  · unfold okH
    rw [(check_ok hc).1, decide_eq_true (by rw [e]; unfold side; simp only at hx hy; omega)]
    rfl
  · rw [sumF_eq g hr hx hy]
    exact (g.sumYOk hr x y).2
theorem runs33x (r : Int) (m z : Mk) (lb : List Int) (a p q y : Int) (hb : okB checkM m lb r a = true) (hy : 0 ≤ y ∧ y < m.2.1) : ∀ (k : Nat) (x : Int) (l : List Int), x + k = m.1 → 0 ≤ x → l.length + k ≤ 131072 →
    Runs (E33 checkM) 4 (loopAt Try.f33 2) (st33x r m z lb a (p, q, l) y x) (.exit 4) (st33y r m z lb a (p, q, l ++ rowG (refF m lb r a) y k x) y) := by
  obtain ⟨hc, hr, _, _⟩ := okB_iff hb
  have hm := okSize_le' (check_ok hc).1
  intro k
  induction k with
  | zero =>
    intro x l hx _ _
    refine .stop ?_ (by simp)
    rw [b33x, decide_eq_false (by omega), rowG, List.append_nil]
    rfl
  | succ k ih =>
    intro x l hx h0 hl
    have hg := okB_H (x := x) (y := y) hb (by omega) hy
    have hbd := b33x checkM r m z lb a (p, q, l) y x
    have hlen : (l ++ [refF m lb r a x y]).length * 8 ≤ 140737488355328 := by rw [List.length_append, List.length_singleton]; omega
    rw [decide_eq_true (by omega : x < m.1), hg.1, hg.2, decide_eq_true (W_small (n := 0 - r) (by omega) (by omega)), decide_eq_true hlen, W_small (n := x + 1) (by omega) (by omega)] at hbd
    have := ih (x + 1) (l ++ [refF m lb r a x y]) (by omega) (by omega) (by rw [List.length_append, List.length_singleton]; omega)
    rw [List.append_assoc] at this
    exact .step hbd this
theorem runs33y (r : Int) (m z : Mk) (lb : List Int) (a p q : Int) (hb : okB checkM m lb r a = true) : ∀ (k : Nat) (y : Int) (l : List Int), y + k = m.2.1 → 0 ≤ y → l.length + 256 * k ≤ 65536 →
    Runs (E33 checkM) 2 (loopAt Try.f33 1) (st33y r m z lb a (p, q, l) y) (.exit 2) (mk 114 [(4, bB z), (10, bB (p, q, l ++ rowsG (refF m lb r a) m.1.toNat k y))]) := by
  obtain ⟨hc, hr, _, _⟩ := okB_iff hb
  have hm := okSize_le' (check_ok hc).1
  intro k
  induction k with
  | zero =>
    intro y l hx _ _
    refine .stop ?_ (by simp)
    rw [b33y, decide_eq_false (by omega), rowsG, List.append_nil]
    rfl
  | succ k ih =>
    intro y l hx h0 hl
    have hbd := b33y checkM r m z lb a (p, q, l) y
    rw [decide_eq_true (by omega : y < m.2.1), hb, decide_eq_true (by omega : 0 ≤ y ∧ y < m.2.1), decide_eq_true (by simp only; omega : (p, q, l).2.2.length ≤ 65536), W_small (n := y + 1) (by omega) (by omega)] at hbd
    have hl2 : (rowG (refF m lb r a) y m.1.toNat 0).length ≤ 256 := by rw [rowG_len]; omega
    have := ih (y + 1) (l ++ rowG (refF m lb r a) y m.1.toNat 0) (by omega) (by omega) (by rw [List.length_append]; omega)
    rw [List.append_assoc] at this
    exact .step hbd this
theorem loop33k (ck : Mk → Int) : LoopOk (E33 ck) 0 (loopAt Try.f33 0) := by
  intro st R K z h
  obtain ⟨hn, h⟩ := req_some h
  obtain ⟨r, e0, h⟩ := gI_some h
  obtain ⟨m, e1, h⟩ := gM_some h
  obtain ⟨z0, e2, h⟩ := gB_some h
  obtain ⟨l, e3, h⟩ := gL_some h
  obtain ⟨a, e4, h⟩ := gI_some h
  obtain ⟨k, e5, h⟩ := gI_some h
  obtain ⟨hc, h⟩ := req_some h
  simp only [Bool.and_eq_true, decide_eq_true_eq] at hc
  obtain ⟨⟨h1, h2⟩, h3⟩ := hc
  rw [keep_mk (of_decide_eq_true hn)]
  have e := runs33k ck r m z0 l h3 (4 * r).toNat 0 (by omega)
  have es : mk 114 (((E33 ck).lv 0).map fun i => (i, getS (keep ((E33 ck).lv 0) st) i)) = st33k r m z0 l (2 ^ 0) (0 : Nat) := by
    show mk 114 [(1, getS (keep ((E33 ck).lv 0) st) 1), (2, getS (keep ((E33 ck).lv 0) st) 2), (4, getS (keep ((E33 ck).lv 0) st) 4), (7, getS (keep ((E33 ck).lv 0) st) 7), (8, getS (keep ((E33 ck).lv 0) st) 8), (9, getS (keep ((E33 ck).lv 0) st) 9)] = _
    rw [e0, e1, e2, e3, e4, e5, h1, h2]
    rfl
  rw [es]
  exact ⟨_, _, e, h⟩
theorem loop33i (ck : Mk → Int) : LoopOk (E33 ck) 8 (loopAt Try.f33 4) := by
  intro st R K z h
  obtain ⟨hn, h⟩ := req_some h
  obtain ⟨r, e0, h⟩ := gI_some h
  obtain ⟨m, e1, h⟩ := gM_some h
  obtain ⟨z0, e2, h⟩ := gB_some h
  obtain ⟨l, e3, h⟩ := gL_some h
  obtain ⟨a, e4, h⟩ := gI_some h
  obtain ⟨t, e5, h⟩ := gB_some h
  obtain ⟨y, e6, h⟩ := gI_some h
  obtain ⟨x, e7, h⟩ := gI_some h
  obtain ⟨s, e8, h⟩ := gI_some h
  obtain ⟨j, e9, h⟩ := gI_some h
  obtain ⟨i, e10, h⟩ := gI_some h
  obtain ⟨hc, h⟩ := req_some h
  simp only [Bool.and_eq_true, decide_eq_true_eq] at hc
  obtain ⟨⟨h1, h2⟩, h3⟩ := hc
  rw [keep_mk (of_decide_eq_true hn)]
  have e := runs33i ck r m z0 l a t y x j h1 h2 (side r) (0 - r) s (by have := okH_iff h1; unfold side; omega) (Int.le_refl _)
  have es : mk 114 (((E33 ck).lv 8).map fun i => (i, getS (keep ((E33 ck).lv 8) st) i)) = st33i r m z0 l a t y x s j (0 - r) := by
    show mk 114 [(1, getS (keep ((E33 ck).lv 8) st) 1), (2, getS (keep ((E33 ck).lv 8) st) 2), (4, getS (keep ((E33 ck).lv 8) st) 4), (7, getS (keep ((E33 ck).lv 8) st) 7), (8, getS (keep ((E33 ck).lv 8) st) 8), (10, getS (keep ((E33 ck).lv 8) st) 10), (11, getS (keep ((E33 ck).lv 8) st) 11), (12, getS (keep ((E33 ck).lv 8) st) 12), (13, getS (keep ((E33 ck).lv 8) st) 13), (14, getS (keep ((E33 ck).lv 8) st) 14), (15, getS (keep ((E33 ck).lv 8) st) 15)] = _
    rw [e0, e1, e2, e3, e4, e5, e6, e7, e8, e9, e10, h3]
    rfl
  rw [es]
  exact ⟨_, _, e, h⟩
theorem loop33j (ck : Mk → Int) : LoopOk (E33 ck) 6 (loopAt Try.f33 3) := by
  intro st R K z h
  obtain ⟨hn, h⟩ := req_some h
  obtain ⟨r, e0, h⟩ := gI_some h
  obtain ⟨m, e1, h⟩ := gM_some h
  obtain ⟨z0, e2, h⟩ := gB_some h
  obtain ⟨l, e3, h⟩ := gL_some h
  obtain ⟨a, e4, h⟩ := gI_some h
  obtain ⟨t, e5, h⟩ := gB_some h
  obtain ⟨y, e6, h⟩ := gI_some h
  obtain ⟨x, e7, h⟩ := gI_some h
  obtain ⟨s, e8, h⟩ := gI_some h
  obtain ⟨j, e9, h⟩ := gI_some h
  obtain ⟨hc, h⟩ := req_some h
  simp only [Bool.and_eq_true, decide_eq_true_eq] at hc
  obtain ⟨⟨h1, h2⟩, h3⟩ := hc
  rw [keep_mk (of_decide_eq_true hn)]
  have e := runs33j ck r m z0 l a t y x h1 (side r) (0 - r) 0 (by have := okH_iff h1; unfold side; omega) (Int.le_refl _)
  have es : mk 114 (((E33 ck).lv 6).map fun i => (i, getS (keep ((E33 ck).lv 6) st) i)) = st33j r m z0 l a t y x 0 (0 - r) := by
    show mk 114 [(1, getS (keep ((E33 ck).lv 6) st) 1), (2, getS (keep ((E33 ck).lv 6) st) 2), (4, getS (keep ((E33 ck).lv 6) st) 4), (7, getS (keep ((E33 ck).lv 6) st) 7), (8, getS (keep ((E33 ck).lv 6) st) 8), (10, getS (keep ((E33 ck).lv 6) st) 10), (11, getS (keep ((E33 ck).lv 6) st) 11), (12, getS (keep ((E33 ck).lv 6) st) 12), (13, getS (keep ((E33 ck).lv 6) st) 13), (14, getS (keep ((E33 ck).lv 6) st) 14)] = _
    rw [e0, e1, e2, e3, e4, e5, e6, e7, e8, e9, h2, h3]
    rfl
  rw [es]
  exact ⟨_, _, e, h⟩
theorem loop33x : LoopOk (E33 checkM) 4 (loopAt Try.f33 2) := by
  intro st R K z h
  obtain ⟨hn, h⟩ := req_some h
  obtain ⟨r, e0, h⟩ := gI_some h
  obtain ⟨m, e1, h⟩ := gM_some h
  obtain ⟨z0, e2, h⟩ := gB_some h
  obtain ⟨l, e3, h⟩ := gL_some h
  obtain ⟨a, e4, h⟩ := gI_some h
  obtain ⟨t, e5, h⟩ := gB_some h
  obtain ⟨y, e6, h⟩ := gI_some h
  obtain ⟨x, e7, h⟩ := gI_some h
  obtain ⟨hc, h⟩ := req_some h
  simp only [Bool.and_eq_true, decide_eq_true_eq] at hc
  obtain ⟨⟨⟨h1, h2⟩, h3⟩, h4⟩ := hc
  rw [keep_mk (of_decide_eq_true hn)]
  have e := runs33x r m z0 l a t.1 t.2.1 y h1 h2 m.1.toNat 0 t.2.2 (by have := okSize_le' (check_ok (okB_iff h1).1).1; omega) (Int.le_refl _) (by have := okSize_le' (check_ok (okB_iff h1).1).1; omega)
  have es : mk 114 (((E33 checkM).lv 4).map fun i => (i, getS (keep ((E33 checkM).lv 4) st) i)) = st33x r m z0 l a (t.1, t.2.1, t.2.2) y 0 := by
    show mk 114 [(1, getS (keep ((E33 checkM).lv 4) st) 1), (2, getS (keep ((E33 checkM).lv 4) st) 2), (4, getS (keep ((E33 checkM).lv 4) st) 4), (7, getS (keep ((E33 checkM).lv 4) st) 7), (8, getS (keep ((E33 checkM).lv 4) st) 8), (10, getS (keep ((E33 checkM).lv 4) st) 10), (11, getS (keep ((E33 checkM).lv 4) st) 11), (12, getS (keep ((E33 checkM).lv 4) st) 12)] = _
    rw [e0, e1, e2, e3, e4, e5, e6, e7, h3]
    rfl
  rw [es]
  exact ⟨_, _, e, h⟩
theorem loop33y : LoopOk (E33 checkM) 2 (loopAt Try.f33 1) := by
  intro st R K z h
  obtain ⟨hn, h⟩ := req_some h
  obtain ⟨r, e0, h⟩ := gI_some h
  obtain ⟨m, e1, h⟩ := gM_some h
  obtain ⟨z0, e2, h⟩ := gB_some h
  obtain ⟨l, e3, h⟩ := gL_some h
  obtain ⟨a, e4, h⟩ := gI_some h
  obtain ⟨t, e5, h⟩ := gB_some h
  obtain ⟨y, e6, h⟩ := gI_some h
  obtain ⟨hc, h⟩ := req_some h
  simp only [Bool.and_eq_true, decide_eq_true_eq] at hc
  obtain ⟨⟨h1, h2⟩, h3⟩ := hc
  rw [keep_mk (of_decide_eq_true hn)]
  have e := runs33y r m z0 l a t.1 t.2.1 h1 m.2.1.toNat 0 [] (by have := okSize_le' (check_ok (okB_iff h1).1).1; omega) (Int.le_refl _) (by have := okSize_le' (check_ok (okB_iff h1).1).1; rw [List.length_nil]; omega)
  have es : mk 114 (((E33 checkM).lv 2).map fun i => (i, getS (keep ((E33 checkM).lv 2) st) i)) = st33y r m z0 l a (t.1, t.2.1, []) 0 := by
    show mk 114 [(1, getS (keep ((E33 checkM).lv 2) st) 1), (2, getS (keep ((E33 checkM).lv 2) st) 2), (4, getS (keep ((E33 checkM).lv 2) st) 4), (7, getS (keep ((E33 checkM).lv 2) st) 7), (8, getS (keep ((E33 checkM).lv 2) st) 8), (10, getS (keep ((E33 checkM).lv 2) st) 10), (11, getS (keep ((E33 checkM).lv 2) st) 11)] = _
    rw [e0, e1, e2, e3, e4, e5, e6, h2, ← List.length_eq_zero_iff.mp h3]
    rfl
  rw [es]
  exact ⟨_, _, e, h⟩
theorem loops33 : loopsOf Try.f33 = [(0, loopAt Try.f33 0), (2, loopAt Try.f33 1), (4, loopAt Try.f33 2), (6, loopAt Try.f33 3), (8, loopAt Try.f33 4)] := by kernel_rfl
theorem e33 (a b : Int) (l : List Int) (r : Int) : evalF (E33 checkM) Try.f33 [mk3 a b l, iv r] = omv (featM (a, b, l) r) := by
  rw [t33]
  unfold featM
  by_cases hc : checkM (a, b, l) = 0
  · have g := good_of hc
    have hs := g.size
    rw [if_neg (fun h => h hc), bne_eq_false_iff_eq.mpr hc]
    by_cases h1 : r < 0
    · rw [if_pos (.inl h1), decide_eq_true h1]; rfl
    by_cases h2 : r > 7
    · rw [if_pos (.inr h2), decide_eq_false h1, decide_eq_true h2]; rfl
    have hr : 0 ≤ r ∧ r ≤ 7 := by omega
    rw [if_neg (by omega), decide_eq_false h1, decide_eq_false h2, W_small (n := 2 * r) (by omega) (by omega), show even14 (2 * r) = true from decide_eq_true (by omega), decide_eq_true hr]
    have hb : okB checkM (a, b, l) (binL (2 * r)) r (sh4 r) = true := by unfold okB; rw [decide_eq_true hc, decide_eq_true hr, decide_eq_true rfl, decide_eq_true rfl]; rfl
    rw [hb, rowsG_congrR (g := refF (a, b, l) (binL (2 * r)) r (sh4 r)) (g' := featV (a, b, l) r) a.toNat b.toNat (fun x y x0 x1 y0 y1 => by unfold refF featV; rw [sumF_eq g hr (by omega) (by omega)]) b.toNat 0 (Int.le_refl _) (by omega)]
    rfl
  · rw [if_pos hc, bne_iff_ne.mpr hc]
    rfl
theorem m33 : Meets Try.prog 33 (gate (pT dMI) (sp dMI fun a => mev (featM a.1 a.2))) := mG (rdL (e := E33 checkM) rfl (eg_cons m31 (eg_cons m73 (eg_cons m53 (eg_cons m68 eg_nil)))) (fn := Try.f33) (k := 2) (by kernel_rfl) (by kernel_rfl) (of_decide_eq_true (by kernel_rfl)) loops33 (fun p hp => by
  rcases List.mem_cons.mp hp with h | hp
  · cases h; exact loop33k checkM
  rcases List.mem_cons.mp hp with h | hp
  · cases h; exact loop33y
  rcases List.mem_cons.mp hp with h | hp
  · cases h; exact loop33x
  rcases List.mem_cons.mp hp with h | hp
  · cases h; exact loop33j checkM
  · cases List.mem_singleton.mp hp; exact loop33i checkM)) (fun _ _ => hMI) (fun _ => ⟨rfl, Nat.le_refl _⟩)
  fun ⟨⟨a, b, l⟩, r⟩ _ => e33 a b l r
end Go.Proofs.Ytkeildnpemiacaa.Ev

