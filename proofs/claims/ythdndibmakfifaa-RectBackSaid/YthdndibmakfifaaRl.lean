/- That the loops of Tiles, of the program's own and of the reference's alike, list the tiles row by row. Conditions: none. Printed by gen_rl.py of this session. -/
import Derived.Test.YthdndibmakfifaaRi
import Derived.Test.YthdndibmakfifaaRf
namespace Go.Proofs.Ythdndibmakfifaa.Ev
open Go.Proofs
set_option linter.unusedVariables false
set_option maxRecDepth 100000
set_option maxHeartbeats 1000000
theorem row_len (y : Int) : ∀ (k : Nat) (x : Int), (row y x k).length = k
  | 0, _ => rfl
  | k + 1, x => by rw [show row y x (k + 1) = (x, y) :: row y (x + 1) k from rfl, List.length_cons, row_len y k]

def st37i (x0 x1 y1 : Int) (l : List Pt) (y x : Int) : St := mk 61 [(3, iv x0), (4, iv x1), (6, iv y1), (7, pso l), (8, iv y), (9, iv x)]
def st37o (x0 x1 y1 : Int) (l : List Pt) (y : Int) : St := mk 61 [(3, iv x0), (4, iv x1), (6, iv y1), (7, pso l), (8, iv y)]
theorem b37i (x0 x1 y1 y x : Int) (l : List Pt) : evalCode E37 (loopAt Try.f37 1) 2 (st37i x0 x1 y1 l y x) (kp E37 2) = bif decide (x ≤ x1) then
    bif decide ((l ++ [(x, y)]).length * 16 ≤ 140737488355328) then some (.normal, st37i x0 x1 y1 (l ++ [(x, y)]) y (IntKind.i64.wrap (x + 1))) else none else some (.exit 2, st37o x0 x1 y1 l y) := by kernel_rfl
theorem b37o (x0 x1 y1 y : Int) (l : List Pt) : evalCode E37 (loopAt Try.f37 0) 0 (st37o x0 x1 y1 l y) (kp E37 0) = bif decide (y ≤ y1) then
    bif decide (-1000000000 ≤ x0) && decide (x0 ≤ x1 + 1) && decide (x1 ≤ 1000000000) && decide (((l.length : Int) + (x1 - x0 + 1)) ≤ 100000) then
      some (.normal, st37o x0 x1 y1 (l ++ row y (x0) (x1 - x0 + 1).toNat) (IntKind.i64.wrap (y + 1))) else none else some (.exit 0, mk 61 [(7, pso l)]) := by kernel_rfl
theorem runs37i (x0 x1 y1 y : Int) (hb : x1 ≤ 1000000000) : ∀ (k : Nat) (x : Int) (l : List Pt), x + k = x1 + 1 → -1000000000 ≤ x → l.length + k ≤ 100000 →
    Runs E37 2 (loopAt Try.f37 1) (st37i x0 x1 y1 l y x) (.exit 2) (st37o x0 x1 y1 (l ++ row y x k) y) := by
  intro k
  induction k with
  | zero =>
    intro x l hx _ _
    refine .stop ?_ (by simp)
    rw [b37i, decide_eq_false (by omega), show row y x 0 = [] from rfl, List.append_nil]
    rfl
  | succ k ih =>
    intro x l hx h0 hl
    have hbd := b37i x0 x1 y1 y x l
    have hlen : (l ++ [(x, y)]).length * 16 ≤ 140737488355328 := by rw [List.length_append, List.length_singleton]; omega
    rw [decide_eq_true (by omega : x ≤ x1), decide_eq_true hlen, show IntKind.i64.wrap (x + 1) = x + 1 by rw [IntKind.wrap_i64]; omega] at hbd
    have := ih (x + 1) (l ++ [(x, y)]) (by omega) (by omega) (by rw [List.length_append, List.length_singleton]; omega)
    rw [List.append_assoc] at this
    exact .step hbd this
theorem runs37o (x0 x1 y1 : Int) (w : Nat) (hw : (x1 - x0 + 1).toNat = w) (h1 : -1000000000 ≤ x0) (h2 : x0 ≤ x1) (h3 : x1 ≤ 1000000000) (h4 : y1 ≤ 1000000000) : ∀ (k : Nat) (y : Int) (l : List Pt), y + k = y1 + 1 → -1000000000 ≤ y → l.length + w * k ≤ 100000 →
    Runs E37 0 (loopAt Try.f37 0) (st37o x0 x1 y1 l y) (.exit 0) (mk 61 [(7, pso (l ++ rows (x0) w y k))]) := by
  intro k
  induction k with
  | zero =>
    intro y l hx _ _
    refine .stop ?_ (by simp)
    rw [b37o, decide_eq_false (by omega), show rows (x0) w y 0 = [] from rfl, List.append_nil]
    rfl
  | succ k ih =>
    intro y l hx h0 hl
    have hbd := b37o x0 x1 y1 y l
    rw [Nat.mul_succ] at hl
    rw [decide_eq_true (by omega : y ≤ y1), decide_eq_true h1, decide_eq_true (by omega : x0 ≤ x1 + 1), decide_eq_true h3, decide_eq_true (by omega : ((l.length : Int) + (x1 - x0 + 1)) ≤ 100000), show IntKind.i64.wrap (y + 1) = y + 1 by rw [IntKind.wrap_i64]; omega, hw] at hbd
    have := ih (y + 1) (l ++ row y (x0) w) (by omega) (by omega) (by rw [List.length_append, row_len]; omega)
    rw [List.append_assoc] at this
    exact .step hbd this
theorem loop37i : LoopOk E37 2 (loopAt Try.f37 1) := by
  intro st R K r h
  obtain ⟨hn, h⟩ := req_some h
  obtain ⟨x0, e0, h⟩ := gI_some h
  obtain ⟨x1, e1, h⟩ := gI_some h
  obtain ⟨y1, e2, h⟩ := gI_some h
  obtain ⟨l, e3, h⟩ := gPo_some h
  obtain ⟨y, e4, h⟩ := gI_some h
  obtain ⟨x, e5, h⟩ := gI_some h
  obtain ⟨hc, h⟩ := req_some h
  simp only [Bool.and_eq_true, decide_eq_true_eq] at hc
  obtain ⟨⟨⟨hc1, hc2⟩, hc3⟩, hc4⟩ := hc
  rw [keep_mk (of_decide_eq_true hn)]
  have e := runs37i x0 x1 y1 y hc3 (x1 - x + 1).toNat x l (by omega) (by omega) (by omega)
  have es : mk 61 ((E37.lv 2).map fun i => (i, getS (keep (E37.lv 2) st) i)) = st37i x0 x1 y1 l y x := by
    show mk 61 [(3, getS (keep (E37.lv 2) st) 3), (4, getS (keep (E37.lv 2) st) 4), (6, getS (keep (E37.lv 2) st) 6), (7, getS (keep (E37.lv 2) st) 7), (8, getS (keep (E37.lv 2) st) 8), (9, getS (keep (E37.lv 2) st) 9)] = _
    rw [e0, e1, e2, e3, e4, e5]
    rfl
  rw [es]
  exact ⟨_, _, e, h⟩
theorem loop37o : LoopOk E37 0 (loopAt Try.f37 0) := by
  intro st R K r h
  obtain ⟨hn, h⟩ := req_some h
  obtain ⟨x0, e0, h⟩ := gI_some h
  obtain ⟨x1, e1, h⟩ := gI_some h
  obtain ⟨y1, e2, h⟩ := gI_some h
  obtain ⟨l, e3, h⟩ := gPo_some h
  obtain ⟨y, e4, h⟩ := gI_some h
  obtain ⟨hc, h⟩ := req_some h
  simp only [Bool.and_eq_true, decide_eq_true_eq] at hc
  obtain ⟨⟨⟨⟨⟨⟨hc1, hc2⟩, hc3⟩, hc4⟩, hc5⟩, hc6⟩, hc7⟩ := hc
  rw [keep_mk (of_decide_eq_true hn)]
  have hw : (((x1 - x0 + 1).toNat : Nat) : Int) = x1 - x0 + 1 := by omega
  have hk : (((y1 - y + 1).toNat : Nat) : Int) = y1 - y + 1 := by omega
  have hsz : l.length + (x1 - x0 + 1).toNat * (y1 - y + 1).toNat ≤ 100000 := by
    rw [← hw, ← hk] at hc7
    rw [hw] at hc7
    have : ((l.length + (x1 - x0 + 1).toNat * (y1 - y + 1).toNat : Nat) : Int) ≤ 100000 := by
      rw [Int.natCast_add, Int.natCast_mul, hw]
      exact hc7
    omega
  have e := runs37o x0 x1 y1 _ rfl hc1 hc2 hc3 hc6 (y1 - y + 1).toNat y l (by omega) (by omega) hsz
  have es : mk 61 ((E37.lv 0).map fun i => (i, getS (keep (E37.lv 0) st) i)) = st37o x0 x1 y1 l y := by
    show mk 61 [(3, getS (keep (E37.lv 0) st) 3), (4, getS (keep (E37.lv 0) st) 4), (6, getS (keep (E37.lv 0) st) 6), (7, getS (keep (E37.lv 0) st) 7), (8, getS (keep (E37.lv 0) st) 8)] = _
    rw [e0, e1, e2, e3, e4]
    rfl
  rw [es]
  exact ⟨_, _, e, h⟩

def st38i (x0 x1 y1 : Int) (l : List Pt) (y x : Int) : St := mk 59 [(3, iv x0), (4, iv x1), (6, iv y1), (7, pso l), (8, iv y), (9, iv x)]
def st38o (x0 x1 y1 : Int) (l : List Pt) (y : Int) : St := mk 59 [(3, iv x0), (4, iv x1), (6, iv y1), (7, pso l), (8, iv y)]
theorem b38i (x0 x1 y1 y x : Int) (l : List Pt) : evalCode E38 (loopAt Try.f38 1) 2 (st38i x0 x1 y1 l y x) (kp E38 2) = bif decide (x ≤ tileR x1) then
    bif decide ((l ++ [(x, y)]).length * 16 ≤ 140737488355328) then some (.normal, st38i x0 x1 y1 (l ++ [(x, y)]) y (IntKind.i64.wrap (x + 1))) else none else some (.exit 2, st38o x0 x1 y1 l y) := by kernel_rfl
theorem b38o (x0 x1 y1 y : Int) (l : List Pt) : evalCode E38 (loopAt Try.f38 0) 0 (st38o x0 x1 y1 l y) (kp E38 0) = bif decide (y ≤ tileR y1) then
    bif decide (-1000000000 ≤ tileR x0) && decide (tileR x0 ≤ tileR x1 + 1) && decide (tileR x1 ≤ 1000000000) && decide (((l.length : Int) + (tileR x1 - tileR x0 + 1)) ≤ 100000) then
      some (.normal, st38o x0 x1 y1 (l ++ row y (tileR x0) (tileR x1 - tileR x0 + 1).toNat) (IntKind.i64.wrap (y + 1))) else none else some (.exit 0, mk 59 [(7, pso l)]) := by kernel_rfl
theorem runs38i (x0 x1 y1 y : Int) (hb : tileR x1 ≤ 1000000000) : ∀ (k : Nat) (x : Int) (l : List Pt), x + k = tileR x1 + 1 → -1000000000 ≤ x → l.length + k ≤ 100000 →
    Runs E38 2 (loopAt Try.f38 1) (st38i x0 x1 y1 l y x) (.exit 2) (st38o x0 x1 y1 (l ++ row y x k) y) := by
  intro k
  induction k with
  | zero =>
    intro x l hx _ _
    refine .stop ?_ (by simp)
    rw [b38i, decide_eq_false (by omega), show row y x 0 = [] from rfl, List.append_nil]
    rfl
  | succ k ih =>
    intro x l hx h0 hl
    have hbd := b38i x0 x1 y1 y x l
    have hlen : (l ++ [(x, y)]).length * 16 ≤ 140737488355328 := by rw [List.length_append, List.length_singleton]; omega
    rw [decide_eq_true (by omega : x ≤ tileR x1), decide_eq_true hlen, show IntKind.i64.wrap (x + 1) = x + 1 by rw [IntKind.wrap_i64]; omega] at hbd
    have := ih (x + 1) (l ++ [(x, y)]) (by omega) (by omega) (by rw [List.length_append, List.length_singleton]; omega)
    rw [List.append_assoc] at this
    exact .step hbd this
theorem runs38o (x0 x1 y1 : Int) (w : Nat) (hw : (tileR x1 - tileR x0 + 1).toNat = w) (h1 : -1000000000 ≤ tileR x0) (h2 : tileR x0 ≤ tileR x1) (h3 : tileR x1 ≤ 1000000000) (h4 : tileR y1 ≤ 1000000000) : ∀ (k : Nat) (y : Int) (l : List Pt), y + k = tileR y1 + 1 → -1000000000 ≤ y → l.length + w * k ≤ 100000 →
    Runs E38 0 (loopAt Try.f38 0) (st38o x0 x1 y1 l y) (.exit 0) (mk 59 [(7, pso (l ++ rows (tileR x0) w y k))]) := by
  intro k
  induction k with
  | zero =>
    intro y l hx _ _
    refine .stop ?_ (by simp)
    rw [b38o, decide_eq_false (by omega), show rows (tileR x0) w y 0 = [] from rfl, List.append_nil]
    rfl
  | succ k ih =>
    intro y l hx h0 hl
    have hbd := b38o x0 x1 y1 y l
    rw [Nat.mul_succ] at hl
    rw [decide_eq_true (by omega : y ≤ tileR y1), decide_eq_true h1, decide_eq_true (by omega : tileR x0 ≤ tileR x1 + 1), decide_eq_true h3, decide_eq_true (by omega : ((l.length : Int) + (tileR x1 - tileR x0 + 1)) ≤ 100000), show IntKind.i64.wrap (y + 1) = y + 1 by rw [IntKind.wrap_i64]; omega, hw] at hbd
    have := ih (y + 1) (l ++ row y (tileR x0) w) (by omega) (by omega) (by rw [List.length_append, row_len]; omega)
    rw [List.append_assoc] at this
    exact .step hbd this
theorem loop38i : LoopOk E38 2 (loopAt Try.f38 1) := by
  intro st R K r h
  obtain ⟨hn, h⟩ := req_some h
  obtain ⟨x0, e0, h⟩ := gI_some h
  obtain ⟨x1, e1, h⟩ := gI_some h
  obtain ⟨y1, e2, h⟩ := gI_some h
  obtain ⟨l, e3, h⟩ := gPo_some h
  obtain ⟨y, e4, h⟩ := gI_some h
  obtain ⟨x, e5, h⟩ := gI_some h
  obtain ⟨hc, h⟩ := req_some h
  simp only [Bool.and_eq_true, decide_eq_true_eq] at hc
  obtain ⟨⟨⟨hc1, hc2⟩, hc3⟩, hc4⟩ := hc
  rw [keep_mk (of_decide_eq_true hn)]
  have e := runs38i x0 x1 y1 y hc3 (tileR x1 - x + 1).toNat x l (by omega) (by omega) (by omega)
  have es : mk 59 ((E38.lv 2).map fun i => (i, getS (keep (E38.lv 2) st) i)) = st38i x0 x1 y1 l y x := by
    show mk 59 [(3, getS (keep (E38.lv 2) st) 3), (4, getS (keep (E38.lv 2) st) 4), (6, getS (keep (E38.lv 2) st) 6), (7, getS (keep (E38.lv 2) st) 7), (8, getS (keep (E38.lv 2) st) 8), (9, getS (keep (E38.lv 2) st) 9)] = _
    rw [e0, e1, e2, e3, e4, e5]
    rfl
  rw [es]
  exact ⟨_, _, e, h⟩
theorem loop38o : LoopOk E38 0 (loopAt Try.f38 0) := by
  intro st R K r h
  obtain ⟨hn, h⟩ := req_some h
  obtain ⟨x0, e0, h⟩ := gI_some h
  obtain ⟨x1, e1, h⟩ := gI_some h
  obtain ⟨y1, e2, h⟩ := gI_some h
  obtain ⟨l, e3, h⟩ := gPo_some h
  obtain ⟨y, e4, h⟩ := gI_some h
  obtain ⟨hc, h⟩ := req_some h
  simp only [Bool.and_eq_true, decide_eq_true_eq] at hc
  obtain ⟨⟨⟨⟨⟨⟨hc1, hc2⟩, hc3⟩, hc4⟩, hc5⟩, hc6⟩, hc7⟩ := hc
  rw [keep_mk (of_decide_eq_true hn)]
  have hw : (((tileR x1 - tileR x0 + 1).toNat : Nat) : Int) = tileR x1 - tileR x0 + 1 := by omega
  have hk : (((tileR y1 - y + 1).toNat : Nat) : Int) = tileR y1 - y + 1 := by omega
  have hsz : l.length + (tileR x1 - tileR x0 + 1).toNat * (tileR y1 - y + 1).toNat ≤ 100000 := by
    rw [← hw, ← hk] at hc7
    rw [hw] at hc7
    have : ((l.length + (tileR x1 - tileR x0 + 1).toNat * (tileR y1 - y + 1).toNat : Nat) : Int) ≤ 100000 := by
      rw [Int.natCast_add, Int.natCast_mul, hw]
      exact hc7
    omega
  have e := runs38o x0 x1 y1 _ rfl hc1 hc2 hc3 hc6 (tileR y1 - y + 1).toNat y l (by omega) (by omega) hsz
  have es : mk 59 ((E38.lv 0).map fun i => (i, getS (keep (E38.lv 0) st) i)) = st38o x0 x1 y1 l y := by
    show mk 59 [(3, getS (keep (E38.lv 0) st) 3), (4, getS (keep (E38.lv 0) st) 4), (6, getS (keep (E38.lv 0) st) 6), (7, getS (keep (E38.lv 0) st) 7), (8, getS (keep (E38.lv 0) st) 8)] = _
    rw [e0, e1, e2, e3, e4]
    rfl
  rw [es]
  exact ⟨_, _, e, h⟩

@[reducible] def ops (l : List Pt) : Option (AV × List AV) := some (psv l, [])
def sh (n : Int) : Int := Int.fdiv n 16
def tl (chk : Bool) (p q x0 x1 y0 y1 : Int) : Option (AV × List AV) := bif decide (IntKind.i64.wrap (p * q) > 4096) then ops [] else
  bif decide (-1000000000 ≤ x0) && decide (x0 ≤ x1) && decide (x1 ≤ 1000000000) && decide (-1000000000 ≤ y0) && decide (y0 ≤ y1 + 1) && decide (y1 ≤ 1000000000) && decide ((((([] : List Pt).length : Nat) : Int) + (x1 - x0 + 1) * (y1 - y0 + 1)) ≤ 100000) then
    ops (rows x0 (x1 - x0 + 1).toNat y0 (y1 - y0 + 1).toNat) else none
theorem t37 (a b c d : Int) : evalF E37 Try.f37 [q4 a b c d] = bif empty (a, b, c, d) then ops [] else
    tl true (W (W (sh (W (W (a + c) - 1)) - sh a) + 1)) (W (W (sh (W (W (b + d) - 1)) - sh b) + 1)) (sh a) (sh (W (W (a + c) - 1))) (sh b) (sh (W (W (b + d) - 1))) := by kernel_rfl
theorem t38 (a b c d : Int) : evalF E38 Try.f38 [q4 a b c d] = bif empty (a, b, c, d) then ops [] else
    tl true (W (W (tileR (rhi (a, b, c, d) 0) - tileR (rlo (a, b, c, d) 0)) + 1)) (W (W (tileR (rhi (a, b, c, d) 1) - tileR (rlo (a, b, c, d) 1)) + 1)) (tileR (rlo (a, b, c, d) 0)) (tileR (rhi (a, b, c, d) 0)) (tileR (rlo (a, b, c, d) 1)) (tileR (rhi (a, b, c, d) 1)) := by kernel_rfl
theorem sh_eq (n : Int) : sh n = n / 16 := Int.fdiv_eq_ediv_of_nonneg n (by decide)
theorem tileR_eq {x : Int} (h1 : -1048576 ≤ x) (h2 : x ≤ 1048576) : tileR x = x / 16 := by
  unfold tileR
  rw [W_eq (n := x + 1048576) (by omega) (by omega), Int.tdiv_eq_ediv_of_nonneg (by omega), W_eq (n := (x + 1048576) / 16) (by omega) (by omega), W_eq (by omega) (by omega)]
  omega
theorem tl_eq {x0 x1 y0 y1 : Int} (h1 : -65536 ≤ x0) (h2 : x0 ≤ x1) (h3 : x1 ≤ 65536) (h4 : -65536 ≤ y0) (h5 : y0 ≤ y1) (h6 : y1 ≤ 65536) :
    tl true (W (W (x1 - x0) + 1)) (W (W (y1 - y0) + 1)) x0 x1 y0 y1 = ops (if (x1 - x0 + 1) * (y1 - y0 + 1) > 4096 then [] else rows x0 (x1 - x0 + 1).toNat y0 (y1 - y0 + 1).toNat) := by
  have w1 : W (W (x1 - x0) + 1) = x1 - x0 + 1 := by unfold W; simp only [IntKind.wrap_i64]; omega
  have w2 : W (W (y1 - y0) + 1) = y1 - y0 + 1 := by unfold W; simp only [IntKind.wrap_i64]; omega
  have hs := area_small (c := x1 - x0 + 1) (d := y1 - y0 + 1) (by omega) (by omega) (by omega) (by omega)
  have w3 : IntKind.i64.wrap ((x1 - x0 + 1) * (y1 - y0 + 1)) = (x1 - x0 + 1) * (y1 - y0 + 1) := W_small (by omega) (by omega)
  rw [w1, w2]
  unfold tl
  rw [w3]
  by_cases h : (x1 - x0 + 1) * (y1 - y0 + 1) > 4096
  · rw [decide_eq_true h, if_pos h]; rfl
  · rw [decide_eq_false h, if_neg h, decide_eq_true (by omega : -1000000000 ≤ x0), decide_eq_true h2, decide_eq_true (by omega : x1 ≤ 1000000000), decide_eq_true (by omega : -1000000000 ≤ y0), decide_eq_true (by omega : y0 ≤ y1 + 1), decide_eq_true (by omega : y1 ≤ 1000000000),
      decide_eq_true (show (((([] : List Pt).length : Nat) : Int) + (x1 - x0 + 1) * (y1 - y0 + 1)) ≤ 100000 by rw [show (([] : List Pt).length : Int) = 0 from rfl]; omega)]
    rfl
theorem e37 (a b c d : Int) : evalF E37 Try.f37 [q4 a b c d] = ops (tiles (a, b, c, d)) := by
  rw [t37]
  unfold tiles
  cases h : empty (a, b, c, d)
  · have h1 := (nonempty_iff a b c d).mp h
    have hv := (valid_iff a b c d).mp h1.1
    have e1 : W (W (a + c) - 1) = a + c - 1 := by unfold W; simp only [IntKind.wrap_i64]; omega
    have e2 : W (W (b + d) - 1) = b + d - 1 := by unfold W; simp only [IntKind.wrap_i64]; omega
    rw [cond_false, e1, e2, sh_eq, sh_eq, sh_eq, sh_eq, tl_eq (by omega) (by omega) (by omega) (by omega) (by omega) (by omega)]
    rfl
  · rfl
theorem e38 (a b c d : Int) : evalF E38 Try.f38 [q4 a b c d] = ops (tiles (a, b, c, d)) := by
  rw [t38]
  unfold tiles
  cases h : empty (a, b, c, d)
  · have h1 := (nonempty_iff a b c d).mp h
    have hv := (valid_iff a b c d).mp h1.1
    have r := rlo_ne h
    rw [cond_false, r.1, r.2.1, r.2.2.1, r.2.2.2, tileR_eq (x := a) (by omega) (by omega), tileR_eq (x := b) (by omega) (by omega), tileR_eq (x := a + c - 1) (by omega) (by omega), tileR_eq (x := b + d - 1) (by omega) (by omega), tl_eq (by omega) (by omega) (by omega) (by omega) (by omega) (by omega)]
    rfl
  · rfl
end Go.Proofs.Ythdndibmakfifaa.Ev
