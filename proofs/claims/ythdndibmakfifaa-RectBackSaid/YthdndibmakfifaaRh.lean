/- That comparing two lists compares them, of rectangles and of points. Conditions: none. -/
import Derived.Test.YthdndibmakfifaaRg
namespace Go.Proofs.Ythdndibmakfifaa.Ev
open Go.Proofs
set_option linter.unusedVariables false
set_option maxRecDepth 100000

def lp31 (st : St) (R : Type) (K : Ex → St → Option R) : Option R := req (decide (st.length = 26)) (gQs st 0 fun l => gQs st 1 fun m => gI st 12 fun n => gI st 13 fun i =>
  req (decide (n = l.length) && decide (m.length = l.length) && decide (l.length < 4611686018427387904) && decide (0 ≤ i) && decide (i ≤ n))
    (bif sameQ (l.drop i.toNat) (m.drop i.toNat) then K (.exit 0) (mk 26 []) else K .ret (mk 26 [(4, bw false)])))
def lp36 (st : St) (R : Type) (K : Ex → St → Option R) : Option R := req (decide (st.length = 26)) (gPs st 0 fun l => gPs st 1 fun m => gI st 12 fun n => gI st 13 fun i =>
  req (decide (n = l.length) && decide (m.length = l.length) && decide (l.length < 4611686018427387904) && decide (0 ≤ i) && decide (i ≤ n))
    (bif sameP (l.drop i.toNat) (m.drop i.toNat) then K (.exit 0) (mk 26 []) else K .ret (mk 26 [(4, bw false)])))
def E31 : Env := { E L0 with lv := fun _ => [0, 1, 12, 13], lx := fun _ => [4], lp := fun _ => lp31 }
def E36 : Env := { E L0 with lv := fun _ => [0, 1, 12, 13], lx := fun _ => [4], lp := fun _ => lp36 }

theorem t31 (l m : List Q) : evalF E31 Try.f31 [qsv l, qsv m] = bif (l.length : Int) != (m.length : Int) then some (bw false, []) else
    bif (decide ((l.length : Int) = l.length) && decide (m.length = l.length) && decide (l.length < 4611686018427387904) && decide ((0 : Int) ≤ 0) && decide ((0 : Int) ≤ l.length)) then
      (bif sameQ (l.drop 0) (m.drop 0) then some (bw true, []) else some (bw false, [])) else none := by kernel_rfl
theorem t36 (l m : List Pt) : evalF E36 Try.f36 [psv l, psv m] = bif (l.length : Int) != (m.length : Int) then some (bw false, []) else
    bif (decide ((l.length : Int) = l.length) && decide (m.length = l.length) && decide (l.length < 4611686018427387904) && decide ((0 : Int) ≤ 0) && decide ((0 : Int) ≤ l.length)) then
      (bif sameP (l.drop 0) (m.drop 0) then some (bw true, []) else some (bw false, [])) else none := by kernel_rfl
def st31 (l m : List Q) (n i : Int) : St := mk 26 [(0, qsv l), (1, qsv m), (12, iv n), (13, iv i)]
def st36 (l m : List Pt) (n i : Int) : St := mk 26 [(0, psv l), (1, psv m), (12, iv n), (13, iv i)]
theorem b31 (l m : List Q) (n i : Int) : evalCode E31 (loopAt Try.f31 0) 0 (st31 l m n i) (kp E31 0) = bif decide (i < n) then
    bif decide (0 ≤ i) && decide (i < (l.length : Int)) then bif decide (0 ≤ i) && decide (i < (m.length : Int)) then
      bif !((l.getD i.toNat (0, 0, 0, 0)).1 == (m.getD i.toNat (0, 0, 0, 0)).1 && ((l.getD i.toNat (0, 0, 0, 0)).2.1 == (m.getD i.toNat (0, 0, 0, 0)).2.1 &&
        ((l.getD i.toNat (0, 0, 0, 0)).2.2.1 == (m.getD i.toNat (0, 0, 0, 0)).2.2.1 && ((l.getD i.toNat (0, 0, 0, 0)).2.2.2 == (m.getD i.toNat (0, 0, 0, 0)).2.2.2 && true)))) then
        some (.ret, mk 26 [(4, bw false)]) else some (.normal, st31 l m n (IntKind.i64.wrap (i + 1))) else none else none else some (.exit 0, mk 26 []) := by kernel_rfl
theorem b36 (l m : List Pt) (n i : Int) : evalCode E36 (loopAt Try.f36 0) 0 (st36 l m n i) (kp E36 0) = bif decide (i < n) then
    bif decide (0 ≤ i) && decide (i < (l.length : Int)) then bif decide (0 ≤ i) && decide (i < (m.length : Int)) then
      bif !((l.getD i.toNat (0, 0)).1 == (m.getD i.toNat (0, 0)).1 && ((l.getD i.toNat (0, 0)).2 == (m.getD i.toNat (0, 0)).2 && true)) then
        some (.ret, mk 26 [(4, bw false)]) else some (.normal, st36 l m n (IntKind.i64.wrap (i + 1))) else none else none else some (.exit 0, mk 26 []) := by kernel_rfl

theorem wrap_succ {i : Nat} (h : i < 4611686018427387904) : IntKind.i64.wrap ((i : Int) + 1) = ((i + 1 : Nat) : Int) := by
  rw [IntKind.wrap_i64]; omega

theorem runs31 (l m : List Q) (hm : m.length = l.length) (hb : l.length < 4611686018427387904) : ∀ k i : Nat, i + k = l.length →
    Runs E31 0 (loopAt Try.f31 0) (st31 l m l.length i) (bif sameQ (l.drop i) (m.drop i) then .exit 0 else .ret) (bif sameQ (l.drop i) (m.drop i) then mk 26 [] else mk 26 [(4, bw false)]) := by
  intro k
  induction k with
  | zero =>
    intro i hi
    rw [List.drop_eq_nil_of_le (by omega), List.drop_eq_nil_of_le (by omega)]
    refine .stop ?_ (by simp [sameQ])
    rw [b31, decide_eq_false (by omega)]
    rfl
  | succ k ih =>
    intro i hi
    have h1 : i < l.length := by omega
    have h2 : i < m.length := by omega
    have e1 : l.getD i (0, 0, 0, 0) = l[i] := by rw [List.getD_eq_getElem?_getD, List.getElem?_eq_getElem h1]; rfl
    have e2 : m.getD i (0, 0, 0, 0) = m[i] := by rw [List.getD_eq_getElem?_getD, List.getElem?_eq_getElem h2]; rfl
    have hbd := b31 l m l.length i
    rw [decide_eq_true (by omega : (i : Int) < l.length), decide_eq_true (by omega : (0 : Int) ≤ i), decide_eq_true (by omega : (i : Int) < m.length), Int.toNat_natCast, e1, e2, wrap_succ (by omega)] at hbd
    rw [List.drop_eq_getElem_cons h1, List.drop_eq_getElem_cons h2]
    have hs : sameQ (l[i] :: l.drop (i + 1)) (m[i] :: m.drop (i + 1)) = (decide (l[i] = m[i]) && sameQ (l.drop (i + 1)) (m.drop (i + 1))) := rfl
    rw [hs]
    by_cases he : l[i] = m[i]
    · rw [decide_eq_true he]
      refine .step ?_ (ih (i + 1) (by omega))
      rw [hbd, he]
      simp
    · rw [decide_eq_false he]
      refine .stop ?_ (by simp)
      rw [hbd]
      have : (l[i].1 == m[i].1 && (l[i].2.1 == m[i].2.1 && (l[i].2.2.1 == m[i].2.2.1 && (l[i].2.2.2 == m[i].2.2.2 && true)))) = false := by
        rw [← Bool.not_eq_true]
        simp only [Bool.and_eq_true, beq_iff_eq, and_true]
        exact fun ⟨q1, q2, q3, q4⟩ => he (Prod.ext q1 (Prod.ext q2 (Prod.ext q3 q4)))
      rw [this]
      rfl
theorem runs36 (l m : List Pt) (hm : m.length = l.length) (hb : l.length < 4611686018427387904) : ∀ k i : Nat, i + k = l.length →
    Runs E36 0 (loopAt Try.f36 0) (st36 l m l.length i) (bif sameP (l.drop i) (m.drop i) then .exit 0 else .ret) (bif sameP (l.drop i) (m.drop i) then mk 26 [] else mk 26 [(4, bw false)]) := by
  intro k
  induction k with
  | zero =>
    intro i hi
    rw [List.drop_eq_nil_of_le (by omega), List.drop_eq_nil_of_le (by omega)]
    refine .stop ?_ (by simp [sameP])
    rw [b36, decide_eq_false (by omega)]
    rfl
  | succ k ih =>
    intro i hi
    have h1 : i < l.length := by omega
    have h2 : i < m.length := by omega
    have e1 : l.getD i (0, 0) = l[i] := by rw [List.getD_eq_getElem?_getD, List.getElem?_eq_getElem h1]; rfl
    have e2 : m.getD i (0, 0) = m[i] := by rw [List.getD_eq_getElem?_getD, List.getElem?_eq_getElem h2]; rfl
    have hbd := b36 l m l.length i
    rw [decide_eq_true (by omega : (i : Int) < l.length), decide_eq_true (by omega : (0 : Int) ≤ i), decide_eq_true (by omega : (i : Int) < m.length), Int.toNat_natCast, e1, e2, wrap_succ (by omega)] at hbd
    rw [List.drop_eq_getElem_cons h1, List.drop_eq_getElem_cons h2]
    have hs : sameP (l[i] :: l.drop (i + 1)) (m[i] :: m.drop (i + 1)) = (decide (l[i] = m[i]) && sameP (l.drop (i + 1)) (m.drop (i + 1))) := rfl
    rw [hs]
    by_cases he : l[i] = m[i]
    · rw [decide_eq_true he]
      refine .step ?_ (ih (i + 1) (by omega))
      rw [hbd, he]
      simp
    · rw [decide_eq_false he]
      refine .stop ?_ (by simp)
      rw [hbd]
      have : (l[i].1 == m[i].1 && (l[i].2 == m[i].2 && true)) = false := by
        rw [← Bool.not_eq_true]
        simp only [Bool.and_eq_true, beq_iff_eq, and_true]
        exact fun ⟨q1, q2⟩ => he (Prod.ext q1 q2)
      rw [this]
      rfl
theorem loop31 : LoopOk E31 0 (loopAt Try.f31 0) := by
  intro st R K r h
  obtain ⟨hn, h⟩ := req_some h
  obtain ⟨l, e0, h⟩ := gQs_some h
  obtain ⟨m, e1, h⟩ := gQs_some h
  obtain ⟨n, e2, h⟩ := gI_some h
  obtain ⟨i, e3, h⟩ := gI_some h
  obtain ⟨hc, h⟩ := req_some h
  simp only [Bool.and_eq_true, decide_eq_true_eq] at hc
  obtain ⟨⟨⟨⟨hc1, hc2⟩, hc3⟩, hc4⟩, hc5⟩ := hc
  rw [keep_mk (of_decide_eq_true hn)]
  have e := runs31 l m hc2 hc3 (l.length - i.toNat) i.toNat (by omega)
  have es : mk 26 ((E31.lv 0).map fun i => (i, getS (keep (E31.lv 0) st) i)) = st31 l m l.length i.toNat := by
    show mk 26 [(0, getS (keep (E31.lv 0) st) 0), (1, getS (keep (E31.lv 0) st) 1), (12, getS (keep (E31.lv 0) st) 12), (13, getS (keep (E31.lv 0) st) 13)] = _
    rw [e0, e1, e2, e3, hc1, Int.toNat_of_nonneg hc4]
    rfl
  rw [es]
  cases hs : sameQ (l.drop i.toNat) (m.drop i.toNat) <;> rw [hs] at h e <;> exact ⟨_, _, e, h⟩
theorem loop36 : LoopOk E36 0 (loopAt Try.f36 0) := by
  intro st R K r h
  obtain ⟨hn, h⟩ := req_some h
  obtain ⟨l, e0, h⟩ := gPs_some h
  obtain ⟨m, e1, h⟩ := gPs_some h
  obtain ⟨n, e2, h⟩ := gI_some h
  obtain ⟨i, e3, h⟩ := gI_some h
  obtain ⟨hc, h⟩ := req_some h
  simp only [Bool.and_eq_true, decide_eq_true_eq] at hc
  obtain ⟨⟨⟨⟨hc1, hc2⟩, hc3⟩, hc4⟩, hc5⟩ := hc
  rw [keep_mk (of_decide_eq_true hn)]
  have e := runs36 l m hc2 hc3 (l.length - i.toNat) i.toNat (by omega)
  have es : mk 26 ((E36.lv 0).map fun i => (i, getS (keep (E36.lv 0) st) i)) = st36 l m l.length i.toNat := by
    show mk 26 [(0, getS (keep (E36.lv 0) st) 0), (1, getS (keep (E36.lv 0) st) 1), (12, getS (keep (E36.lv 0) st) 12), (13, getS (keep (E36.lv 0) st) 13)] = _
    rw [e0, e1, e2, e3, hc1, Int.toNat_of_nonneg hc4]
    rfl
  rw [es]
  cases hs : sameP (l.drop i.toNat) (m.drop i.toNat) <;> rw [hs] at h e <;> exact ⟨_, _, e, h⟩
theorem sameQ_len : ∀ l m : List Q, sameQ l m = true → l.length = m.length
  | [], [], _ => rfl
  | [], _ :: _, h => nomatch h
  | _ :: _, [], h => nomatch h
  | a :: l, b :: m, h => by
    have := sameQ_len l m (Bool.and_eq_true_iff.mp h).2
    rw [List.length_cons, List.length_cons, this]
theorem sameP_len : ∀ l m : List Pt, sameP l m = true → l.length = m.length
  | [], [], _ => rfl
  | [], _ :: _, h => nomatch h
  | _ :: _, [], h => nomatch h
  | a :: l, b :: m, h => by
    have := sameP_len l m (Bool.and_eq_true_iff.mp h).2
    rw [List.length_cons, List.length_cons, this]
theorem e31 (l m : List Q) (hb : l.length < 4611686018427387904) : evalF E31 Try.f31 [qsv l, qsv m] = some (bw (sameQ l m), []) := by
  rw [t31]
  by_cases hm : m.length = l.length
  · have c1 : ((l.length : Int) != (m.length : Int)) = false := by rw [hm]; simp
    rw [c1, decide_eq_true hm, decide_eq_true hb, decide_eq_true (by omega : (0 : Int) ≤ l.length)]
    simp only [decide_true, Bool.and_self, cond_false, List.drop_zero]
    cases sameQ l m <;> rfl
  · have c1 : ((l.length : Int) != (m.length : Int)) = true := by simp; omega
    have c2 : sameQ l m = false := by
      rw [← Bool.not_eq_true]
      exact fun h => hm (sameQ_len l m h).symm
    rw [c1, c2]
    rfl
theorem e36 (l m : List Pt) (hb : l.length < 4611686018427387904) : evalF E36 Try.f36 [psv l, psv m] = some (bw (sameP l m), []) := by
  rw [t36]
  by_cases hm : m.length = l.length
  · have c1 : ((l.length : Int) != (m.length : Int)) = false := by rw [hm]; simp
    rw [c1, decide_eq_true hm, decide_eq_true hb, decide_eq_true (by omega : (0 : Int) ≤ l.length)]
    simp only [decide_true, Bool.and_self, cond_false, List.drop_zero]
    cases sameP l m <;> rfl
  · have c1 : ((l.length : Int) != (m.length : Int)) = true := by simp; omega
    have c2 : sameP l m = false := by
      rw [← Bool.not_eq_true]
      exact fun h => hm (sameP_len l m h).symm
    rw [c1, c2]
    rfl
end Go.Proofs.Ythdndibmakfifaa.Ev
