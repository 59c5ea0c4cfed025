/- That Minus, of the program's own and of the reference's alike, answers the four parts that have pixels. Conditions: none. -/
import Derived.Test.YthdndibmakfifaaRi
import Derived.Test.YthdndibmakfifaaRf
namespace Go.Proofs.Ythdndibmakfifaa.Ev
open Go.Proofs
set_option linter.unusedVariables false
set_option maxRecDepth 100000
set_option maxHeartbeats 1000000

def st32 (acc l : List Q) (n i : Int) : St := mk 89 [(8, qso acc), (74, qso l), (75, iv n), (76, iv i)]
def st33 (acc l : List Q) (i : Int) : St := mk 91 [(14, qso l), (15, qso acc), (16, iv i)]
theorem b32 (acc l : List Q) (n i : Int) : evalCode E32 (loopAt Try.f32 0) 0 (st32 acc l n i) (kp E32 0) = bif decide (i < n) then
    bif decide (0 ≤ i) && decide (i < (l.length : Int)) then bif !zq (l.getD i.toNat (0, 0, 0, 0)) then
      bif decide ((acc ++ [l.getD i.toNat (0, 0, 0, 0)]).length * 32 ≤ 140737488355328) then some (.normal, st32 (acc ++ [l.getD i.toNat (0, 0, 0, 0)]) l n (IntKind.i64.wrap (i + 1))) else none
      else some (.normal, st32 acc l n (IntKind.i64.wrap (i + 1))) else none else some (.exit 0, mk 89 [(8, qso acc)]) := by kernel_rfl
theorem b33 (acc l : List Q) (i : Int) : evalCode E33 (loopAt Try.f33 0) 0 (st33 acc l i) (kp E33 0) = bif decide (i < (l.length : Int)) then
    bif decide (0 ≤ i) && decide (i < (l.length : Int)) then bif !empty (l.getD i.toNat (0, 0, 0, 0)) then
      bif decide (0 ≤ i) && decide (i < (l.length : Int)) then bif decide ((acc ++ [l.getD i.toNat (0, 0, 0, 0)]).length * 32 ≤ 140737488355328) then some (.normal, st33 (acc ++ [l.getD i.toNat (0, 0, 0, 0)]) l (IntKind.i64.wrap (i + 1))) else none else none
      else some (.normal, st33 acc l (IntKind.i64.wrap (i + 1))) else none else some (.exit 0, mk 91 [(15, qso acc)]) := by kernel_rfl
theorem wrap_next {i : Nat} (h : i < 4611686018427387904) : IntKind.i64.wrap ((i : Int) + 1) = ((i + 1 : Nat) : Int) := by
  rw [IntKind.wrap_i64]; omega
theorem runs32 (l : List Q) (hl : l.length ≤ 100000) : ∀ (k i : Nat) (acc : List Q), i + k = l.length → acc.length + k ≤ 100000 →
    Runs E32 0 (loopAt Try.f32 0) (st32 acc l l.length i) (.exit 0) (mk 89 [(8, qso (acc ++ nz (l.drop i)))]) := by
  intro k
  induction k with
  | zero =>
    intro i acc hi _
    rw [List.drop_eq_nil_of_le (by omega)]
    refine .stop ?_ (by simp)
    rw [b32, decide_eq_false (by omega), show nz [] = [] from rfl, List.append_nil]
    rfl
  | succ k ih =>
    intro i acc hi ha
    have h1 : i < l.length := by omega
    have e1 : l.getD i (0, 0, 0, 0) = l[i] := by rw [List.getD_eq_getElem?_getD, List.getElem?_eq_getElem h1]; rfl
    have hbd := b32 acc l l.length i
    rw [decide_eq_true (by omega : (i : Int) < l.length), decide_eq_true (by omega : (0 : Int) ≤ i), Int.toNat_natCast, e1, wrap_next (by omega)] at hbd
    have hlen : (acc ++ [l[i]]).length * 32 ≤ 140737488355328 := by rw [List.length_append, List.length_singleton]; omega
    rw [decide_eq_true hlen] at hbd
    rw [List.drop_eq_getElem_cons h1]
    have hs : nz (l[i] :: l.drop (i + 1)) = if zq l[i] = true then nz (l.drop (i + 1)) else l[i] :: nz (l.drop (i + 1)) := rfl
    rw [hs]
    cases hz : zq l[i]
    · rw [hz] at hbd
      have := ih (i + 1) (acc ++ [l[i]]) (by omega) (by rw [List.length_append, List.length_singleton]; omega)
      rw [List.append_assoc] at this
      exact .step (by rw [hbd]; rfl) this
    · rw [hz] at hbd
      exact .step (by rw [hbd]; rfl) (ih (i + 1) acc (by omega) (by omega))
theorem runs33 (l : List Q) (hl : l.length ≤ 100000) : ∀ (k i : Nat) (acc : List Q), i + k = l.length → acc.length + k ≤ 100000 →
    Runs E33 0 (loopAt Try.f33 0) (st33 acc l i) (.exit 0) (mk 91 [(15, qso (acc ++ ne (l.drop i)))]) := by
  intro k
  induction k with
  | zero =>
    intro i acc hi _
    rw [List.drop_eq_nil_of_le (by omega)]
    refine .stop ?_ (by simp)
    rw [b33, decide_eq_false (by omega), show ne [] = [] from rfl, List.append_nil]
    rfl
  | succ k ih =>
    intro i acc hi ha
    have h1 : i < l.length := by omega
    have e1 : l.getD i (0, 0, 0, 0) = l[i] := by rw [List.getD_eq_getElem?_getD, List.getElem?_eq_getElem h1]; rfl
    have hbd := b33 acc l i
    rw [decide_eq_true (by omega : (i : Int) < l.length), decide_eq_true (by omega : (0 : Int) ≤ i), Int.toNat_natCast, e1, wrap_next (by omega)] at hbd
    have hlen : (acc ++ [l[i]]).length * 32 ≤ 140737488355328 := by rw [List.length_append, List.length_singleton]; omega
    rw [decide_eq_true hlen] at hbd
    rw [List.drop_eq_getElem_cons h1]
    have hs : ne (l[i] :: l.drop (i + 1)) = if empty l[i] = true then ne (l.drop (i + 1)) else l[i] :: ne (l.drop (i + 1)) := rfl
    rw [hs]
    cases hz : empty l[i]
    · rw [hz] at hbd
      have := ih (i + 1) (acc ++ [l[i]]) (by omega) (by rw [List.length_append, List.length_singleton]; omega)
      rw [List.append_assoc] at this
      exact .step (by rw [hbd]; rfl) this
    · rw [hz] at hbd
      exact .step (by rw [hbd]; rfl) (ih (i + 1) acc (by omega) (by omega))
theorem loop32 : LoopOk E32 0 (loopAt Try.f32 0) := by
  intro st R K r h
  obtain ⟨hn, h⟩ := req_some h
  obtain ⟨acc, e0, h⟩ := gQo_some h
  obtain ⟨l, e1, h⟩ := gQo_some h
  obtain ⟨n, e2, h⟩ := gI_some h
  obtain ⟨i, e3, h⟩ := gI_some h
  obtain ⟨hc, h⟩ := req_some h
  simp only [Bool.and_eq_true, decide_eq_true_eq] at hc
  obtain ⟨⟨⟨hc1, hc2⟩, hc4⟩, hc5⟩ := hc
  rw [keep_mk (of_decide_eq_true hn)]
  have e := runs32 l (by omega) (l.length - i.toNat) i.toNat acc (by omega) (by omega)
  have es : mk 89 ((E32.lv 0).map fun i => (i, getS (keep (E32.lv 0) st) i)) = st32 acc l l.length i.toNat := by
    show mk 89 [(8, getS (keep (E32.lv 0) st) 8), (74, getS (keep (E32.lv 0) st) 74), (75, getS (keep (E32.lv 0) st) 75), (76, getS (keep (E32.lv 0) st) 76)] = _
    rw [e0, e1, e2, e3, hc1, Int.toNat_of_nonneg hc4]
    rfl
  rw [es]
  exact ⟨_, _, e, h⟩
theorem loop33 : LoopOk E33 0 (loopAt Try.f33 0) := by
  intro st R K r h
  obtain ⟨hn, h⟩ := req_some h
  obtain ⟨l, e0, h⟩ := gQo_some h
  obtain ⟨acc, e1, h⟩ := gQo_some h
  obtain ⟨i, e3, h⟩ := gI_some h
  obtain ⟨hc, h⟩ := req_some h
  simp only [Bool.and_eq_true, decide_eq_true_eq] at hc
  obtain ⟨⟨hc1, hc2⟩, hc4⟩ := hc
  rw [keep_mk (of_decide_eq_true hn)]
  have e := runs33 l (by omega) (l.length - i.toNat) i.toNat acc (by omega) (by omega)
  have es : mk 91 ((E33.lv 0).map fun i => (i, getS (keep (E33.lv 0) st) i)) = st33 acc l i.toNat := by
    show mk 91 [(14, getS (keep (E33.lv 0) st) 14), (15, getS (keep (E33.lv 0) st) 15), (16, getS (keep (E33.lv 0) st) 16)] = _
    rw [e0, e1, e3, Int.toNat_of_nonneg hc2]
    rfl
  rw [es]
  exact ⟨_, _, e, h⟩

def partsP (a m : Q) : List Q := [between a.1 a.2.1 (W (a.1 + a.2.2.1)) m.2.1, between a.1 m.2.1 m.1 (W (m.2.1 + m.2.2.2)),
  between (W (m.1 + m.2.2.1)) m.2.1 (W (a.1 + a.2.2.1)) (W (m.2.1 + m.2.2.2)), between a.1 (W (m.2.1 + m.2.2.2)) (W (a.1 + a.2.2.1)) (W (a.2.1 + a.2.2.2))]
def partsF (a m : Q) : List Q := [ofQ (rlo a 0) (rhi a 0) (rlo a 1) (W (rlo m 1 - 1)), ofQ (rlo a 0) (W (rlo m 0 - 1)) (rlo m 1) (rhi m 1),
  ofQ (W (rhi m 0 + 1)) (rhi a 0) (rlo m 1) (rhi m 1), ofQ (rlo a 0) (rhi a 0) (W (rhi m 1 + 1)) (rhi a 1)]
@[reducible] def oqs (l : List Q) : Option (AV × List AV) := some (qsv l, [])
theorem t32 (a b c d a' b' c' d' : Int) : evalF E32 Try.f32 [q4 a b c d, q4 a' b' c' d'] = bif empty (a, b, c, d) then oqs [] else
    bif empty (meetR (a, b, c, d) (a', b', c', d')) then oqs [(a, b, c, d)] else oqs (nz (partsP (a, b, c, d) (meetR (a, b, c, d) (a', b', c', d')))) := by kernel_rfl
theorem t33 (a b c d a' b' c' d' : Int) : evalF E33 Try.f33 [q4 a b c d, q4 a' b' c' d'] = bif empty (a, b, c, d) then oqs [] else
    bif empty (meetR (a, b, c, d) (a', b', c', d')) then oqs [(a, b, c, d)] else oqs (ne (partsF (a, b, c, d) (meetR (a, b, c, d) (a', b', c', d')))) := by kernel_rfl
end Go.Proofs.Ythdndibmakfifaa.Ev
