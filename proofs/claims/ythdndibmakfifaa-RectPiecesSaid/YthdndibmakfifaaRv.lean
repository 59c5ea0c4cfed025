/- That the law of the pieces answers true. Conditions: none. -/
import Derived.Test.YthdndibmakfifaaRn
import Derived.Test.YthdndibmakfifaaRu
namespace Go.Proofs.Ythdndibmakfifaa.Ev
open Go.Proofs
set_option linter.unusedVariables false
set_option maxRecDepth 100000
set_option maxHeartbeats 0

def apartOf (em : Q → Bool) (m : Q → Q → Q) (x : Q) (p : List Q) : Bool := p.all fun y => em (m x y)
def sumOf (ar : Q → Int) : List Q → Int
  | [] => 0
  | x :: l => ar x + sumOf ar l
def okPs (em : Q → Bool) (w : Q → Q → Bool) (m : Q → Q → Q) (a b : Q) : List Q → List Q → Bool
  | _, [] => true
  | p, x :: l => !em x && w x a && em (m x b) && apartOf em m x p && okPs em w m a b (p ++ [x]) l
def eqQs (l l' : List Q) : Bool := decide (l = l')
def lp9i (em : Q → Bool) (m : Q → Q → Q) (st : St) (R : Type) (K : Ex → St → Option R) : Option R := req (decide (st.length = 70)) (gR st 2 fun a => gR st 3 fun b => gQs st 5 fun l => gI st 6 fun s => gR st 8 fun x => gQs st 25 fun l' => gI st 26 fun n => gI st 27 fun i => gQs st 49 fun p => gI st 50 fun k => gI st 51 fun j =>
  req (decide (k = p.length) && decide (j = 0) && decide (p.length ≤ 4) && apartOf em m x p) (K (.exit 2) (mk 70 [(2, bx a), (3, bx b), (5, qsv l), (6, iv s), (8, bx x), (25, qsv l'), (26, iv n), (27, iv i)])))
def lp9o (em : Q → Bool) (w : Q → Q → Bool) (m : Q → Q → Q) (ar : Q → Int) (st : St) (R : Type) (K : Ex → St → Option R) : Option R := req (decide (st.length = 70)) (gR st 2 fun a => gR st 3 fun b => gQs st 5 fun l => gI st 6 fun s => gQs st 25 fun l' => gI st 26 fun n => gI st 27 fun i =>
  req (eqQs l l' && decide (n = l'.length) && decide (i = 0) && decide (l'.length ≤ 4) && okPs em w m a b [] l' && decide (0 ≤ s) && decide (s ≤ 4398046511104)) (K (.exit 0) (mk 70 [(2, bx a), (3, bx b), (6, iv (s + sumOf ar l'))])))
def E9 (em : Q → Bool) (w : Q → Q → Bool) (m : Q → Q → Q) (ar : Q → Int) (mi : Q → Q → List Q) : Env :=
  { E [(32, sRR fun a b => qsv (mi a b)), (12, s0 (bw true)), (23, sRR fun a b => qv (m a b)), (19, sR fun r => iv (ar r)), (15, sR fun r => bw (em r)), (21, sRR fun a b => bw (w a b))] with
    lv := fun id => match id with | 0 => [2, 3, 5, 6, 25, 26, 27] | _ => [2, 3, 5, 6, 8, 25, 26, 27, 49, 50, 51],
    lx := fun id => match id with | 0 => [2, 3, 4, 6] | _ => [2, 3, 4, 5, 6, 8, 25, 26, 27],
    lp := fun id => match id with | 0 => lp9o em w m ar | _ => lp9i em m }
def st9o (a b : Q) (l : List Q) (s n i : Int) : St := mk 70 [(2, bx a), (3, bx b), (5, qsv l), (6, iv s), (25, qsv l), (26, iv n), (27, iv i)]
def st9i (a b : Q) (l : List Q) (s : Int) (x : Q) (l' : List Q) (n i : Int) (p : List Q) (k j : Int) : St := mk 70 [(2, bx a), (3, bx b), (5, qsv l), (6, iv s), (8, bx x), (25, qsv l'), (26, iv n), (27, iv i), (49, qsv p), (50, iv k), (51, iv j)]

@[reducible] def cutL (l : List Q) (i : Int) : List Q := (l.drop (0 : Int).toNat).take (i.toNat - (0 : Int).toNat)
def xx9 (a b : Q) (s : Int) : St := mk 70 [(2, bx a), (3, bx b), (4, bw false), (6, iv s)]
theorem b9o (em : Q → Bool) (w : Q → Q → Bool) (m : Q → Q → Q) (ar : Q → Int) (mi : Q → Q → List Q) (a b : Q) (l : List Q) (s n i : Int) : evalCode (E9 em w m ar mi) (loopAt Try.f9 0) 0 (st9o a b l s n i) (kp (E9 em w m ar mi) 0) =
    bif decide (i < n) then bif decide (0 ≤ i) && decide (i < (l.length : Int)) then
      bif em (l.getD i.toNat (0, 0, 0, 0)) then some (.ret, xx9 a b s) else bif !w (l.getD i.toNat (0, 0, 0, 0)) a then some (.ret, xx9 a b s) else bif !em (m (l.getD i.toNat (0, 0, 0, 0)) b) then some (.ret, xx9 a b s) else
      bif decide ((0 : Int) ≤ 0) && decide (0 ≤ i) && decide (i ≤ (l.length : Int)) then
        bif decide (((cutL l i).length : Int) = ((cutL l i).length : Int)) && decide ((0 : Int) = 0) && decide ((cutL l i).length ≤ 4) && apartOf em m (l.getD i.toNat (0, 0, 0, 0)) (cutL l i) then
          some (.normal, st9o a b l (W (s + ar (l.getD i.toNat (0, 0, 0, 0)))) n (W (i + 1))) else none else none else none
    else some (.exit 0, mk 70 [(2, bx a), (3, bx b), (6, iv s)]) := by kernel_rfl
theorem b9i (em : Q → Bool) (w : Q → Q → Bool) (m : Q → Q → Q) (ar : Q → Int) (mi : Q → Q → List Q) (a b : Q) (l : List Q) (s : Int) (x : Q) (l' : List Q) (n i : Int) (p : List Q) (k j : Int) : evalCode (E9 em w m ar mi) (loopAt Try.f9 1) 2 (st9i a b l s x l' n i p k j) (kp (E9 em w m ar mi) 2) =
    bif decide (j < k) then bif decide (0 ≤ j) && decide (j < (p.length : Int)) then
      bif !em (m x (p.getD j.toNat (0, 0, 0, 0))) then some (.ret, mk 70 [(2, bx a), (3, bx b), (4, bw false), (5, qsv l), (6, iv s), (8, bx x), (25, qsv l'), (26, iv n), (27, iv i)])
      else some (.normal, st9i a b l s x l' n i p k (W (j + 1))) else none
    else some (.exit 2, mk 70 [(2, bx a), (3, bx b), (5, qsv l), (6, iv s), (8, bx x), (25, qsv l'), (26, iv n), (27, iv i)]) := by kernel_rfl
theorem t9 (em : Q → Bool) (w : Q → Q → Bool) (m : Q → Q → Q) (ar : Q → Int) (mi : Q → Q → List Q) (a b c d a' b' c' d' : Int) : evalF (E9 em w m ar mi) Try.f9 [q4 a b c d, q4 a' b' c' d'] =
    bif decide (((mi (a, b, c, d) (a', b', c', d')).length : Int) > 4) then ob false else
    bif eqQs (mi (a, b, c, d) (a', b', c', d')) (mi (a, b, c, d) (a', b', c', d')) && decide (((mi (a, b, c, d) (a', b', c', d')).length : Int) = ((mi (a, b, c, d) (a', b', c', d')).length : Int)) && decide ((0 : Int) = 0) && decide ((mi (a, b, c, d) (a', b', c', d')).length ≤ 4) &&
        okPs em w m (a, b, c, d) (a', b', c', d') [] (mi (a, b, c, d) (a', b', c', d')) && decide (0 ≤ ar (m (a, b, c, d) (a', b', c', d'))) && decide (ar (m (a, b, c, d) (a', b', c', d')) ≤ 4398046511104) then
      ob (ar (m (a, b, c, d) (a', b', c', d')) + sumOf ar (mi (a, b, c, d) (a', b', c', d')) == ar (a, b, c, d)) else none := by kernel_rfl
abbrev EP : Env := E9 empty within meetR area minus
theorem runs9i (a b : Q) (l : List Q) (s : Int) (x : Q) (l' : List Q) (n i : Int) (p : List Q) (hp : p.length ≤ 4) : ∀ (r q : List Q), p = q ++ r → apartOf empty meetR x r = true →
    Runs EP 2 (loopAt Try.f9 1) (st9i a b l s x l' n i p p.length q.length) (.exit 2) (mk 70 [(2, bx a), (3, bx b), (5, qsv l), (6, iv s), (8, bx x), (25, qsv l'), (26, iv n), (27, iv i)]) := by
  intro r
  induction r with
  | nil =>
    intro q hq _
    refine .stop ?_ (by simp)
    rw [b9i, decide_eq_false (by rw [hq, List.append_nil]; omega)]
    rfl
  | cons y r ih =>
    intro q hq ha
    simp only [apartOf, List.all_cons, Bool.and_eq_true] at ha
    have hl : p.length = q.length + (r.length + 1) := by rw [hq, List.length_append, List.length_cons]
    have e1 : p.getD q.length (0, 0, 0, 0) = y := by rw [hq, List.getD_eq_getElem?_getD, List.getElem?_append_right (Nat.le_refl _), Nat.sub_self]; rfl
    have hbd := b9i empty within meetR area minus a b l s x l' n i p p.length q.length
    rw [decide_eq_true (by omega : (q.length : Int) < p.length), decide_eq_true (by omega : (0 : Int) ≤ q.length), Int.toNat_natCast, e1, ha.1, W_small (n := (q.length : Int) + 1) (by omega) (by omega)] at hbd
    have := ih (q ++ [y]) (by rw [hq, List.append_assoc]; rfl) ha.2
    rw [List.length_append, List.length_singleton, Int.natCast_add] at this
    exact .step hbd this
theorem loop9i : LoopOk EP 2 (loopAt Try.f9 1) := by
  intro st R K z h
  obtain ⟨hn, h⟩ := req_some h
  obtain ⟨a, e0, h⟩ := gR_some h
  obtain ⟨b, e1, h⟩ := gR_some h
  obtain ⟨l, e2, h⟩ := gQs_some h
  obtain ⟨s, e3, h⟩ := gI_some h
  obtain ⟨x, e4, h⟩ := gR_some h
  obtain ⟨l', e5, h⟩ := gQs_some h
  obtain ⟨n, e6, h⟩ := gI_some h
  obtain ⟨i, e7, h⟩ := gI_some h
  obtain ⟨p, e8, h⟩ := gQs_some h
  obtain ⟨k, e9, h⟩ := gI_some h
  obtain ⟨j, e10, h⟩ := gI_some h
  obtain ⟨hc, h⟩ := req_some h
  simp only [Bool.and_eq_true, decide_eq_true_eq] at hc
  obtain ⟨⟨⟨h1, h2⟩, h3⟩, h4⟩ := hc
  rw [keep_mk (of_decide_eq_true hn)]
  have e := runs9i a b l s x l' n i p h3 p [] rfl h4
  have es : mk 70 ((EP.lv 2).map fun i => (i, getS (keep (EP.lv 2) st) i)) = st9i a b l s x l' n i p p.length (([] : List Q).length : Nat) := by
    show mk 70 [(2, getS (keep (EP.lv 2) st) 2), (3, getS (keep (EP.lv 2) st) 3), (5, getS (keep (EP.lv 2) st) 5), (6, getS (keep (EP.lv 2) st) 6), (8, getS (keep (EP.lv 2) st) 8), (25, getS (keep (EP.lv 2) st) 25), (26, getS (keep (EP.lv 2) st) 26), (27, getS (keep (EP.lv 2) st) 27), (49, getS (keep (EP.lv 2) st) 49), (50, getS (keep (EP.lv 2) st) 50), (51, getS (keep (EP.lv 2) st) 51)] = _
    rw [e0, e1, e2, e3, e4, e5, e6, e7, e8, e9, e10, h1, h2]
    rfl
  rw [es]
  exact ⟨_, _, e, h⟩
theorem runs9o (a b : Q) (l : List Q) (hl : l.length ≤ 4) : ∀ (r q : List Q) (s : Int), l = q ++ r → okPs empty within meetR a b q r = true → 0 ≤ s → s ≤ 4398046511104 * (q.length + 1) →
    Runs EP 0 (loopAt Try.f9 0) (st9o a b l s l.length q.length) (.exit 0) (mk 70 [(2, bx a), (3, bx b), (6, iv (s + sumOf area r))]) := by
  intro r
  induction r with
  | nil =>
    intro q s hq _ _ _
    refine .stop ?_ (by simp)
    rw [b9o, decide_eq_false (by rw [hq, List.append_nil]; omega), show sumOf area [] = 0 from rfl, Int.add_zero]
    rfl
  | cons y r ih =>
    intro q s hq ho h0 hs
    simp only [okPs, Bool.and_eq_true, Bool.not_eq_true'] at ho
    obtain ⟨⟨⟨⟨o1, o2⟩, o3⟩, o4⟩, o5⟩ := ho
    have hlen : l.length = q.length + (r.length + 1) := by rw [hq, List.length_append, List.length_cons]
    have e1 : l.getD q.length (0, 0, 0, 0) = y := by rw [hq, List.getD_eq_getElem?_getD, List.getElem?_append_right (Nat.le_refl _), Nat.sub_self]; rfl
    have e2 : cutL l q.length = q := by
      show (l.drop 0).take (((q.length : Nat) : Int).toNat - 0) = q
      rw [Int.toNat_natCast, List.drop_zero, Nat.sub_zero, hq, List.take_left]
    have har := area_nonneg y
    have hbd := b9o empty within meetR area minus a b l s l.length q.length
    rw [decide_eq_true (by omega : (q.length : Int) < l.length), decide_eq_true (by omega : (0 : Int) ≤ q.length), decide_eq_true (by omega : (q.length : Int) ≤ l.length), Int.toNat_natCast, e1, e2, o1, o2, o3, o4, decide_eq_true (by omega : q.length ≤ 4),
      decide_eq_true (rfl : (q.length : Int) = q.length), W_small (n := (q.length : Int) + 1) (by omega) (by omega), W_small (n := s + area y) (by omega) (by omega)] at hbd
    have := ih (q ++ [y]) (s + area y) (by rw [hq, List.append_assoc]; rfl) o5 (by omega) (by rw [List.length_append, List.length_singleton]; omega)
    rw [List.length_append, List.length_singleton, Int.natCast_add, Int.add_assoc] at this
    exact .step hbd this
theorem loop9o : LoopOk EP 0 (loopAt Try.f9 0) := by
  intro st R K z h
  obtain ⟨hn, h⟩ := req_some h
  obtain ⟨a, e0, h⟩ := gR_some h
  obtain ⟨b, e1, h⟩ := gR_some h
  obtain ⟨l, e2, h⟩ := gQs_some h
  obtain ⟨s, e3, h⟩ := gI_some h
  obtain ⟨l', e5, h⟩ := gQs_some h
  obtain ⟨n, e6, h⟩ := gI_some h
  obtain ⟨i, e7, h⟩ := gI_some h
  obtain ⟨hc, h⟩ := req_some h
  simp only [Bool.and_eq_true, decide_eq_true_eq, eqQs] at hc
  obtain ⟨⟨⟨⟨⟨⟨h0, h1⟩, h2⟩, h3⟩, h4⟩, h5⟩, h6⟩ := hc
  subst h0
  rw [keep_mk (of_decide_eq_true hn)]
  have e := runs9o a b l h3 l [] s rfl h4 h5 (by rw [List.length_nil]; omega)
  have es : mk 70 ((EP.lv 0).map fun i => (i, getS (keep (EP.lv 0) st) i)) = st9o a b l s l.length (([] : List Q).length : Nat) := by
    show mk 70 [(2, getS (keep (EP.lv 0) st) 2), (3, getS (keep (EP.lv 0) st) 3), (5, getS (keep (EP.lv 0) st) 5), (6, getS (keep (EP.lv 0) st) 6), (25, getS (keep (EP.lv 0) st) 25), (26, getS (keep (EP.lv 0) st) 26), (27, getS (keep (EP.lv 0) st) 27)] = _
    rw [e0, e1, e2, e3, e5, e6, e7, h1, h2]
    rfl
  rw [es]
  exact ⟨_, _, e, h⟩
theorem sumOf_area : ∀ l, sumOf area l = sumA l
  | [] => rfl
  | x :: l => by rw [sumOf, sumA, sumOf_area l]
theorem okPs_good (a b : Q) : ∀ (r q : List Q), (∀ x ∈ r, empty x = false ∧ within x a = true ∧ empty (meetR x b) = true) → (q ++ r).Pairwise (fun y x => empty (meetR x y) = true) → okPs empty within meetR a b q r = true
  | [], _, _, _ => rfl
  | x :: r, q, h1, h2 => by
    have h := h1 x (List.mem_cons_self ..)
    have hp : apartOf empty meetR x q = true := List.all_eq_true.mpr fun y hy => (List.pairwise_append.mp h2).2.2 y hy x (List.mem_cons_self ..)
    rw [okPs, h.1, h.2.1, h.2.2, hp, okPs_good a b r (q ++ [x]) (fun y hy => h1 y (List.mem_cons_of_mem _ hy)) (by rw [List.append_assoc]; exact h2)]
    rfl
theorem e9 (a b c d a' b' c' d' : Int) : evalF EP Try.f9 [q4 a b c d, q4 a' b' c' d'] = ob true := by
  rw [t9]
  obtain ⟨g, hs⟩ := minus_good (a, b, c, d) (a', b', c', d')
  have hl := minus_len (a, b, c, d) (a', b', c', d')
  have ha := area_nonneg (meetR (a, b, c, d) (a', b', c', d'))
  rw [decide_eq_false (by omega), okPs_good _ _ _ [] g.ne g.ap, decide_eq_true hl, decide_eq_true ha.1, decide_eq_true ha.2, sumOf_area, hs]
  simp [eqQs]
theorem g9 : ∀ f, Meets Try.prog f (EP.sp f) := specs_cons m32 (specs_cons m12 (specs_cons m23 (specs_cons m19 (specs_cons m15 (specs_cons m21 specs_nil)))))
theorem m9 : Meets Try.prog 9 (sRR fun _ _ => bw true) := mRR (rdL (e := EP) rfl g9 (n := 9) (fn := Try.f9) (k := 2) (by kernel_rfl) (by kernel_rfl) (of_decide_eq_true (by kernel_rfl)) (show loopsOf Try.f9 = [(0, loopAt Try.f9 0), (2, loopAt Try.f9 1)] by kernel_rfl) (fun p hp => by
  rcases List.mem_cons.mp hp with h | h
  · cases h; exact loop9o
  · cases List.mem_singleton.mp h; exact loop9i)) e9
end Go.Proofs.Ythdndibmakfifaa.Ev
