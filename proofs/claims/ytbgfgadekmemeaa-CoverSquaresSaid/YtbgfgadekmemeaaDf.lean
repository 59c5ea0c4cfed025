/- That the law of cuts answers true. Conditions: none. Printed by gen.py of this session. -/
import Derived.Test.YtbgfgadekmemeaaDe
namespace Go.Proofs.Ytbgfgadekmemeaa.Ev
open Go.Proofs
set_option linter.unusedVariables false
set_option linter.unusedSimpArgs false
set_option maxRecDepth 100000
set_option maxHeartbeats 1000000

@[reducible] def op (l : List Pt) : AV := .rv (.sc (.sl (some 48) (.pts l)))
def gOp (st : St) (t : Nat) {R : Type} (K : List Pt → Option R) : Option R := match getS st t with
  | .rv (.sc (.sl (some 48) (.pts l))) => K l
  | _ => none
theorem gOp_some {st : St} {t : Nat} {R : Type} {r : R} {K : List Pt → Option R} (h : gOp st t K = some r) : ∃ n, getS st t = op n ∧ K n = some r := by
  unfold gOp at h
  split at h
  · exact ⟨_, ‹_›, h⟩
  · cases h
abbrev MkF := Ps → Int → Q → Mk × Int
abbrev SmF := Mk → Mk → Bool
/-- Both masks are the same. -/
def same2 (mk' : MkF) (sm : SmF) (ps qs : Ps) (rule : Int) (r : Q) : Bool := ((mk' ps rule r).2 == (mk' qs rule r).2) && (decide ((mk' ps rule r).1.2.2.length < 4611686018427387904) && sm (mk' ps rule r).1 (mk' qs rule r).1)
def ok7 (mk' : MkF) (sm : SmF) (p a b : List Pt) (r : Q) : Bool := shortPs [p] && shortPs [a, b] && same2 mk' sm [p] [a, b] 0 r && same2 mk' sm [p] [a, b] 1 r
def lp7 (mk' : MkF) (sm : SmF) (st : St) (R : Type) (K : Ex → St → Option R) : Option R := req (decide (st.length = 77)) (gPs st 0 fun p => gQ st 5 fun r => gOp st 8 fun a => gOp st 9 fun b => gI st 47 fun i =>
  req (decide (i = 0) && ok7 mk' sm p a b r) (K (.exit 0) (mk 77 [])))
def L7 (mk' : MkF) (sm : SmF) : List Entry := [(11, pT d0, sp d0 fun _ => bw true), (18, pMk, sp dPRQ fun a => mev (mk' a.1 a.2.1 a.2.2)), (20, pSm, sp dMM fun a => bw (sm a.1 a.2))]
def E7 (mk' : MkF) (sm : SmF) : Env := { EG (L7 mk' sm) with lv := fun _ => [0, 5, 8, 9, 47], lx := fun _ => [], lp := fun _ => lp7 mk' sm }
def st7 (p : List Pt) (r : Q) (a b : List Pt) (i : Int) : St := mk 77 [(0, psv p), (5, bQ r), (8, op a), (9, op b), (47, iv i)]
def body7 (x y : Mk × Int) (sm : SmF) (z : Option (Ex × St)) : Option (Ex × St) := bif x.2 != y.2 then some (.ret, mk 77 []) else bif decide (x.1.2.2.length < 4611686018427387904) then bif !sm x.1 y.1 then some (.ret, mk 77 []) else z else none
theorem b7 (mk' : MkF) (sm : SmF) (p : List Pt) (r : Q) (a b : List Pt) (i : Int) : evalCode (E7 mk' sm) (loopAt Try.f7 0) 0 (st7 p r a b i) (kp (E7 mk' sm) 0) = bif decide (i < 2) then bif shortPs [p] then bif shortPs [a, b] then
      body7 (mk' [p] i r) (mk' [a, b] i r) sm (some (.normal, st7 p r a b (W (i + 1)))) else none else none
    else some (.exit 0, mk 77 []) := by kernel_rfl
theorem body7_ok {mk' : MkF} {sm : SmF} {ps qs : Ps} {rule : Int} {r : Q} (h : same2 mk' sm ps qs rule r = true) (z : Option (Ex × St)) : body7 (mk' ps rule r) (mk' qs rule r) sm z = z := by
  simp only [same2, Bool.and_eq_true, beq_iff_eq] at h
  unfold body7
  rw [bne_eq_false_iff_eq.mpr h.1, h.2.1, h.2.2]
  rfl
theorem runs7 (mk' : MkF) (sm : SmF) (p : List Pt) (r : Q) (a b : List Pt) (h : ok7 mk' sm p a b r = true) : Runs (E7 mk' sm) 0 (loopAt Try.f7 0) (st7 p r a b 0) (.exit 0) (mk 77 []) := by
  simp only [ok7, Bool.and_eq_true] at h
  obtain ⟨⟨⟨h1, h2⟩, h3⟩, h4⟩ := h
  have e0 := b7 mk' sm p r a b 0
  have e1 := b7 mk' sm p r a b 1
  have e2 := b7 mk' sm p r a b 2
  rw [h1, h2, body7_ok h3, W_small (by omega) (by omega)] at e0
  rw [h1, h2, body7_ok h4, W_small (by omega) (by omega)] at e1
  exact .step e0 (.step e1 (.stop e2 (by simp)))
theorem loop7 (mk' : MkF) (sm : SmF) : LoopOk (E7 mk' sm) 0 (loopAt Try.f7 0) := by
  intro st R K z h
  obtain ⟨hn, h⟩ := req_some h
  obtain ⟨p, e0, h⟩ := gPs_some h
  obtain ⟨r, e1, h⟩ := gQ_some h
  obtain ⟨a, e2, h⟩ := gOp_some h
  obtain ⟨b, e3, h⟩ := gOp_some h
  obtain ⟨i, e4, h⟩ := gI_some h
  obtain ⟨hc, h⟩ := req_some h
  simp only [Bool.and_eq_true, decide_eq_true_eq] at hc
  obtain ⟨h1, h2⟩ := hc
  rw [keep_mk (of_decide_eq_true hn)]
  have e := runs7 mk' sm p r a b h2
  have es : mk 77 (((E7 mk' sm).lv 0).map fun i => (i, getS (keep ((E7 mk' sm).lv 0) st) i)) = st7 p r a b 0 := by
    show mk 77 [(0, getS (keep ((E7 mk' sm).lv 0) st) 0), (5, getS (keep ((E7 mk' sm).lv 0) st) 5), (8, getS (keep ((E7 mk' sm).lv 0) st) 8), (9, getS (keep ((E7 mk' sm).lv 0) st) 9), (47, getS (keep ((E7 mk' sm).lv 0) st) 47)] = _
    rw [e0, e1, e2, e3, e4, h1]
    rfl
  rw [es]
  exact ⟨_, _, e, h⟩
@[reducible] def u16v (n : Int) : AV := .rv (.sc (.int .u16 n))
@[reducible] def n7 (a : List Pt × Int × Q) : List AV := [psv a.1, u16v a.2.1, qv a.2.2]
def d7 : List AV → Option (List Pt × Int × Q)
  | [.rv (.sc (.sl none (.pts l))), .rv (.sc (.int .u16 n)), .rv (.agg [.int .i64 x, .int .i64 y, .int .i64 z, .int .i64 t])] => some (l, n, (x, y, z, t))
  | _ => none
theorem hd7 {us : List AV} {a} (h : d7 us = some a) : us = n7 a := by unfold d7 at h; split at h <;> cases h; rfl
def aps (l m : List Pt) (K : List Pt → Option (AV × List AV)) : Option (AV × List AV) := bif decide (0 < m.length) && decide ((l ++ m).length * 16 ≤ 140737488355328) then K (l ++ m) else none
def tree7 (mk' : MkF) (sm : SmF) (p : List Pt) (k : Int) (r : Q) : Option (AV × List AV) :=
  bif decide ((0 : Int) ≤ 0) && decide (0 ≤ W (k + 1)) && decide (W (k + 1) ≤ p.length) then aps [] ((p.drop 0).take ((W (k + 1)).toNat - 0)) fun a =>
    bif decide (0 ≤ k) && decide (k ≤ (p.length : Int)) && decide ((p.length : Int) ≤ p.length) then aps [] ((p.drop k.toNat).take ((p.length : Int).toNat - k.toNat)) fun b0 =>
      bif decide ((0 : Int) ≤ 0) && decide ((0 : Int) < p.length) then aps b0 [p.getD 0 (0, 0)] fun b => bif decide ((0 : Int) = 0) && ok7 mk' sm p a b r then ob true else none else none else none else none
theorem t7 (mk' : MkF) (sm : SmF) (p : List Pt) (n x y z t : Int) : evalF (E7 mk' sm) Try.f7 (n7 (p, n, (x, y, z, t))) = bif decide ((p.length : Int) < 2) then ob true else bif decide ((p.length : Int) > 2000) then ob true else
    bif decide ((p.length : Int) = 0) then none else tree7 mk' sm p ((W n).tmod p.length) (x, y, z, t) := by kernel_rfl
/-! ### The plain law -/
theorem maskP_congr {ps qs : Ps} {rule : Int} (h1 : chkC ps rule = chkC qs rule) (h2 : ∀ x y, fW ps rule x y = fW qs rule x y) (r : Q) : maskP ps rule r = maskP qs rule r := by
  unfold maskP
  rw [h1, show fW ps rule = fW qs rule from funext fun x => funext fun y => h2 x y]
theorem same2_of {ps qs : Ps} {rule : Int} {r : Q} (h : maskP ps rule r = maskP qs rule r) : same2 maskP sameM ps qs rule r = true := by
  unfold same2
  rw [← h, beq_self_eq_true, mask_lt, sameM_self]; rfl
theorem fW_turns {ps qs : Ps} (rule : Int) {x y : Int} (h : turns ps x y = turns qs x y) : fW ps rule x y = fW qs rule x y := by
  unfold fW
  rw [wnd_eq, wnd_eq, h]
theorem all_cut {p : List Pt} {k : Nat} (hk : k < p.length) : (okPts (p.take (k + 1)) && okPts (p.drop k ++ p.take 1)) = okPts p := by
  rw [Bool.eq_iff_iff, Bool.and_eq_true]
  unfold okPts
  simp only [List.all_eq_true, List.mem_append]
  constructor
  · rintro ⟨h1, h2⟩ x hx
    rw [← List.take_append_drop (k + 1) p, List.mem_append] at hx
    rcases hx with hx | hx
    · exact h1 x hx
    · refine h2 x (.inl ?_)
      rw [List.drop_eq_getElem_cons hk]
      exact List.mem_cons_of_mem _ hx
  · intro h
    refine ⟨fun x hx => h x (List.mem_of_mem_take hx), fun x hx => ?_⟩
    rcases hx with hx | hx
    · exact h x (List.mem_of_mem_drop hx)
    · exact h x (List.mem_of_mem_take hx)
theorem cut_eq {p : List Pt} {k : Nat} (hk : k < p.length) (hp : p.length ≤ 2000) (rule : Int) (r : Q) : maskP [p] rule r = maskP [p.take (k + 1), p.drop k ++ p.take 1] rule r := by
  refine maskP_congr ?_ (fun x y => fW_turns rule ?_) r
  · have e1 : totW [p] 0 = p.length := by
      show W (0 + (p.length : Int)) = _
      rw [W_small (by omega) (by omega)]; omega
    have e2 : totW [p.take (k + 1), p.drop k ++ p.take 1] 0 = p.length + 2 := by
      show W (W (0 + ((p.take (k + 1)).length : Int)) + ((p.drop k ++ p.take 1).length : Int)) = _
      rw [List.length_append, List.length_take, List.length_take, List.length_drop, W_small (n := 0 + ((min (k + 1) p.length : Nat) : Int)) (by omega) (by omega), W_small (by omega) (by omega)]
      omega
    unfold chkC
    rw [e1, e2, decide_eq_false (by omega : ¬ (p.length : Int) > 4096), decide_eq_false (by omega : ¬ (p.length : Int) + 2 > 4096)]
    have e3 : allPts [p] = allPts [p.take (k + 1), p.drop k ++ p.take 1] := by
      unfold allPts
      simp only [List.all_cons, List.all_nil, Bool.and_true]
      exact (all_cut hk).symm
    rw [e3]
  · have := sumG_cut (fun p q => crw p q x y) (crw_anti x y) p k hk
    unfold turns turn
    simp only [List.map_cons, List.map_nil, List.sum_cons, List.sum_nil]
    omega
theorem aps_ok {l m : List Pt} (h1 : 0 < m.length) (h2 : (l ++ m).length ≤ 100000) (K : List Pt → Option (AV × List AV)) : aps l m K = K (l ++ m) := by
  unfold aps
  rw [decide_eq_true h1, decide_eq_true (by omega)]; rfl
theorem tree7_ok {p : List Pt} (h2 : 2 ≤ p.length) (h3 : p.length ≤ 2000) {k : Nat} (hk : k < p.length) (r : Q) : tree7 maskP sameM p k r = ob true := by
  unfold tree7
  rw [W_small (n := (k : Int) + 1) (by omega) (by omega), decide_eq_true (by omega : (0 : Int) ≤ 0), decide_eq_true (by omega : 0 ≤ (k : Int) + 1), decide_eq_true (by omega : (k : Int) + 1 ≤ p.length), decide_eq_true (by omega : (0 : Int) ≤ (k : Int)), decide_eq_true (by omega : (k : Int) ≤ (p.length : Int)), decide_eq_true (by omega : (p.length : Int) ≤ p.length), decide_eq_true (by omega : (0 : Int) < p.length),
    List.drop_zero, Nat.sub_zero, show ((k : Int) + 1).toNat = k + 1 by omega, Int.toNat_natCast, Int.toNat_natCast]
  have e1 : (p.drop k).take (p.length - k) = p.drop k := List.take_of_length_le (by rw [List.length_drop]; omega)
  have e2 : [p.getD 0 (0, 0)] = p.take 1 := by
    cases p with
    | nil => simp at h2
    | cons a t => rfl
  simp only [Bool.and_true, cond_true]
  rw [aps_ok (by rw [List.length_take]; omega) (by rw [List.nil_append, List.length_take]; omega), aps_ok (by rw [e1, List.length_drop]; omega) (by rw [List.nil_append, e1, List.length_drop]; omega), aps_ok (by simp) (by rw [List.length_append, List.nil_append, e1, List.length_drop, List.length_singleton]; omega), List.nil_append, List.nil_append, e1, e2]
  have h0 : ok7 maskP sameM p (p.take (k + 1)) (p.drop k ++ p.take 1) r = true := by
    unfold ok7
    rw [same2_of (cut_eq hk h3 0 r), same2_of (cut_eq hk h3 1 r), short1, show shortL p = true from decide_eq_true (by omega)]
    have : shortPs [p.take (k + 1), p.drop k ++ p.take 1] = true := by
      unfold shortPs
      simp only [List.all_cons, List.all_nil, Bool.and_true, Bool.and_eq_true, decide_eq_true_eq]
      refine ⟨by simp, ?_, ?_⟩
      · rw [List.length_take]; omega
      · rw [List.length_append, List.length_drop, List.length_take]; omega
    rw [this]; rfl
  rw [h0]
  rfl
abbrev p7 : List AV → Bool := ps d7 fun a => decide (0 ≤ a.2.1 ∧ a.2.1 ≤ 65535)
theorem m7 : Meets Try.prog 7 (gate p7 (sp d7 fun _ => bw true)) := mG (rdL (e := E7 maskP sameM) rfl (eg_cons mAw (eg_cons mMk (eg_cons m20 eg_nil))) (fn := Try.f7) (k := 3) (by kernel_rfl) (by kernel_rfl) (of_decide_eq_true (by kernel_rfl)) (show loopsOf Try.f7 = [(0, loopAt Try.f7 0)] by kernel_rfl)
    (fun p hp => by cases List.mem_singleton.mp hp; exact loop7 maskP sameM)) (fun _ _ => hd7) (fun _ => ⟨rfl, Nat.le_refl _⟩)
  fun ⟨p, n, x, y, z, t⟩ hp => by
    have hn := of_decide_eq_true hp
    simp only at hn
    refine (t7 maskP sameM p n x y z t).trans ?_
    by_cases h2 : (p.length : Int) < 2
    · rw [decide_eq_true h2]; rfl
    by_cases h3 : (p.length : Int) > 2000
    · rw [decide_eq_false h2, decide_eq_true h3]; rfl
    rw [decide_eq_false h2, decide_eq_false h3, decide_eq_false (by omega : ¬ (p.length : Int) = 0)]
    have e1 : W n = n := W_small (by omega) (by omega)
    have h4 : 0 ≤ n.tmod p.length := Int.tmod_nonneg _ (by omega)
    have h5 : n.tmod p.length < p.length := Int.tmod_lt_of_pos _ (by omega)
    have := tree7_ok (p := p) (by omega) (by omega) (k := (n.tmod p.length).toNat) (by omega) (x, y, z, t)
    rw [show (((n.tmod p.length).toNat : Nat) : Int) = n.tmod p.length by omega] at this
    rw [e1]
    exact this
theorem k8 {u : Int} (h : (Lit.int .u8 u).wf = true) : 0 ≤ u ∧ u ≤ 255 := by
  have h' : (decide (IntKind.u8.min ≤ u) && decide (u ≤ IntKind.u8.max)) = true := h
  simp only [Bool.and_eq_true, decide_eq_true_eq] at h'
  exact h'
theorem k16 {u : Int} (h : (Lit.int .u16 u).wf = true) : 0 ≤ u ∧ u ≤ 65535 := by
  have h' : (decide (IntKind.u16.min ≤ u) && decide (u ≤ IntKind.u16.max)) = true := h
  simp only [Bool.and_eq_true, decide_eq_true_eq] at h'
  exact h'
theorem ki8 {u : Int} (h : (Lit.int .i8 u).wf = true) : -128 ≤ u ∧ u ≤ 127 := by
  have h' : (decide (IntKind.i8.min ≤ u) && decide (u ≤ IntKind.i8.max)) = true := h
  simp only [Bool.and_eq_true, decide_eq_true_eq] at h'
  exact h'
theorem hS7 {l : List Pt} {n x y z t : Int} (h : (Lit.int .u16 n).wf = true) : (gate p7 (sp d7 fun _ => bw true)) [psv l, iw .u16 n, q4 x y z t] = some (bw true, []) := by
  show (bif decide (0 ≤ n ∧ n ≤ 65535) then some (bw true, []) else none) = _
  rw [decide_eq_true (k16 h)]; rfl
end Go.Proofs.Ytbgfgadekmemeaa.Ev

