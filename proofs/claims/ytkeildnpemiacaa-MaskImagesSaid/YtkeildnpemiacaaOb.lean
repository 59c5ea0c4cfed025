/- Images: checks, fading and mixing with masks, comparing; the program's own and the reference's. Conditions: none. Printed by gen.py of this session. -/
import Derived.Test.YtkeildnpemiacaaOa
import Derived.Test.YtkeildnpemiacaaMh
namespace Go.Proofs.Ytkeildnpemiacaa.Ev
open Go.Proofs
set_option linter.unusedVariables false
set_option linter.unusedSimpArgs false
set_option maxRecDepth 100000
set_option maxHeartbeats 1000000

@[reducible] def bIm (m : Im) : AV := .box 46 [.int .i64 m.1, .int .i64 m.2.1, .sl none (.quads m.2.2)]
@[reducible] def bIB (m : Im) : AV := .box 46 [.int .i64 m.1, .int .i64 m.2.1, .sl (some 56) (.quads m.2.2)]
@[reducible] def qsv (l : List Q) : AV := .rv (.sc (.sl none (.quads l)))
def gIm (st : St) (t : Nat) {R : Type} (K : Im → Option R) : Option R := match getS st t with
  | .box 46 [.int .i64 a, .int .i64 b, .sl none (.quads l)] => K (a, b, l)
  | _ => none
def gIB (st : St) (t : Nat) {R : Type} (K : Im → Option R) : Option R := match getS st t with
  | .box 46 [.int .i64 a, .int .i64 b, .sl (some 56) (.quads l)] => K (a, b, l)
  | _ => none
def gQs (st : St) (t : Nat) {R : Type} (K : List Q → Option R) : Option R := match getS st t with
  | .rv (.sc (.sl none (.quads l))) => K l
  | _ => none
def allP (pv : Q → Bool) : List Q → Bool
  | [] => true
  | p :: l => pv p && allP pv l
section
variable {st : St} {t : Nat} {R : Type} {r : R}
theorem gIm_some {K : Im → Option R} (h : gIm st t K = some r) : ∃ n, getS st t = bIm n ∧ K n = some r := by
  unfold gIm at h
  split at h
  · exact ⟨(_, _, _), ‹_›, h⟩
  · cases h
theorem gIB_some {K : Im → Option R} (h : gIB st t K = some r) : ∃ n, getS st t = bIB n ∧ K n = some r := by
  unfold gIB at h
  split at h
  · exact ⟨(_, _, _), ‹_›, h⟩
  · cases h
theorem gQs_some {K : List Q → Option R} (h : gQs st t K = some r) : ∃ n, getS st t = qsv n ∧ K n = some r := by
  unfold gQs at h
  split at h
  · exact ⟨_, ‹_›, h⟩
  · cases h
end
def dIm : List AV → Option Im
  | [.rv (.agg [.int .i64 a, .int .i64 b, .sl none (.quads l)])] => some (a, b, l)
  | _ => none
@[reducible] def nIm (a : Im) : List AV := [imv a]
theorem hIm {us : List AV} {a} (h : dIm us = some a) : us = nIm a := by unfold dIm at h; split at h <;> cases h; rfl
@[reducible] def nIM (a : Im × Mk) : List AV := [imv a.1, mv a.2]
def dIM : List AV → Option (Im × Mk)
  | [.rv (.agg [.int .i64 a, .int .i64 b, .sl none (.quads l)]), .rv (.agg [.int .i64 a', .int .i64 b', .sl none (.ints l')])] => some ((a, b, l), (a', b', l'))
  | _ => none
theorem hIM {us : List AV} {a} (h : dIM us = some a) : us = nIM a := by unfold dIM at h; split at h <;> cases h; rfl
@[reducible] def nIIM (a : Im × Im × Mk) : List AV := [imv a.1, imv a.2.1, mv a.2.2]
def dIIM : List AV → Option (Im × Im × Mk)
  | [.rv (.agg [.int .i64 a, .int .i64 b, .sl none (.quads l)]), .rv (.agg [.int .i64 c, .int .i64 d, .sl none (.quads k)]), .rv (.agg [.int .i64 a', .int .i64 b', .sl none (.ints l')])] => some ((a, b, l), (c, d, k), (a', b', l'))
  | _ => none
theorem hIIM {us : List AV} {a} (h : dIIM us = some a) : us = nIIM a := by unfold dIIM at h; split at h <;> cases h; rfl
@[reducible] def nImIm (a : Im × Im) : List AV := [imv a.1, imv a.2]
def dImIm : List AV → Option (Im × Im)
  | [.rv (.agg [.int .i64 a, .int .i64 b, .sl none (.quads l)]), .rv (.agg [.int .i64 c, .int .i64 d, .sl none (.quads k)])] => some ((a, b, l), (c, d, k))
  | _ => none
theorem hImIm {us : List AV} {a} (h : dImIm us = some a) : us = nImIm a := by unfold dImIm at h; split at h <;> cases h; rfl
/-! ### Check -/
def sidesE (w h : Int) : Int := if 0 ≤ w ∧ w ≤ 256 ∧ 0 ≤ h ∧ h ≤ 256 ∧ (w = 0 ↔ h = 0) then 0 else 15
theorem t96 (a b : Int) : evalF (EG []) Try.f96 [iv a, iv b] = bif decide (a < 0) then oi 15 else bif decide (a > 256) then oi 15 else bif decide (b < 0) then oi 15 else bif decide (b > 256) then oi 15 else bif (a == 0) != (b == 0) then oi 15 else oi 0 := by kernel_rfl
theorem eq0_bne (w h : Int) : ((w == 0) != (h == 0)) = !decide (w = 0 ↔ h = 0) := by
  by_cases a : w = 0
  · by_cases b : h = 0
    · rw [beq_iff_eq.mpr a, beq_iff_eq.mpr b, decide_eq_true (by omega)]; rfl
    · rw [beq_iff_eq.mpr a, beq_eq_false_iff_ne.mpr b, decide_eq_false (by omega)]; rfl
  · by_cases b : h = 0
    · rw [beq_eq_false_iff_ne.mpr a, beq_iff_eq.mpr b, decide_eq_false (by omega)]; rfl
    · rw [beq_eq_false_iff_ne.mpr a, beq_eq_false_iff_ne.mpr b, decide_eq_true (by omega)]; rfl
theorem m96 : Meets Try.prog 96 (gate (pT dII) (sp dII fun a => iv (sidesE a.1 a.2))) := mG (rdE eg_nil (fn := Try.f96) (k := 2) (by kernel_rfl) (by kernel_rfl) (of_decide_eq_true (by kernel_rfl)) (by kernel_rfl)) (fun _ _ => hII) (fun _ => ⟨rfl, Nat.le_refl _⟩)
  fun ⟨w, h⟩ _ => by
    refine (t96 w h).trans ?_
    show _ = oi (sidesE w h)
    unfold sidesE
    rw [eq0_bne]
    by_cases h1 : w < 0
    · rw [decide_eq_true h1, if_neg (by omega)]; rfl
    by_cases h2 : w > 256
    · rw [decide_eq_false h1, decide_eq_true h2, if_neg (by omega)]; rfl
    by_cases h3 : h < 0
    · rw [decide_eq_false h1, decide_eq_false h2, decide_eq_true h3, if_neg (by omega)]; rfl
    by_cases h4 : h > 256
    · rw [decide_eq_false h1, decide_eq_false h2, decide_eq_false h3, decide_eq_true h4, if_neg (by omega)]; rfl
    rw [decide_eq_false h1, decide_eq_false h2, decide_eq_false h3, decide_eq_false h4]
    by_cases h5 : (w = 0 ↔ h = 0)
    · rw [decide_eq_true h5, if_pos (by omega)]; rfl
    · rw [decide_eq_false h5, if_neg (fun hh => h5 hh.2.2.2.2)]; rfl
def pxI (pv : Q → Bool) (p : Q) : Int := bif pv p then 0 else -1
theorem allP_U (pv : Q → Bool) : ∀ l : List Q, allU (l.map (pxI pv)) = allP pv l
  | [] => rfl
  | p :: l => by
    rw [List.map_cons, allU, allP, allP_U pv l]
    unfold pxI
    cases pv p <;> rfl
def checkI (im : Im) : Int := checkM (im.1, im.2.1, im.2.2.map (pxI pxv))
def treeP (w h : Int) (n : Nat) (ok : Bool) : Option (AV × List AV) :=
  bif decide (w < 0) then oi 15 else bif decide (w > 256) then oi 15 else bif decide (h < 0) then oi 15 else bif decide (h > 256) then oi 15 else bif (w == 0) != (h == 0) then oi 15 else bif (n : Int) != W (w * h) then oi 15 else
    bif decide ((0 : Int) = 0) && decide ((n : Int) = n) && decide (n ≤ 65536) then bif ok then oi 0 else oi 2 else none
theorem treeP_eq (w h : Int) (l : List Q) : treeP w h l.length (allP pxv l) = oi (checkI (w, h, l)) := by
  have := treeC_eq w h (l.map (pxI pxv))
  rw [show checkI (w, h, l) = checkM (w, h, l.map (pxI pxv)) from rfl, ← this]
  unfold treeC treeP
  rw [allP_U, List.length_map]
theorem checkI_ok {im : Im} (h : checkI im = 0) : 0 ≤ im.1 ∧ im.1 ≤ 256 ∧ 0 ≤ im.2.1 ∧ im.2.1 ≤ 256 ∧ (im.2.2.length : Int) = im.1 * im.2.1 ∧ im.2.2.length ≤ 65536 := by
  obtain ⟨w, h', l⟩ := im
  have ho := (check_ok (show checkM (w, h', l.map (pxI pxv)) = 0 from h)).1
  have hs := (okSize_iff _ _ _).mp ho
  rw [List.length_map] at hs
  have hz := size_le hs.1 hs.2.1 hs.2.2.1 hs.2.2.2.1
  simp only
  omega
def lp75 (pv : Q → Bool) (st : St) (R : Type) (K : Ex → St → Option R) : Option R := req (decide (st.length = 33)) (gQs st 23 fun l => gI st 24 fun k => gI st 25 fun i =>
  req (decide (i = 0) && decide (k = l.length) && decide (l.length ≤ 65536)) (bif allP pv l then K (.exit 0) (mk 33 []) else K .ret (mk 33 [(2, iv 2)])))
def E75 (pv : Q → Bool) : Env := { EG [(96, pT dII, sp dII fun a => iv (sidesE a.1 a.2)), (97, pT dQ, sp dQ fun p => bw (pv p))] with lv := fun _ => [23, 24, 25], lx := fun _ => [2], lp := fun _ => lp75 pv }
def st75 (l : List Q) (k i : Int) : St := mk 33 [(23, qsv l), (24, iv k), (25, iv i)]
def qAt (l : List Q) (k : Nat) : Q := l.getD k (0, 0, 0, 0)
theorem b75 (pv : Q → Bool) (l : List Q) (k i : Int) : evalCode (E75 pv) (loopAt Try.f75 0) 0 (st75 l k i) (kp (E75 pv) 0) = bif decide (i < k) then bif decide (0 ≤ i) && decide (i < (l.length : Int)) then
    bif !pv (qAt l i.toNat) then some (.ret, mk 33 [(2, iv 2)]) else some (.normal, st75 l k (W (i + 1))) else none
    else some (.exit 0, mk 33 []) := by kernel_rfl
theorem t75 (pv : Q → Bool) (w h : Int) (l : List Q) : evalF (E75 pv) Try.f75 [im3 w h l] = bif sidesE w h != 0 then oi 15 else bif (l.length : Int) != W (w * h) then oi 15 else
    bif decide ((0 : Int) = 0) && decide ((l.length : Int) = l.length) && decide (l.length ≤ 65536) then bif allP pv l then oi 0 else oi 2 else none := by kernel_rfl
theorem qAt_at {l : List Q} {i : Nat} (h : i < l.length) : qAt l i = l[i] := by unfold qAt; rw [List.getD_eq_getElem?_getD, List.getElem?_eq_getElem h]; rfl
theorem runs75 (pv : Q → Bool) (l : List Q) (hl : l.length ≤ 65536) : ∀ (k i : Nat), i + k = l.length →
    (allP pv (l.drop i) = true → Runs (E75 pv) 0 (loopAt Try.f75 0) (st75 l l.length i) (.exit 0) (mk 33 [])) ∧ (allP pv (l.drop i) = false → Runs (E75 pv) 0 (loopAt Try.f75 0) (st75 l l.length i) .ret (mk 33 [(2, iv 2)])) := by
  intro k
  induction k with
  | zero =>
    intro i hi
    rw [List.drop_eq_nil_of_le (by omega)]
    refine ⟨fun _ => .stop ?_ (by simp), fun h => nomatch h⟩
    rw [b75, decide_eq_false (by omega)]
    rfl
  | succ k ih =>
    intro i hi
    have h1 : i < l.length := by omega
    rw [List.drop_eq_getElem_cons h1]
    have hbd := b75 pv l l.length i
    rw [decide_eq_true (by omega : (i : Int) < l.length), decide_eq_true (by omega : (0 : Int) ≤ i), Int.toNat_natCast, qAt_at h1, W_small (n := (i : Int) + 1) (by omega) (by omega)] at hbd
    simp only [allP]
    cases c : pv l[i]
    · rw [c] at hbd
      exact ⟨fun h => (nomatch h), fun _ => .stop hbd (by simp)⟩
    · rw [c] at hbd
      rw [Bool.true_and]
      exact ⟨fun h => .step hbd ((ih (i + 1) (by omega)).1 h), fun h => .step hbd ((ih (i + 1) (by omega)).2 h)⟩
theorem loop75 (pv : Q → Bool) : LoopOk (E75 pv) 0 (loopAt Try.f75 0) := by
  intro st R K z h
  obtain ⟨hn, h⟩ := req_some h
  obtain ⟨l, e0, h⟩ := gQs_some h
  obtain ⟨k, e1, h⟩ := gI_some h
  obtain ⟨i, e2, h⟩ := gI_some h
  obtain ⟨hc, h⟩ := req_some h
  simp only [Bool.and_eq_true, decide_eq_true_eq] at hc
  obtain ⟨⟨h1, h2⟩, h3⟩ := hc
  rw [keep_mk (of_decide_eq_true hn)]
  have e := runs75 pv l h3 l.length 0 (by omega)
  have es : mk 33 (((E75 pv).lv 0).map fun i => (i, getS (keep ((E75 pv).lv 0) st) i)) = st75 l l.length (0 : Nat) := by
    show mk 33 [(23, getS (keep ((E75 pv).lv 0) st) 23), (24, getS (keep ((E75 pv).lv 0) st) 24), (25, getS (keep ((E75 pv).lv 0) st) 25)] = _
    rw [e0, e1, e2, h1, h2]
    rfl
  rw [es]
  rw [List.drop_zero] at e
  cases ha : allP pv l
  · rw [ha] at h; exact ⟨_, _, e.2 ha, h⟩
  · rw [ha] at h; exact ⟨_, _, e.1 ha, h⟩
theorem m75 : Meets Try.prog 75 (gate (pT dIm) (sp dIm fun m => iv (checkI m))) := mG (rdL (e := E75 pxv) rfl (eg_cons m96 (eg_cons m97 eg_nil)) (fn := Try.f75) (k := 1) (by kernel_rfl) (by kernel_rfl) (of_decide_eq_true (by kernel_rfl)) (show loopsOf Try.f75 = [(0, loopAt Try.f75 0)] by kernel_rfl) (fun p hp => by cases List.mem_singleton.mp hp; exact loop75 pxv)) (fun _ _ => hIm) (fun _ => ⟨rfl, Nat.le_refl _⟩)
  fun ⟨w, h, l⟩ _ => by
    refine (t75 pxv w h l).trans ?_
    show _ = oi (checkI (w, h, l))
    rw [← treeP_eq]
    unfold treeP sidesE
    rw [eq0_bne]
    by_cases h1 : w < 0
    · rw [decide_eq_true h1, if_neg (by omega)]; rfl
    by_cases h2 : w > 256
    · rw [decide_eq_false h1, decide_eq_true h2, if_neg (by omega)]; rfl
    by_cases h3 : h < 0
    · rw [decide_eq_false h1, decide_eq_false h2, decide_eq_true h3, if_neg (by omega)]; rfl
    by_cases h4 : h > 256
    · rw [decide_eq_false h1, decide_eq_false h2, decide_eq_false h3, decide_eq_true h4, if_neg (by omega)]; rfl
    rw [decide_eq_false h1, decide_eq_false h2, decide_eq_false h3, decide_eq_false h4]
    by_cases h5 : (w = 0 ↔ h = 0)
    · rw [decide_eq_true h5, if_pos (by omega)]; rfl
    · rw [decide_eq_false h5, if_neg (fun hh => h5 hh.2.2.2.2)]; rfl
def lp77 (pv : Q → Bool) (st : St) (R : Type) (K : Ex → St → Option R) : Option R := req (decide (st.length = 54)) (gIm st 1 fun m => gI st 3 fun i =>
  req (decide (i = 0) && decide (m.2.2.length ≤ 65536)) (bif allP pv m.2.2 then K (.exit 0) (mk 54 []) else K .ret (mk 54 [(2, iv 2)])))
def E77 (pv : Q → Bool) : Env := { EG [(100, pT dQ, sp dQ fun p => bw (pv p))] with lv := fun _ => [1, 3], lx := fun _ => [2], lp := fun _ => lp77 pv }
def st77 (m : Im) (i : Int) : St := mk 54 [(1, bIm m), (3, iv i)]
theorem b77 (pv : Q → Bool) (m : Im) (i : Int) : evalCode (E77 pv) (loopAt Try.f77 0) 0 (st77 m i) (kp (E77 pv) 0) = bif decide (i < (m.2.2.length : Int)) then bif decide (0 ≤ i) && decide (i < (m.2.2.length : Int)) then
    bif !pv (qAt m.2.2 i.toNat) then some (.ret, mk 54 [(2, iv 2)]) else some (.normal, st77 m (W (i + 1))) else none
    else some (.exit 0, mk 54 []) := by kernel_rfl
theorem t77 (pv : Q → Bool) (w h : Int) (l : List Q) : evalF (E77 pv) Try.f77 [im3 w h l] = bif decide (w < 0) then oi 15 else bif decide (w > 256) then oi 15 else bif decide (h < 0) then oi 15 else bif decide (h > 256) then oi 15 else bif (w == 0) != (h == 0) then oi 15 else bif (l.length : Int) != W (w * h) then oi 15 else
    bif decide ((0 : Int) = 0) && decide (l.length ≤ 65536) then bif allP pv l then oi 0 else oi 2 else none := by kernel_rfl
theorem runs77 (pv : Q → Bool) (a b : Int) (l : List Q) (hl : l.length ≤ 65536) : ∀ (k i : Nat), i + k = l.length →
    (allP pv (l.drop i) = true → Runs (E77 pv) 0 (loopAt Try.f77 0) (st77 (a, b, l) i) (.exit 0) (mk 54 [])) ∧ (allP pv (l.drop i) = false → Runs (E77 pv) 0 (loopAt Try.f77 0) (st77 (a, b, l) i) .ret (mk 54 [(2, iv 2)])) := by
  intro k
  induction k with
  | zero =>
    intro i hi
    rw [List.drop_eq_nil_of_le (by omega)]
    refine ⟨fun _ => .stop ?_ (by simp), fun h => nomatch h⟩
    rw [b77, decide_eq_false (by simp only; omega)]
    rfl
  | succ k ih =>
    intro i hi
    have h1 : i < l.length := by omega
    rw [List.drop_eq_getElem_cons h1]
    have hbd := b77 pv (a, b, l) i
    simp only at hbd
    rw [decide_eq_true (by omega : (i : Int) < l.length), decide_eq_true (by omega : (0 : Int) ≤ i), Int.toNat_natCast, qAt_at h1, W_small (n := (i : Int) + 1) (by omega) (by omega)] at hbd
    simp only [allP]
    cases c : pv l[i]
    · rw [c] at hbd
      exact ⟨fun h => (nomatch h), fun _ => .stop hbd (by simp)⟩
    · rw [c] at hbd
      rw [Bool.true_and]
      exact ⟨fun h => .step hbd ((ih (i + 1) (by omega)).1 h), fun h => .step hbd ((ih (i + 1) (by omega)).2 h)⟩
theorem loop77 (pv : Q → Bool) : LoopOk (E77 pv) 0 (loopAt Try.f77 0) := by
  intro st R K z h
  obtain ⟨hn, h⟩ := req_some h
  obtain ⟨m, e0, h⟩ := gIm_some h
  obtain ⟨i, e1, h⟩ := gI_some h
  obtain ⟨hc, h⟩ := req_some h
  simp only [Bool.and_eq_true, decide_eq_true_eq] at hc
  obtain ⟨h1, h3⟩ := hc
  rw [keep_mk (of_decide_eq_true hn)]
  have e := runs77 pv m.1 m.2.1 m.2.2 h3 m.2.2.length 0 (by omega)
  have es : mk 54 (((E77 pv).lv 0).map fun i => (i, getS (keep ((E77 pv).lv 0) st) i)) = st77 (m.1, m.2.1, m.2.2) (0 : Nat) := by
    show mk 54 [(1, getS (keep ((E77 pv).lv 0) st) 1), (3, getS (keep ((E77 pv).lv 0) st) 3)] = _
    rw [e0, e1, h1]
    rfl
  rw [es]
  rw [List.drop_zero] at e
  cases ha : allP pv m.2.2
  · rw [ha] at h; exact ⟨_, _, e.2 ha, h⟩
  · rw [ha] at h; exact ⟨_, _, e.1 ha, h⟩
theorem m77 : Meets Try.prog 77 (gate (pT dIm) (sp dIm fun m => iv (checkI m))) := mG (rdL (e := E77 pxv) rfl (eg_cons m100 eg_nil) (fn := Try.f77) (k := 1) (by kernel_rfl) (by kernel_rfl) (of_decide_eq_true (by kernel_rfl)) (show loopsOf Try.f77 = [(0, loopAt Try.f77 0)] by kernel_rfl) (fun p hp => by cases List.mem_singleton.mp hp; exact loop77 pxv)) (fun _ _ => hIm) (fun _ => ⟨rfl, Nat.le_refl _⟩)
  fun ⟨w, h, l⟩ _ => by
    refine (t77 pxv w h l).trans ?_
    show _ = oi (checkI (w, h, l))
    rw [← treeP_eq]
    unfold treeP
    rw [decide_eq_true (rfl : (l.length : Int) = l.length), Bool.and_true]
/-! ### Fade -/
def seqQ (v : Nat → Q) : Nat → Nat → List Q
  | 0, _ => []
  | k + 1, i => v i :: seqQ v k (i + 1)
theorem seqQ_len (v : Nat → Q) : ∀ (k i : Nat), (seqQ v k i).length = k
  | 0, _ => rfl
  | k + 1, i => by rw [seqQ, List.length_cons, seqQ_len v k]
def errI (e : Int) : Im × Int := ((0, 0, []), e)
def oim (x : Im × Int) : Option (AV × List AV) := some (iev x, [])
def fdAt (fd : Q → Int → Q) (l : List Q) (m : Mk) (k : Nat) : Q := bif m.1 != 0 then fd (qAt l k) (m.2.2.getD k 0) else qAt l k
def inS (i : Int) (n : Nat) : Bool := decide (0 ≤ i) && decide (i < (n : Int))
def lp36 (fd : Q → Int → Q) (st : St) (R : Type) (K : Ex → St → Option R) : Option R := req (decide (st.length = 72)) (gM st 3 fun m => gIB st 4 fun z => gIB st 8 fun t => gQs st 47 fun l => gI st 48 fun n => gI st 49 fun i =>
  req (decide (i = 0) && decide (n = l.length) && decide (l.length ≤ 65536) && decide (m.1 ≠ 0 → m.2.2.length = l.length) && decide (t.2.2.length = 0)) (K (.exit 0) (mk 72 [(4, bIB z), (8, bIB (t.1, t.2.1, seqQ (fdAt fd l m) l.length 0))])))
def L36 (ci : Im → Int) (ck : Mk → Int) (fd : Q → Int → Q) : List Entry := [(75, pT dIm, sp dIm fun m => iv (ci m)), (30, pT dM, sp dM fun m => iv (ck m)), (76, pT dPx, sp dPx fun a => qv (fd a.1 a.2))]
def E36 (ci : Im → Int) (ck : Mk → Int) (fd : Q → Int → Q) : Env := { EG (L36 ci ck fd) with lv := fun _ => [3, 4, 8, 47, 48, 49], lx := fun _ => [4, 8], lp := fun _ => lp36 fd }
def st36 (m : Mk) (z t : Im) (l : List Q) (n i : Int) : St := mk 72 [(3, bM m), (4, bIB z), (8, bIB t), (47, qsv l), (48, iv n), (49, iv i)]
def nx36 (m : Mk) (z t : Im) (l : List Q) (n i : Int) (q : Q) : Option (Ex × St) := bif decide (0 < [q].length) && decide ((t.2.2 ++ [q]).length * 32 ≤ 140737488355328) then some (.normal, st36 m z (t.1, t.2.1, t.2.2 ++ [q]) l n (W (i + 1))) else none
theorem b36 (ci : Im → Int) (ck : Mk → Int) (fd : Q → Int → Q) (m : Mk) (z t : Im) (l : List Q) (n i : Int) : evalCode (E36 ci ck fd) (loopAt Try.f36 0) 0 (st36 m z t l n i) (kp (E36 ci ck fd) 0) = bif decide (i < n) then bif inS i l.length then
    bif m.1 != 0 then bif inS i m.2.2.length then nx36 m z t l n i (fd (qAt l i.toNat) (m.2.2.getD i.toNat 0)) else none else nx36 m z t l n i (qAt l i.toNat) else none
    else some (.exit 0, mk 72 [(4, bIB z), (8, bIB t)]) := by kernel_rfl
def treeF (ci : Im → Int) (ck : Mk → Int) (im : Im) (m : Mk) (ok : Bool) (r : List Q) : Option (AV × List AV) := bif ci im != 0 then oim (errI (ci im)) else bif ck m != 0 then oim (errI (ck m)) else
  bif m.1 != 0 then bif m.1 != im.1 then oim (errI 15) else bif m.2.1 != im.2.1 then oim (errI 15) else bif ok then oim ((im.1, im.2.1, r), 0) else none else bif ok then oim ((im.1, im.2.1, r), 0) else none
theorem t36 (ci : Im → Int) (ck : Mk → Int) (fd : Q → Int → Q) (w h : Int) (l : List Q) (w' h' : Int) (l' : List Int) : evalF (E36 ci ck fd) Try.f36 [im3 w h l, mk3 w' h' l'] =
    treeF ci ck (w, h, l) (w', h', l') (decide ((0 : Int) = 0) && decide ((l.length : Int) = l.length) && decide (l.length ≤ 65536) && decide (w' ≠ 0 → l'.length = l.length) && decide ([].length (α := Q) = 0)) (seqQ (fdAt fd l (w', h', l')) l.length 0) := by kernel_rfl
theorem runs36 (ci : Im → Int) (ck : Mk → Int) (fd : Q → Int → Q) (m : Mk) (z : Im) (p q : Int) (l : List Q) (hl : l.length ≤ 65536) (hm : m.1 ≠ 0 → m.2.2.length = l.length) : ∀ (k i : Nat) (r : List Q), i + k = l.length → r.length + k ≤ 131072 →
    Runs (E36 ci ck fd) 0 (loopAt Try.f36 0) (st36 m z (p, q, r) l l.length i) (.exit 0) (mk 72 [(4, bIB z), (8, bIB (p, q, r ++ seqQ (fdAt fd l m) k i))]) := by
  intro k
  induction k with
  | zero =>
    intro i r hi _
    refine .stop ?_ (by simp)
    rw [b36, decide_eq_false (by omega), seqQ, List.append_nil]
    rfl
  | succ k ih =>
    intro i r hi hr
    have hbd := b36 ci ck fd m z (p, q, r) l l.length i
    have hlen : ∀ x : Q, (r ++ [x]).length * 32 ≤ 140737488355328 := fun x => by rw [List.length_append, List.length_singleton]; omega
    have nx : ∀ x, nx36 m z (p, q, r) l l.length i x = some (.normal, st36 m z (p, q, r ++ [x]) l l.length ((i + 1 : Nat) : Int)) := fun x => by
      unfold nx36
      rw [decide_eq_true (hlen x), W_small (n := (i : Int) + 1) (by omega) (by omega)]
      rfl
    have hs : inS i l.length = true := by unfold inS; rw [decide_eq_true (by omega : (0 : Int) ≤ i), decide_eq_true (by omega)]; rfl
    rw [decide_eq_true (by omega : (i : Int) < l.length), hs, nx, nx, Int.toNat_natCast] at hbd
    have := ih (i + 1) (r ++ [fdAt fd l m i]) (by omega) (by rw [List.length_append, List.length_singleton]; omega)
    rw [List.append_assoc] at this
    rw [seqQ]
    refine .step (hbd.trans ?_) this
    unfold fdAt
    by_cases c : m.1 = 0
    · rw [bne_eq_false_iff_eq.mpr c]; rfl
    · have hs' : inS i m.2.2.length = true := by rw [hm c]; exact hs
      rw [bne_iff_ne.mpr c, hs']; rfl
theorem loop36 (ci : Im → Int) (ck : Mk → Int) (fd : Q → Int → Q) : LoopOk (E36 ci ck fd) 0 (loopAt Try.f36 0) := by
  intro st R K z h
  obtain ⟨hn, h⟩ := req_some h
  obtain ⟨m, e0, h⟩ := gM_some h
  obtain ⟨z0, e1, h⟩ := gIB_some h
  obtain ⟨t, e2, h⟩ := gIB_some h
  obtain ⟨l, e3, h⟩ := gQs_some h
  obtain ⟨n, e4, h⟩ := gI_some h
  obtain ⟨i, e5, h⟩ := gI_some h
  obtain ⟨hc, h⟩ := req_some h
  simp only [Bool.and_eq_true, decide_eq_true_eq] at hc
  obtain ⟨⟨⟨⟨h1, h2⟩, h3⟩, h4⟩, h5⟩ := hc
  rw [keep_mk (of_decide_eq_true hn)]
  have e := runs36 ci ck fd m z0 t.1 t.2.1 l h3 h4 l.length 0 [] (by omega) (by rw [List.length_nil]; omega)
  have es : mk 72 (((E36 ci ck fd).lv 0).map fun i => (i, getS (keep ((E36 ci ck fd).lv 0) st) i)) = st36 m z0 (t.1, t.2.1, []) l l.length (0 : Nat) := by
    show mk 72 [(3, getS (keep ((E36 ci ck fd).lv 0) st) 3), (4, getS (keep ((E36 ci ck fd).lv 0) st) 4), (8, getS (keep ((E36 ci ck fd).lv 0) st) 8), (47, getS (keep ((E36 ci ck fd).lv 0) st) 47), (48, getS (keep ((E36 ci ck fd).lv 0) st) 48), (49, getS (keep ((E36 ci ck fd).lv 0) st) 49)] = _
    rw [e0, e1, e2, e3, e4, e5, h1, h2, ← List.length_eq_zero_iff.mp h5]
    rfl
  rw [es]
  exact ⟨_, _, e, h⟩
def fadeM (im : Im) (m : Mk) : Im × Int := bif checkI im != 0 then errI (checkI im) else bif checkM m != 0 then errI (checkM m) else bif m.1 != 0 && (m.1 != im.1 || m.2.1 != im.2.1) then errI 15 else ((im.1, im.2.1, seqQ (fdAt fadeP im.2.2 m) im.2.2.length 0), 0)
theorem treeF_eq (im : Im) (m : Mk) {ok : Bool} (hok : checkI im = 0 → checkM m = 0 → (m.1 ≠ 0 → m.1 = im.1 ∧ m.2.1 = im.2.1) → ok = true) : treeF checkI checkM im m ok (seqQ (fdAt fadeP im.2.2 m) im.2.2.length 0) = oim (fadeM im m) := by
  unfold treeF fadeM
  by_cases c1 : checkI im = 0
  · rw [bne_eq_false_iff_eq.mpr c1]
    by_cases c2 : checkM m = 0
    · rw [bne_eq_false_iff_eq.mpr c2]
      by_cases c3 : m.1 = 0
      · rw [bne_eq_false_iff_eq.mpr c3, hok c1 c2 fun h => absurd c3 h]; rfl
      · rw [bne_iff_ne.mpr c3]
        by_cases c4 : m.1 = im.1
        · rw [bne_eq_false_iff_eq.mpr c4]
          by_cases c5 : m.2.1 = im.2.1
          · rw [bne_eq_false_iff_eq.mpr c5, hok c1 c2 fun _ => ⟨c4, c5⟩]; rfl
          · rw [bne_iff_ne.mpr c5]; rfl
        · rw [bne_iff_ne.mpr c4]; rfl
    · rw [bne_iff_ne.mpr c2]; rfl
  · rw [bne_iff_ne.mpr c1]; rfl
theorem lens {im : Im} {m : Mk} (h1 : checkI im = 0) (h2 : checkM m = 0) (h3 : m.1 ≠ 0 → m.1 = im.1 ∧ m.2.1 = im.2.1) : m.1 ≠ 0 → m.2.2.length = im.2.2.length := fun h => by
  obtain ⟨a, b⟩ := h3 h
  obtain ⟨w', h', l'⟩ := m
  have e := (okSize_iff _ _ _).mp (check_ok h2).1
  have f := checkI_ok h1
  simp only at a b ⊢
  rw [a, b] at e
  omega
theorem m36 : Meets Try.prog 36 (gate (pT dIM) (sp dIM fun a => iev (fadeM a.1 a.2))) := mG (rdL (e := E36 checkI checkM fadeP) rfl (eg_cons m75 (eg_cons m30 (eg_cons m76 eg_nil))) (fn := Try.f36) (k := 2) (by kernel_rfl) (by kernel_rfl) (of_decide_eq_true (by kernel_rfl)) (show loopsOf Try.f36 = [(0, loopAt Try.f36 0)] by kernel_rfl) (fun p hp => by cases List.mem_singleton.mp hp; exact loop36 checkI checkM fadeP)) (fun _ _ => hIM) (fun _ => ⟨rfl, Nat.le_refl _⟩)
  fun ⟨⟨w, h, l⟩, ⟨w', h', l'⟩⟩ _ => by
    refine (t36 checkI checkM fadeP w h l w' h' l').trans (treeF_eq (w, h, l) (w', h', l') fun h1 h2 h3 => ?_)
    have f := checkI_ok h1
    have g := lens h1 h2 h3
    simp only at f g
    rw [decide_eq_true f.2.2.2.2.2, decide_eq_true g, decide_eq_true (rfl : (l.length : Int) = l.length)]
    rfl
def lp37 (fd : Q → Int → Q) (st : St) (R : Type) (K : Ex → St → Option R) : Option R := req (decide (st.length = 75)) (gIm st 2 fun a => gM st 3 fun m => gIB st 4 fun z => gIB st 8 fun t => gI st 9 fun i =>
  req (decide (i = 0) && decide (a.2.2.length ≤ 65536) && decide (m.1 ≠ 0 → m.2.2.length = a.2.2.length) && decide (t.2.2.length = 0)) (K (.exit 0) (mk 75 [(4, bIB z), (8, bIB (t.1, t.2.1, seqQ (fdAt fd a.2.2 m) a.2.2.length 0))])))
def L37 (ci : Im → Int) (ck : Mk → Int) (fd : Q → Int → Q) : List Entry := [(77, pT dIm, sp dIm fun m => iv (ci m)), (31, pT dM, sp dM fun m => iv (ck m)), (78, pT dPx, sp dPx fun a => qv (fd a.1 a.2))]
def E37 (ci : Im → Int) (ck : Mk → Int) (fd : Q → Int → Q) : Env := { EG (L37 ci ck fd) with lv := fun _ => [2, 3, 4, 8, 9], lx := fun _ => [4, 8], lp := fun _ => lp37 fd }
def st37 (a : Im) (m : Mk) (z t : Im) (i : Int) : St := mk 75 [(2, bIm a), (3, bM m), (4, bIB z), (8, bIB t), (9, iv i)]
def nx37 (a : Im) (m : Mk) (z t : Im) (i : Int) (q : Q) : Option (Ex × St) := bif decide (0 < [q].length) && decide ((t.2.2 ++ [q]).length * 32 ≤ 140737488355328) then some (.normal, st37 a m z (t.1, t.2.1, t.2.2 ++ [q]) (W (i + 1))) else none
theorem b37 (ci : Im → Int) (ck : Mk → Int) (fd : Q → Int → Q) (a : Im) (m : Mk) (z t : Im) (i : Int) : evalCode (E37 ci ck fd) (loopAt Try.f37 0) 0 (st37 a m z t i) (kp (E37 ci ck fd) 0) = bif decide (i < (a.2.2.length : Int)) then bif inS i a.2.2.length then
    bif m.1 != 0 then bif inS i m.2.2.length then nx37 a m z t i (fd (qAt a.2.2 i.toNat) (m.2.2.getD i.toNat 0)) else none else nx37 a m z t i (qAt a.2.2 i.toNat) else none
    else some (.exit 0, mk 75 [(4, bIB z), (8, bIB t)]) := by kernel_rfl
theorem t37 (ci : Im → Int) (ck : Mk → Int) (fd : Q → Int → Q) (w h : Int) (l : List Q) (w' h' : Int) (l' : List Int) : evalF (E37 ci ck fd) Try.f37 [im3 w h l, mk3 w' h' l'] =
    treeF ci ck (w, h, l) (w', h', l') (decide ((0 : Int) = 0) && decide (l.length ≤ 65536) && decide (w' ≠ 0 → l'.length = l.length) && decide ([].length (α := Q) = 0)) (seqQ (fdAt fd l (w', h', l')) l.length 0) := by kernel_rfl
theorem runs37 (ci : Im → Int) (ck : Mk → Int) (fd : Q → Int → Q) (m : Mk) (z : Im) (p q a b : Int) (l : List Q) (hl : l.length ≤ 65536) (hm : m.1 ≠ 0 → m.2.2.length = l.length) : ∀ (k i : Nat) (r : List Q), i + k = l.length → r.length + k ≤ 131072 →
    Runs (E37 ci ck fd) 0 (loopAt Try.f37 0) (st37 (a, b, l) m z (p, q, r) i) (.exit 0) (mk 75 [(4, bIB z), (8, bIB (p, q, r ++ seqQ (fdAt fd l m) k i))]) := by
  intro k
  induction k with
  | zero =>
    intro i r hi _
    refine .stop ?_ (by simp)
    rw [b37, decide_eq_false (by simp only; omega), seqQ, List.append_nil]
    rfl
  | succ k ih =>
    intro i r hi hr
    have hbd := b37 ci ck fd (a, b, l) m z (p, q, r) i
    have hlen : ∀ x : Q, (r ++ [x]).length * 32 ≤ 140737488355328 := fun x => by rw [List.length_append, List.length_singleton]; omega
    have nx : ∀ x, nx37 (a, b, l) m z (p, q, r) i x = some (.normal, st37 (a, b, l) m z (p, q, r ++ [x]) ((i + 1 : Nat) : Int)) := fun x => by
      unfold nx37
      rw [decide_eq_true (hlen x), W_small (n := (i : Int) + 1) (by omega) (by omega)]
      rfl
    have hs : inS i l.length = true := by unfold inS; rw [decide_eq_true (by omega : (0 : Int) ≤ i), decide_eq_true (by omega)]; rfl
    simp only at hbd
    rw [decide_eq_true (by omega : (i : Int) < l.length), hs, nx, nx, Int.toNat_natCast] at hbd
    have := ih (i + 1) (r ++ [fdAt fd l m i]) (by omega) (by rw [List.length_append, List.length_singleton]; omega)
    rw [List.append_assoc] at this
    rw [seqQ]
    refine .step (hbd.trans ?_) this
    unfold fdAt
    by_cases c : m.1 = 0
    · rw [bne_eq_false_iff_eq.mpr c]; rfl
    · have hs' : inS i m.2.2.length = true := by rw [hm c]; exact hs
      rw [bne_iff_ne.mpr c, hs']; rfl
theorem loop37 (ci : Im → Int) (ck : Mk → Int) (fd : Q → Int → Q) : LoopOk (E37 ci ck fd) 0 (loopAt Try.f37 0) := by
  intro st R K z h
  obtain ⟨hn, h⟩ := req_some h
  obtain ⟨a, e0, h⟩ := gIm_some h
  obtain ⟨m, e1, h⟩ := gM_some h
  obtain ⟨z0, e2, h⟩ := gIB_some h
  obtain ⟨t, e3, h⟩ := gIB_some h
  obtain ⟨i, e4, h⟩ := gI_some h
  obtain ⟨hc, h⟩ := req_some h
  simp only [Bool.and_eq_true, decide_eq_true_eq] at hc
  obtain ⟨⟨⟨h1, h3⟩, h4⟩, h5⟩ := hc
  rw [keep_mk (of_decide_eq_true hn)]
  have e := runs37 ci ck fd m z0 t.1 t.2.1 a.1 a.2.1 a.2.2 h3 h4 a.2.2.length 0 [] (by omega) (by rw [List.length_nil]; omega)
  have es : mk 75 (((E37 ci ck fd).lv 0).map fun i => (i, getS (keep ((E37 ci ck fd).lv 0) st) i)) = st37 (a.1, a.2.1, a.2.2) m z0 (t.1, t.2.1, []) (0 : Nat) := by
    show mk 75 [(2, getS (keep ((E37 ci ck fd).lv 0) st) 2), (3, getS (keep ((E37 ci ck fd).lv 0) st) 3), (4, getS (keep ((E37 ci ck fd).lv 0) st) 4), (8, getS (keep ((E37 ci ck fd).lv 0) st) 8), (9, getS (keep ((E37 ci ck fd).lv 0) st) 9)] = _
    rw [e0, e1, e2, e3, e4, h1, ← List.length_eq_zero_iff.mp h5]
    rfl
  rw [es]
  exact ⟨_, _, e, h⟩
theorem m37 : Meets Try.prog 37 (gate (pT dIM) (sp dIM fun a => iev (fadeM a.1 a.2))) := mG (rdL (e := E37 checkI checkM fadeP) rfl (eg_cons m77 (eg_cons m31 (eg_cons m78 eg_nil))) (fn := Try.f37) (k := 2) (by kernel_rfl) (by kernel_rfl) (of_decide_eq_true (by kernel_rfl)) (show loopsOf Try.f37 = [(0, loopAt Try.f37 0)] by kernel_rfl) (fun p hp => by cases List.mem_singleton.mp hp; exact loop37 checkI checkM fadeP)) (fun _ _ => hIM) (fun _ => ⟨rfl, Nat.le_refl _⟩)
  fun ⟨⟨w, h, l⟩, ⟨w', h', l'⟩⟩ _ => by
    refine (t37 checkI checkM fadeP w h l w' h' l').trans (treeF_eq (w, h, l) (w', h', l') fun h1 h2 h3 => ?_)
    have f := checkI_ok h1
    have g := lens h1 h2 h3
    simp only at f g
    rw [decide_eq_true f.2.2.2.2.2, decide_eq_true g]
    rfl
end Go.Proofs.Ytkeildnpemiacaa.Ev

