/- Filled polygons, the program's own. Conditions: none. Printed by gen.py of this session. -/
import Derived.Test.YtbgfgadekmemeaaKf
namespace Go.Proofs.Ytbgfgadekmemeaa.Ev
open Go.Proofs
set_option linter.unusedVariables false
set_option linter.unusedSimpArgs false
set_option maxRecDepth 100000
set_option maxHeartbeats 1000000

@[reducible] def bPx (r : Q) : AV := .box 40 [.int .i64 r.1, .int .i64 r.2.1, .int .i64 r.2.2.1, .int .i64 r.2.2.2]
def gPx (st : St) (t : Nat) {R : Type} (K : Q → Option R) : Option R := match getS st t with
  | .box 40 [.int .i64 a, .int .i64 b, .int .i64 c, .int .i64 d] => K (a, b, c, d)
  | _ => none
theorem gPx_some {st : St} {t : Nat} {R : Type} {r : R} {K : Q → Option R} (h : gPx st t K = some r) : ∃ n, getS st t = bPx n ∧ K n = some r := by
  unfold gPx at h
  split at h
  · exact ⟨(_, _, _, _), ‹_›, h⟩
  · cases h
@[reducible] def nPRQQ (a : Ps × Int × Q × Q) : List AV := [plv a.1, iv a.2.1, qv a.2.2.1, qv a.2.2.2]
def dPRQQ : List AV → Option (Ps × Int × Q × Q)
  | [.rv (.sc (.sl none (.polys l))), .rv (.sc (.int .i64 b)), .rv (.agg [.int .i64 p, .int .i64 q, .int .i64 r, .int .i64 s]), .rv (.agg [.int .i64 x, .int .i64 y, .int .i64 z, .int .i64 t])] => some (l, b, (p, q, r, s), (x, y, z, t))
  | _ => none
theorem hPRQQ {us : List AV} {a} (h : dPRQQ us = some a) : us = nPRQQ a := by unfold dPRQQ at h; split at h <;> cases h; rfl
def lp21 (fd : Q → Int → Q) (st : St) (R : Type) (K : Ex → St → Option R) : Option R := req (decide (st.length = 60)) (gPx st 6 fun c => gIB st 8 fun z => gIB st 12 fun m => gL st 44 fun vs => gI st 45 fun n => gI st 46 fun i =>
  req (decide (n = vs.length ∧ i = 0 ∧ m.2.2.length + vs.length ≤ 1000000)) (K (.exit 0) (mk 60 [(8, bIB z), (12, bIB (m.1, m.2.1, m.2.2 ++ vs.map (fd c)))])))
def E21 (fd : Q → Int → Q) : Env := { EG [(12, pCk, sCk), (40, pT dQ, sPx), (35, pT dQ, sPl), (24, pT dQ, sEy), (36, pVs, sVs), (41, pT dPx, sp dPx fun a => qv (fd a.1 a.2))] with lv := fun _ => [6, 8, 12, 44, 45, 46], lx := fun _ => [8, 12], lp := fun _ => lp21 fd }
def st21 (c : Q) (z m : Im) (vs : List Int) (n i : Int) : St := mk 60 [(6, bPx c), (8, bIB z), (12, bIB m), (44, isv vs), (45, iv n), (46, iv i)]
theorem b21 (fd : Q → Int → Q) (c : Q) (z m : Im) (vs : List Int) (n i : Int) : evalCode (E21 fd) (loopAt Try.f21 0) 0 (st21 c z m vs n i) (kp (E21 fd) 0) = bif decide (i < n) then bif decide (0 ≤ i) && decide (i < vs.length) then
      bif decide (0 < 1) && decide ((m.2.2 ++ [fd (c.1, c.2.1, c.2.2.1, c.2.2.2) (vs.getD i.toNat 0)]).length * 32 ≤ 140737488355328) then some (.normal, st21 c z (m.1, m.2.1, m.2.2 ++ [fd (c.1, c.2.1, c.2.2.1, c.2.2.2) (vs.getD i.toNat 0)]) vs n (W (i + 1))) else none else none
    else some (.exit 0, mk 60 [(8, bIB z), (12, bIB m)]) := by kernel_rfl
theorem runs21 (fd : Q → Int → Q) (c : Q) (z : Im) (p q : Int) (vs : List Int) (hv : vs.length ≤ 1000000) : ∀ (k i : Nat) (l : List Q), i + k = vs.length → l.length + k ≤ 1000000 →
    Runs (E21 fd) 0 (loopAt Try.f21 0) (st21 c z (p, q, l) vs vs.length i) (.exit 0) (mk 60 [(8, bIB z), (12, bIB (p, q, l ++ (vs.drop i).map (fd c)))]) := by
  intro k
  induction k with
  | zero =>
    intro i l hi hl
    rw [List.drop_eq_nil_of_le (by omega)]
    refine .stop ?_ (by simp)
    rw [b21, decide_eq_false (by omega), List.map_nil, List.append_nil]
    rfl
  | succ k ih =>
    intro i l hi hl
    have h1 : i < vs.length := by omega
    have hbd := b21 fd c z (p, q, l) vs vs.length i
    simp only at hbd
    rw [decide_eq_true (by omega : (i : Int) < vs.length), decide_eq_true (by omega : (0 : Int) ≤ i), Int.toNat_natCast, getD_at h1, W_small (n := (i : Int) + 1) (by omega) (by omega), decide_eq_true (by omega : 0 < 1), decide_eq_true (by rw [List.length_append, List.length_singleton]; omega)] at hbd
    have := ih (i + 1) (l ++ [fd c vs[i]]) (by omega) (by rw [List.length_append, List.length_singleton]; omega)
    rw [List.append_assoc, List.singleton_append] at this
    rw [List.drop_eq_getElem_cons h1, List.map_cons]
    exact .step hbd this
theorem loop21 (fd : Q → Int → Q) : LoopOk (E21 fd) 0 (loopAt Try.f21 0) := by
  intro st R K z h
  obtain ⟨hn, h⟩ := req_some h
  obtain ⟨c, e0, h⟩ := gPx_some h
  obtain ⟨z, e1, h⟩ := gIB_some h
  obtain ⟨m, e2, h⟩ := gIB_some h
  obtain ⟨vs, e3, h⟩ := gL_some h
  obtain ⟨n, e4, h⟩ := gI_some h
  obtain ⟨i, e5, h⟩ := gI_some h
  obtain ⟨hc, h⟩ := req_some h
  simp only [Bool.and_eq_true, decide_eq_true_eq] at hc
  obtain ⟨h1, h2, h3⟩ := hc
  rw [keep_mk (of_decide_eq_true hn)]
  have e := runs21 fd c z m.1 m.2.1 vs (by omega) vs.length 0 m.2.2 (by omega) (by omega)
  have es : mk 60 (((E21 fd).lv 0).map fun i => (i, getS (keep ((E21 fd).lv 0) st) i)) = st21 c z (m.1, m.2.1, m.2.2) vs vs.length (0 : Nat) := by
    show mk 60 [(6, getS (keep ((E21 fd).lv 0) st) 6), (8, getS (keep ((E21 fd).lv 0) st) 8), (12, getS (keep ((E21 fd).lv 0) st) 12), (44, getS (keep ((E21 fd).lv 0) st) 44), (45, getS (keep ((E21 fd).lv 0) st) 45), (46, getS (keep ((E21 fd).lv 0) st) 46)] = _
    rw [e0, e1, e2, e3, e4, e5, h1, h2]
    rfl
  rw [es]
  rw [List.drop_zero] at e
  exact ⟨_, _, e, h⟩
/-- The pixels of filled polygons, after their check, by what is inside. -/
def paintX (e : Int) (f : Int → Int → Bool) (c r : Q) : Im × Int := bif e != 0 then ((0, 0, []), e) else bif pxv c then bif placeE r != 0 then ((0, 0, []), placeE r) else bif empty r then ((0, 0, []), 0) else ((r.2.2.1, r.2.2.2, (pxA f r.1 r.2.2.1.toNat r.2.2.2.toNat r.2.1).map (fadeP c)), 0) else ((0, 0, []), 2)
def paintP (ps : Ps) (rule : Int) (c r : Q) : Im × Int := paintX (chkC ps rule) (fW ps rule) c r
def paintR (ps : Ps) (rule : Int) (c r : Q) : Im × Int := paintX (chkR ps rule) (fR ps rule) c r
@[reducible] def oim (x : Im × Int) : Option (AV × List AV) := some (iev x, [])
def tree21 (ck pl : Int) (fd : Q → Int → Q) (ps : Ps) (rule : Int) (c r : Q) : Option (AV × List AV) := bif shortPs ps then bif ck != 0 then oim ((0, 0, []), ck) else bif !pxv c then oim ((0, 0, []), 2) else bif pl != 0 then oim ((0, 0, []), pl) else bif empty r then oim ((0, 0, []), pl) else
  bif okOut ps r then bif decide (((pxA (fW ps rule) r.1 r.2.2.1.toNat r.2.2.2.toNat r.2.1).length : Int) = (pxA (fW ps rule) r.1 r.2.2.1.toNat r.2.2.2.toNat r.2.1).length ∧ (0 : Int) = 0 ∧ ([] : List Q).length + (pxA (fW ps rule) r.1 r.2.2.1.toNat r.2.2.2.toNat r.2.1).length ≤ 1000000) then
    oim ((r.2.2.1, r.2.2.2, [] ++ (pxA (fW ps rule) r.1 r.2.2.1.toNat r.2.2.2.toNat r.2.1).map (fd c)), 0) else none else none else none
theorem t21 (fd : Q → Int → Q) (ps : Ps) (rule p q r s a b c d : Int) : evalF (E21 fd) Try.f21 (nPRQQ (ps, rule, (p, q, r, s), (a, b, c, d))) = tree21 (chkC ps rule) (placeE (a, b, c, d)) fd ps rule (p, q, r, s) (a, b, c, d) := by kernel_rfl
abbrev pPa : List AV → Bool := ps dPRQQ fun a => shortPs a.1
abbrev sPa : Spec := sp dPRQQ fun a => iev (paintP a.1 a.2.1 a.2.2.1 a.2.2.2)
theorem mPa : Meets Try.prog 21 (gate pPa sPa) := mG (rdL (e := E21 fadeP) rfl (eg_cons m88 (eg_cons m40 (eg_cons m89 (eg_cons m24 (eg_cons m90 (eg_cons m41 eg_nil)))))) (fn := Try.f21) (k := 4) (by kernel_rfl) (by kernel_rfl) (of_decide_eq_true (by kernel_rfl)) (show loopsOf Try.f21 = [(0, loopAt Try.f21 0)] by kernel_rfl)
    (fun p hp => by cases List.mem_singleton.mp hp; exact loop21 fadeP)) (fun _ _ => hPRQQ) (fun _ => ⟨rfl, Nat.le_refl _⟩)
  fun ⟨ps, rule, ⟨p, q, r, s⟩, ⟨a, b, c, d⟩⟩ hp => by
    have hp : shortPs ps = true := hp
    refine (t21 fadeP ps rule p q r s a b c d).trans ?_
    show _ = oim (paintP ps rule (p, q, r, s) (a, b, c, d))
    unfold paintP paintX tree21
    rw [hp]
    by_cases h1 : chkC ps rule = 0
    · rw [bne_eq_false_iff_eq.mpr h1]
      cases pxv (p, q, r, s)
      · rfl
      by_cases h2 : placeE (a, b, c, d) = 0
      · have hq := of_decide_eq_true (placeE_ok h2)
        simp only at hq
        have hle : (pxA (fW ps rule) a c.toNat d.toNat b).length ≤ 65536 := by
          rw [pxA_len]
          have : d.toNat * c.toNat ≤ 256 * 256 := Nat.mul_le_mul (by omega) (by omega)
          omega
        rw [bne_eq_false_iff_eq.mpr h2, okOut_of hp (chkC_ok h1).2 h2, decide_eq_true (⟨rfl, rfl, by simp only [List.length_nil]; omega⟩ : ((pxA (fW ps rule) a c.toNat d.toNat b).length : Int) = (pxA (fW ps rule) a c.toNat d.toNat b).length ∧ (0 : Int) = 0 ∧ ([] : List Q).length + (pxA (fW ps rule) a c.toNat d.toNat b).length ≤ 1000000)]
        cases empty (a, b, c, d)
        · rfl
        · rw [h2]; rfl
      · rw [bne_iff_ne.mpr h2]; rfl
    · rw [bne_iff_ne.mpr h1]; rfl
end Go.Proofs.Ytbgfgadekmemeaa.Ev

