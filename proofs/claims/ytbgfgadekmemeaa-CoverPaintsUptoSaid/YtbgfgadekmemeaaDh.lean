/- Filled polygons, the reference's, and that their law answers true. Conditions: the number of points. Printed by gen.py of this session. -/
import Derived.Test.YtbgfgadekmemeaaDg
namespace Go.Proofs.Ytbgfgadekmemeaa.Ev
open Go.Proofs
set_option linter.unusedVariables false
set_option linter.unusedSimpArgs false
set_option maxRecDepth 100000
set_option maxHeartbeats 1000000

def lp22 (fd : Q → Int → Q) (st : St) (R : Type) (K : Ex → St → Option R) : Option R := req (decide (st.length = 62)) (gPx st 6 fun c => gIB st 8 fun z => gM st 11 fun v => gIB st 13 fun m => gI st 14 fun i =>
  req (decide (i = 0 ∧ m.2.2.length + v.2.2.length ≤ 1000000)) (K (.exit 0) (mk 62 [(8, bIB z), (13, bIB (m.1, m.2.1, m.2.2 ++ v.2.2.map (fd c)))])))
def E22 (mr : MkF) (fd : Q → Int → Q) : Env := { EG [(13, pCk, sCkR), (42, pT dQ, sPx), (19, pMk, sp dPRQ fun a => mev (mr a.1 a.2.1 a.2.2)), (43, pT dPx, sp dPx fun a => qv (fd a.1 a.2))] with lv := fun _ => [6, 8, 11, 13, 14], lx := fun _ => [8, 13], lp := fun _ => lp22 fd }
def st22 (c : Q) (z : Im) (v : Mk) (m : Im) (i : Int) : St := mk 62 [(6, bPx c), (8, bIB z), (11, bM v), (13, bIB m), (14, iv i)]
theorem b22 (mr : MkF) (fd : Q → Int → Q) (c : Q) (z : Im) (v : Mk) (m : Im) (i : Int) : evalCode (E22 mr fd) (loopAt Try.f22 0) 0 (st22 c z v m i) (kp (E22 mr fd) 0) = bif decide (i < v.2.2.length) then bif decide (0 ≤ i) && decide (i < v.2.2.length) then
      bif decide (0 < 1) && decide ((m.2.2 ++ [fd (c.1, c.2.1, c.2.2.1, c.2.2.2) (v.2.2.getD i.toNat 0)]).length * 32 ≤ 140737488355328) then some (.normal, st22 c z v (m.1, m.2.1, m.2.2 ++ [fd (c.1, c.2.1, c.2.2.1, c.2.2.2) (v.2.2.getD i.toNat 0)]) (W (i + 1))) else none else none
    else some (.exit 0, mk 62 [(8, bIB z), (13, bIB m)]) := by kernel_rfl
theorem runs22 (mr : MkF) (fd : Q → Int → Q) (c : Q) (z : Im) (a b p q : Int) (vs : List Int) (hv : vs.length ≤ 1000000) : ∀ (k i : Nat) (l : List Q), i + k = vs.length → l.length + k ≤ 1000000 →
    Runs (E22 mr fd) 0 (loopAt Try.f22 0) (st22 c z (a, b, vs) (p, q, l) i) (.exit 0) (mk 62 [(8, bIB z), (13, bIB (p, q, l ++ (vs.drop i).map (fd c)))]) := by
  intro k
  induction k with
  | zero =>
    intro i l hi hl
    rw [List.drop_eq_nil_of_le (by omega)]
    refine .stop ?_ (by simp)
    rw [b22, decide_eq_false (by simp only; omega), List.map_nil, List.append_nil]
    rfl
  | succ k ih =>
    intro i l hi hl
    have h1 : i < vs.length := by omega
    have hbd := b22 mr fd c z (a, b, vs) (p, q, l) i
    simp only at hbd
    rw [decide_eq_true (by omega : (i : Int) < vs.length), decide_eq_true (by omega : (0 : Int) ≤ i), Int.toNat_natCast, getD_at h1, W_small (n := (i : Int) + 1) (by omega) (by omega), decide_eq_true (by omega : 0 < 1), decide_eq_true (by rw [List.length_append, List.length_singleton]; omega)] at hbd
    have := ih (i + 1) (l ++ [fd c vs[i]]) (by omega) (by rw [List.length_append, List.length_singleton]; omega)
    rw [List.append_assoc, List.singleton_append] at this
    rw [List.drop_eq_getElem_cons h1, List.map_cons]
    exact .step hbd this
theorem loop22 (mr : MkF) (fd : Q → Int → Q) : LoopOk (E22 mr fd) 0 (loopAt Try.f22 0) := by
  intro st R K z h
  obtain ⟨hn, h⟩ := req_some h
  obtain ⟨c, e0, h⟩ := gPx_some h
  obtain ⟨z, e1, h⟩ := gIB_some h
  obtain ⟨v, e2, h⟩ := gM_some h
  obtain ⟨m, e3, h⟩ := gIB_some h
  obtain ⟨i, e4, h⟩ := gI_some h
  obtain ⟨hc, h⟩ := req_some h
  simp only [Bool.and_eq_true, decide_eq_true_eq] at hc
  obtain ⟨h1, h2⟩ := hc
  rw [keep_mk (of_decide_eq_true hn)]
  have e := runs22 mr fd c z v.1 v.2.1 m.1 m.2.1 v.2.2 (by omega) v.2.2.length 0 m.2.2 (by omega) (by omega)
  have es : mk 62 (((E22 mr fd).lv 0).map fun i => (i, getS (keep ((E22 mr fd).lv 0) st) i)) = st22 c z (v.1, v.2.1, v.2.2) (m.1, m.2.1, m.2.2) (0 : Nat) := by
    show mk 62 [(6, getS (keep ((E22 mr fd).lv 0) st) 6), (8, getS (keep ((E22 mr fd).lv 0) st) 8), (11, getS (keep ((E22 mr fd).lv 0) st) 11), (13, getS (keep ((E22 mr fd).lv 0) st) 13), (14, getS (keep ((E22 mr fd).lv 0) st) 14)] = _
    rw [e0, e1, e2, e3, e4, h1]
    rfl
  rw [es]
  rw [List.drop_zero] at e
  exact ⟨_, _, e, h⟩
def tree22 (ck : Int) (m : Mk × Int) (fd : Q → Int → Q) (p : Ps) (c : Q) : Option (AV × List AV) := gSp p (bif ck != 0 then oim ((0, 0, []), ck) else bif !pxv c then oim ((0, 0, []), 2) else gSp p (bif m.2 != 0 then oim ((0, 0, []), m.2) else
  bif decide ((0 : Int) = 0 ∧ ([] : List Q).length + m.1.2.2.length ≤ 1000000) then oim ((m.1.1, m.1.2.1, [] ++ m.1.2.2.map (fd c)), 0) else none))
theorem t22 (mr : MkF) (fd : Q → Int → Q) (ps : Ps) (rule p q r s a b c d : Int) : evalF (E22 mr fd) Try.f22 (nPRQQ (ps, rule, (p, q, r, s), (a, b, c, d))) = tree22 (chkR ps rule) (mr ps rule (a, b, c, d)) fd ps (p, q, r, s) := by kernel_rfl
abbrev sPaR : Spec := sp dPRQQ fun a => iev (paintR a.1 a.2.1 a.2.2.1 a.2.2.2)
theorem mPaR : Meets Try.prog 22 (gate pPa sPaR) := mG (rdL (e := E22 maskR fadeP) rfl (eg_cons m91 (eg_cons m42 (eg_cons mMkR (eg_cons m43 eg_nil)))) (fn := Try.f22) (k := 4) (by kernel_rfl) (by kernel_rfl) (of_decide_eq_true (by kernel_rfl)) (show loopsOf Try.f22 = [(0, loopAt Try.f22 0)] by kernel_rfl)
    (fun p hp => by cases List.mem_singleton.mp hp; exact loop22 maskR fadeP)) (fun _ _ => hPRQQ) (fun _ => ⟨rfl, Nat.le_refl _⟩)
  fun ⟨ps, rule, ⟨p, q, r, s⟩, ⟨a, b, c, d⟩⟩ hp => by
    have hp : shortPs ps = true := hp
    refine (t22 maskR fadeP ps rule p q r s a b c d).trans ?_
    show _ = oim (paintR ps rule (p, q, r, s) (a, b, c, d))
    have hle := maskX_le (chkR ps rule) (fR ps rule) (a, b, c, d)
    unfold paintR paintX tree22 gSp maskR
    rw [hp, decide_eq_true (⟨rfl, by simp only [List.length_nil]; omega⟩ : (0 : Int) = 0 ∧ ([] : List Q).length + (maskX (chkR ps rule) (fR ps rule) (a, b, c, d)).1.2.2.length ≤ 1000000)]
    unfold maskX
    by_cases h1 : chkR ps rule = 0
    · rw [bne_eq_false_iff_eq.mpr h1]
      cases pxv (p, q, r, s)
      · rfl
      by_cases h2 : placeE (a, b, c, d) = 0
      · rw [bne_eq_false_iff_eq.mpr h2]
        cases empty (a, b, c, d) <;> rfl
      · rw [bne_iff_ne.mpr h2]
        show (bif placeE (a, b, c, d) != 0 then _ else _) = _
        rw [bne_iff_ne.mpr h2]; rfl
    · rw [bne_iff_ne.mpr h1]; rfl
theorem paintP_R {ps : Ps} {rule : Int} (h : chkC ps rule = chkR ps rule) (c r : Q) : paintP ps rule c r = paintR ps rule c r := by
  unfold paintP paintR
  rw [h]
  by_cases h1 : chkR ps rule = 0
  · rw [fW_fR (chkR_ok h1).1]
  · unfold paintX
    rw [bne_iff_ne.mpr h1]; rfl
/-! ### The law -/
abbrev PaF := Ps → Int → Q → Q → Im × Int
def lp5 (st : St) (R : Type) (K : Ex → St → Option R) : Option R := req (decide (st.length = 78)) (gIm st 9 fun a => gIm st 11 fun b => gI st 62 fun n => gI st 63 fun i =>
  req (decide (n = a.2.2.length ∧ i = 0 ∧ a.2.2 = b.2.2 ∧ a.2.2.length ≤ 65536)) (K (.exit 0) (mk 78 [])))
def E5 (pa pr : PaF) : Env := { EG [(11, pT d0, sp d0 fun _ => bw true), (21, pPa, sp dPRQQ fun a => iev (pa a.1 a.2.1 a.2.2.1 a.2.2.2)), (22, pPa, sp dPRQQ fun a => iev (pr a.1 a.2.1 a.2.2.1 a.2.2.2))] with lv := fun _ => [9, 11, 62, 63], lx := fun _ => [], lp := fun _ => lp5 }
def st5 (a b : Im) (n i : Int) : St := mk 78 [(9, bIm a), (11, bIm b), (62, iv n), (63, iv i)]
def qne (p q : Q) : Bool := !(p.1 == q.1 && (p.2.1 == q.2.1 && (p.2.2.1 == q.2.2.1 && (p.2.2.2 == q.2.2.2 && true))))
theorem qne_self (p : Q) : qne p p = false := by unfold qne; simp
theorem b5 (pa pr : PaF) (a b : Im) (n i : Int) : evalCode (E5 pa pr) (loopAt Try.f5 0) 0 (st5 a b n i) (kp (E5 pa pr) 0) = bif decide (i < n) then bif decide (0 ≤ i) && decide (i < a.2.2.length) then bif decide (0 ≤ i) && decide (i < b.2.2.length) then
      bif qne (a.2.2.getD i.toNat (0, 0, 0, 0)) (b.2.2.getD i.toNat (0, 0, 0, 0)) then some (.ret, mk 78 []) else some (.normal, st5 a b n (W (i + 1))) else none else none
    else some (.exit 0, mk 78 []) := by kernel_rfl
theorem runs5 (pa pr : PaF) (a b : Im) (h : a.2.2 = b.2.2) (hl : a.2.2.length ≤ 65536) : ∀ (k i : Nat), i + k = a.2.2.length → Runs (E5 pa pr) 0 (loopAt Try.f5 0) (st5 a b a.2.2.length i) (.exit 0) (mk 78 []) := by
  intro k
  induction k with
  | zero =>
    intro i hi
    refine .stop ?_ (by simp)
    rw [b5, decide_eq_false (by omega)]
    rfl
  | succ k ih =>
    intro i hi
    have hbd := b5 pa pr a b a.2.2.length i
    rw [← h, qne_self, decide_eq_true (by omega : (i : Int) < a.2.2.length), decide_eq_true (by omega : (0 : Int) ≤ i), W_small (n := (i : Int) + 1) (by omega) (by omega)] at hbd
    exact .step hbd (ih (i + 1) (by omega))
theorem loop5 (pa pr : PaF) : LoopOk (E5 pa pr) 0 (loopAt Try.f5 0) := by
  intro st R K z h
  obtain ⟨hn, h⟩ := req_some h
  obtain ⟨a, e0, h⟩ := gIm_some h
  obtain ⟨b, e1, h⟩ := gIm_some h
  obtain ⟨n, e2, h⟩ := gI_some h
  obtain ⟨i, e3, h⟩ := gI_some h
  obtain ⟨hc, h⟩ := req_some h
  simp only [Bool.and_eq_true, decide_eq_true_eq] at hc
  obtain ⟨h1, h2, h3, h4⟩ := hc
  rw [keep_mk (of_decide_eq_true hn)]
  have e := runs5 pa pr a b h3 h4 a.2.2.length 0 (by omega)
  have es : mk 78 (((E5 pa pr).lv 0).map fun i => (i, getS (keep ((E5 pa pr).lv 0) st) i)) = st5 a b a.2.2.length (0 : Nat) := by
    show mk 78 [(9, getS (keep ((E5 pa pr).lv 0) st) 9), (11, getS (keep ((E5 pa pr).lv 0) st) 11), (62, getS (keep ((E5 pa pr).lv 0) st) 62), (63, getS (keep ((E5 pa pr).lv 0) st) 63)] = _
    rw [e0, e1, e2, e3, h1, h2]
    rfl
  rw [es]
  exact ⟨_, _, e, h⟩
def tree5 (x y : Im × Int) (p : Ps) : Option (AV × List AV) := gSp p (gSp p (bif x.2 != y.2 then ob false else bif x.1.1 != y.1.1 then ob false else bif x.1.2.1 != y.1.2.1 then ob false else bif (x.1.2.2.length : Int) != y.1.2.2.length then ob false else
  bif decide ((x.1.2.2.length : Int) = x.1.2.2.length ∧ (0 : Int) = 0 ∧ x.1.2.2 = y.1.2.2 ∧ x.1.2.2.length ≤ 65536) then ob true else none))
theorem t5 (pa pr : PaF) (ps : Ps) (rule p q r s a b c d : Int) : evalF (E5 pa pr) Try.f5 (nPRQQ (ps, rule, (p, q, r, s), (a, b, c, d))) = tree5 (pa ps rule (p, q, r, s) (a, b, c, d)) (pr ps rule (p, q, r, s) (a, b, c, d)) ps := by kernel_rfl
theorem paintX_le (e : Int) (f : Int → Int → Bool) (c r : Q) : (paintX e f c r).1.2.2.length ≤ 65536 := by
  unfold paintX
  cases e != 0
  · cases pxv c
    · exact Nat.zero_le _
    by_cases h : placeE r = 0
    · rw [bne_eq_false_iff_eq.mpr h]
      cases empty r
      · have hq := of_decide_eq_true (placeE_ok h)
        show ((pxA _ _ _ _ _).map _).length ≤ 65536
        rw [List.length_map, pxA_len]
        have : r.2.2.2.toNat * r.2.2.1.toNat ≤ 256 * 256 := Nat.mul_le_mul (by omega) (by omega)
        omega
      · exact Nat.zero_le _
    · rw [bne_iff_ne.mpr h]; exact Nat.zero_le _
  · exact Nat.zero_le _
theorem m5 : Meets Try.prog 5 (gate (ps dPRQQ fun a => okSz a.1) (sp dPRQQ fun _ => bw true)) := mG (rdL (e := E5 paintP paintR) rfl (eg_cons mAw (eg_cons mPa (eg_cons mPaR eg_nil))) (fn := Try.f5) (k := 4) (by kernel_rfl) (by kernel_rfl) (of_decide_eq_true (by kernel_rfl)) (show loopsOf Try.f5 = [(0, loopAt Try.f5 0)] by kernel_rfl)
    (fun p hp => by cases List.mem_singleton.mp hp; exact loop5 paintP paintR)) (fun _ _ => hPRQQ) (fun _ => ⟨rfl, Nat.le_refl _⟩)
  fun ⟨ps, rule, ⟨p, q, r, s⟩, ⟨a, b, c, d⟩⟩ hp => by
    have hp : okSz ps = true := hp
    simp only [okSz, Bool.and_eq_true, decide_eq_true_eq] at hp
    refine (t5 paintP paintR ps rule p q r s a b c d).trans ?_
    have hle := paintX_le (chkC ps rule) (fW ps rule) (p, q, r, s) (a, b, c, d)
    rw [← paintP_R (chk_eq (by omega) rule)]
    unfold tree5 gSp
    rw [hp.1, bne_self_eq_false, bne_self_eq_false, bne_self_eq_false, bne_self_eq_false, decide_eq_true (⟨rfl, rfl, rfl, hle⟩ : ((paintP ps rule (p, q, r, s) (a, b, c, d)).1.2.2.length : Int) = (paintP ps rule (p, q, r, s) (a, b, c, d)).1.2.2.length ∧ (0 : Int) = 0 ∧ (paintP ps rule (p, q, r, s) (a, b, c, d)).1.2.2 = (paintP ps rule (p, q, r, s) (a, b, c, d)).1.2.2 ∧ (paintP ps rule (p, q, r, s) (a, b, c, d)).1.2.2.length ≤ 65536)]
    rfl
theorem hS5 {l : Ps} {rule p q r s x y z t : Int} (h1 : l.length < 4611686018427387904 ∧ (l.all fun x => decide (x.length < 4611686018427387904)) = true) (h2 : totN l < 4611686018427387904) : (gate (ps dPRQQ fun a => okSz a.1) (sp dPRQQ fun _ => bw true)) [plv l, iv rule, q4 p q r s, q4 x y z t] = some (bw true, []) := by
  show (bif okSz l then some (bw true, []) else none) = _
  have : okSz l = true := by
    unfold okSz shortPs
    rw [h1.2, decide_eq_true h1.1, decide_eq_true h2]; rfl
  rw [this]; rfl
end Go.Proofs.Ytbgfgadekmemeaa.Ev

