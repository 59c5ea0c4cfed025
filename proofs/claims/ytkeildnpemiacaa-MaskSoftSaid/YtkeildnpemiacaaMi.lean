/- Combining and inverting masks, the reference's. Conditions: none. Printed by gen.py of this session. -/
import Derived.Test.YtkeildnpemiacaaMh
namespace Go.Proofs.Ytkeildnpemiacaa.Ev
open Go.Proofs
set_option linter.unusedVariables false
set_option linter.unusedSimpArgs false
set_option maxRecDepth 100000
set_option maxHeartbeats 1000000

/-! ### Invert -/
def invV (m : Mk) (k : Nat) : Int := W (65535 - m.2.2.getD k 0)
def lp45 (st : St) (R : Type) (K : Ex → St → Option R) : Option R := req (decide (st.length = 37)) (gM st 1 fun a => gB st 2 fun z => gB st 5 fun m => gI st 6 fun k =>
  req (decide (k = 0) && decide (m.2.2.length = 0) && decide (a.2.2.length ≤ 65536)) (K (.exit 0) (mk 37 [(2, bB z), (5, bB (m.1, m.2.1, seqL (invV a) a.2.2.length 0))])))
def E45 (ck : Mk → Int) : Env := { EG [(31, pT dM, sp dM fun m => iv (ck m))] with lv := fun _ => [1, 2, 5, 6], lx := fun _ => [2, 5], lp := fun _ => lp45 }
def st45 (a z m : Mk) (k : Int) : St := mk 37 [(1, bM a), (2, bB z), (5, bB m), (6, iv k)]
theorem b45 (ck : Mk → Int) (a z m : Mk) (k : Int) : evalCode (E45 ck) (loopAt Try.f45 0) 0 (st45 a z m k) (kp (E45 ck) 0) = bif decide (k < (a.2.2.length : Int)) then bif decide (0 ≤ k) && decide (k < (a.2.2.length : Int)) then
    bif decide (0 < [W (65535 - a.2.2.getD k.toNat 0)].length) && decide ((m.2.2 ++ [W (65535 - a.2.2.getD k.toNat 0)]).length * 8 ≤ 140737488355328) then some (.normal, st45 a z (m.1, m.2.1, m.2.2 ++ [W (65535 - a.2.2.getD k.toNat 0)]) (W (k + 1))) else none else none
    else some (.exit 0, mk 37 [(2, bB z), (5, bB m)]) := by kernel_rfl
theorem t45 (ck : Mk → Int) (a b : Int) (l : List Int) : evalF (E45 ck) Try.f45 [mk3 a b l] = bif ck (a, b, l) != 0 then omv (errM (ck (a, b, l))) else
    bif decide ((0 : Int) = 0) && decide ([].length (α := Int) = 0) && decide (l.length ≤ 65536) then omv ((a, b, seqL (invV (a, b, l)) l.length 0), 0) else none := by kernel_rfl
theorem runs45 (ck : Mk → Int) (a z : Mk) (p q : Int) (ha : a.2.2.length ≤ 65536) : ∀ (k i : Nat) (l : List Int), i + k = a.2.2.length → l.length ≤ i →
    Runs (E45 ck) 0 (loopAt Try.f45 0) (st45 a z (p, q, l) i) (.exit 0) (mk 37 [(2, bB z), (5, bB (p, q, l ++ seqL (invV a) k i))]) := by
  intro k
  induction k with
  | zero =>
    intro i l hi _
    refine .stop ?_ (by simp)
    rw [b45, decide_eq_false (by omega), seqL, List.append_nil]
    rfl
  | succ k ih =>
    intro i l hi hl
    have hbd := b45 ck a z (p, q, l) i
    have hlen : (l ++ [W (65535 - a.2.2.getD i 0)]).length * 8 ≤ 140737488355328 := by rw [List.length_append, List.length_singleton]; omega
    rw [decide_eq_true (by omega : (i : Int) < a.2.2.length), decide_eq_true (by omega : (0 : Int) ≤ i), Int.toNat_natCast, decide_eq_true hlen, W_small (n := (i : Int) + 1) (by omega) (by omega)] at hbd
    have := ih (i + 1) (l ++ [W (65535 - a.2.2.getD i 0)]) (by omega) (by rw [List.length_append, List.length_singleton]; omega)
    rw [List.append_assoc] at this
    exact .step hbd this
theorem loop45 (ck : Mk → Int) : LoopOk (E45 ck) 0 (loopAt Try.f45 0) := by
  intro st R K z h
  obtain ⟨hn, h⟩ := req_some h
  obtain ⟨a, e0, h⟩ := gM_some h
  obtain ⟨z0, e1, h⟩ := gB_some h
  obtain ⟨m, e2, h⟩ := gB_some h
  obtain ⟨k, e3, h⟩ := gI_some h
  obtain ⟨hc, h⟩ := req_some h
  simp only [Bool.and_eq_true, decide_eq_true_eq] at hc
  obtain ⟨⟨h1, h2⟩, h3⟩ := hc
  rw [keep_mk (of_decide_eq_true hn)]
  have e := runs45 ck a z0 m.1 m.2.1 h3 a.2.2.length 0 [] (by omega) (Nat.le_refl _)
  have es : mk 37 (((E45 ck).lv 0).map fun i => (i, getS (keep ((E45 ck).lv 0) st) i)) = st45 a z0 (m.1, m.2.1, []) (0 : Nat) := by
    show mk 37 [(1, getS (keep ((E45 ck).lv 0) st) 1), (2, getS (keep ((E45 ck).lv 0) st) 2), (5, getS (keep ((E45 ck).lv 0) st) 5), (6, getS (keep ((E45 ck).lv 0) st) 6)] = _
    rw [e0, e1, e2, e3, h1, ← List.length_eq_zero_iff.mp h2]
    rfl
  rw [es]
  exact ⟨_, _, e, h⟩
theorem e45 (a b : Int) (l : List Int) : evalF (E45 checkM) Try.f45 [mk3 a b l] = omv (invM (a, b, l)) := by
  rw [t45]
  unfold invM
  by_cases hc : checkM (a, b, l) = 0
  · obtain ⟨ho, hz, hu⟩ := check_ok hc
    have hs := (okSize_iff a b l).mp ho
    have hsz := size_le hs.1 hs.2.1 hs.2.2.1 hs.2.2.2.1
    have hl : l.length = a.toNat * b.toNat := by have := hs.2.2.2.2; omega
    rw [if_neg (fun h => h hc), bne_eq_false_iff_eq.mpr hc, decide_eq_true (by omega : l.length ≤ 65536), hl]
    rfl
  · rw [if_pos hc, bne_iff_ne.mpr hc]
    rfl
theorem m45 : Meets Try.prog 45 (gate (pT dM) (sp dM fun a => mev (invM a))) := mG (rdL (e := E45 checkM) rfl (eg_cons m31 eg_nil) (fn := Try.f45) (k := 1) (by kernel_rfl) (by kernel_rfl) (of_decide_eq_true (by kernel_rfl)) (show loopsOf Try.f45 = [(0, loopAt Try.f45 0)] by kernel_rfl) (fun p hp => by cases List.mem_singleton.mp hp; exact loop45 checkM)) (fun _ _ => hhM) (fun _ => ⟨rfl, Nat.le_refl _⟩)
  fun ⟨a, b, l⟩ _ => e45 a b l
/-! ### Combine -/
def cV (how : Int) (a b : Mk) (k : Nat) : Int := combV how (atV a k) (atV b k)
def fits (a : Mk) (n : Nat) : Bool := decide (a.1 = 0 ∨ n ≤ a.2.2.length)
def lp43 (st : St) (R : Type) (K : Ex → St → Option R) : Option R := req (decide (st.length = 126)) (gI st 2 fun how => gM st 3 fun a => gM st 4 fun b => gB st 6 fun z => gB st 10 fun m => gI st 11 fun k =>
  req (decide (k = 0) && decide (m.2.2.length = 0) && decide (0 ≤ how ∧ how ≤ 4) && decide (0 ≤ m.1 ∧ m.1 ≤ 256 ∧ 0 ≤ m.2.1 ∧ m.2.1 ≤ 256) && fits a (m.1.toNat * m.2.1.toNat) && fits b (m.1.toNat * m.2.1.toNat)) (K (.exit 0) (mk 126 [(6, bB z), (10, bB (m.1, m.2.1, seqL (cV how a b) (m.1.toNat * m.2.1.toNat) 0))])))
def E43 (ck : Mk → Int) : Env := { EG [(31, pT dM, sp dM fun m => iv (ck m))] with lv := fun _ => [2, 3, 4, 6, 10, 11], lx := fun _ => [6, 10], lp := fun _ => lp43 }
def st43 (how : Int) (a b z m : Mk) (k : Int) : St := mk 126 [(2, iv how), (3, bM a), (4, bM b), (6, bB z), (10, bB m), (11, iv k)]
def nx43 (how : Int) (a b z m : Mk) (k : Int) (v : Int) : Option (Ex × St) :=
  bif decide (0 < [v].length) && decide ((m.2.2 ++ [v]).length * 8 ≤ 140737488355328) then some (.normal, st43 how a b z (m.1, m.2.1, m.2.2 ++ [v]) (W (k + 1))) else none
def at43 (a : Mk) (k : Int) (K : Int → Option (Ex × St)) : Option (Ex × St) := bif a.1 != 0 then bif decide (0 ≤ k) && decide (k < (a.2.2.length : Int)) then K (a.2.2.getD k.toNat 0) else none else K 65535
theorem b43_0 (ck : Mk → Int) (a b z m : Mk) (k : Int) : evalCode (E43 ck) (loopAt Try.f43 0) 0 (st43 0 a b z m k) (kp (E43 ck) 0) = bif decide (k < W (m.1 * m.2.1)) then
    at43 a k fun p => at43 b k fun q => nx43 0 a b z m k (combV 0 p q)
    else some (.exit 0, mk 126 [(6, bB z), (10, bB m)]) := by kernel_rfl
theorem b43_1 (ck : Mk → Int) (a b z m : Mk) (k : Int) : evalCode (E43 ck) (loopAt Try.f43 0) 0 (st43 1 a b z m k) (kp (E43 ck) 0) = bif decide (k < W (m.1 * m.2.1)) then
    at43 a k fun p => at43 b k fun q => nx43 1 a b z m k (combV 1 p q)
    else some (.exit 0, mk 126 [(6, bB z), (10, bB m)]) := by kernel_rfl
theorem b43_2 (ck : Mk → Int) (a b z m : Mk) (k : Int) : evalCode (E43 ck) (loopAt Try.f43 0) 0 (st43 2 a b z m k) (kp (E43 ck) 0) = bif decide (k < W (m.1 * m.2.1)) then
    at43 a k fun p => at43 b k fun q => nx43 2 a b z m k (combV 2 p q)
    else some (.exit 0, mk 126 [(6, bB z), (10, bB m)]) := by kernel_rfl
theorem b43_3 (ck : Mk → Int) (a b z m : Mk) (k : Int) : evalCode (E43 ck) (loopAt Try.f43 0) 0 (st43 3 a b z m k) (kp (E43 ck) 0) = bif decide (k < W (m.1 * m.2.1)) then
    at43 a k fun p => at43 b k fun q => nx43 3 a b z m k (combV 3 p q)
    else some (.exit 0, mk 126 [(6, bB z), (10, bB m)]) := by kernel_rfl
theorem b43_4 (ck : Mk → Int) (a b z m : Mk) (k : Int) : evalCode (E43 ck) (loopAt Try.f43 0) 0 (st43 4 a b z m k) (kp (E43 ck) 0) = bif decide (k < W (m.1 * m.2.1)) then
    at43 a k fun p => at43 b k fun q => nx43 4 a b z m k (combV 4 p q)
    else some (.exit 0, mk 126 [(6, bB z), (10, bB m)]) := by kernel_rfl
theorem b43 (ck : Mk → Int) {how : Int} (h0 : 0 ≤ how) (h4 : how ≤ 4) (a b z m : Mk) (k : Int) : evalCode (E43 ck) (loopAt Try.f43 0) 0 (st43 how a b z m k) (kp (E43 ck) 0) = bif decide (k < W (m.1 * m.2.1)) then
    at43 a k fun p => at43 b k fun q => nx43 how a b z m k (combV how p q)
    else some (.exit 0, mk 126 [(6, bB z), (10, bB m)]) := by
  rcases (show how = 0 ∨ how = 1 ∨ how = 2 ∨ how = 3 ∨ how = 4 by omega) with h | h | h | h | h <;> subst h
  · exact b43_0 ck a b z m k
  · exact b43_1 ck a b z m k
  · exact b43_2 ck a b z m k
  · exact b43_3 ck a b z m k
  · exact b43_4 ck a b z m k
theorem t43 (ck : Mk → Int) (a b a' b' : Int) (l l' : List Int) (h : Int) : evalF (E43 ck) Try.f43 [mk3 a b l, mk3 a' b' l', iv h] =
    let z : Option (AV × List AV) := bif decide ((0 : Int) = 0) && decide ([].length (α := Int) = 0) && decide (0 ≤ h ∧ h ≤ 4) && decide (0 ≤ mx a a' ∧ mx a a' ≤ 256 ∧ 0 ≤ mx b b' ∧ mx b b' ≤ 256) && fits (a, b, l) ((mx a a').toNat * (mx b b').toNat) && fits (a', b', l') ((mx a a').toNat * (mx b b').toNat) then
      omv ((mx a a', mx b b', seqL (cV h (a, b, l) (a', b', l')) ((mx a a').toNat * (mx b b').toNat) 0), 0) else none
    bif ck (a, b, l) != 0 then omv (errM (ck (a, b, l))) else bif ck (a', b', l') != 0 then omv (errM (ck (a', b', l'))) else bif decide (h < 0) then omv (errM 8) else bif decide (h > 4) then omv (errM 8) else
    bif a != 0 then bif a' != 0 then bif a != a' then omv (errM 15) else bif b != b' then omv (errM 15) else z else z else z := by kernel_rfl
theorem at43_eq {a : Mk} {i n : Nat} (hf : fits a n = true) (hi : i < n) (K : Int → Option (Ex × St)) : at43 a i K = K (atV a i) := by
  have hf := of_decide_eq_true hf
  unfold at43 atV
  by_cases c : a.1 = 0
  · rw [if_pos c, bne_eq_false_iff_eq.mpr c]; rfl
  · rw [if_neg c, bne_iff_ne.mpr c, decide_eq_true (by omega : (0 : Int) ≤ i), decide_eq_true (by omega : (i : Int) < a.2.2.length), Int.toNat_natCast]; rfl
theorem runs43 (ck : Mk → Int) (how : Int) (a b z : Mk) (p q : Int) (n : Nat) (hw0 : 0 ≤ how ∧ how ≤ 4) (hp : 0 ≤ p ∧ p ≤ 256 ∧ 0 ≤ q ∧ q ≤ 256) (hn : p.toNat * q.toNat = n) (ha : fits a n = true) (hb : fits b n = true) : ∀ (k i : Nat) (l : List Int), i + k = n → l.length ≤ i →
    Runs (E43 ck) 0 (loopAt Try.f43 0) (st43 how a b z (p, q, l) i) (.exit 0) (mk 126 [(6, bB z), (10, bB (p, q, l ++ seqL (cV how a b) k i))]) := by
  have hsz := size_le hp.1 hp.2.1 hp.2.2.1 hp.2.2.2
  have hW : W (p * q) = n := by rw [← hsz.2, hn, W_small (by omega) (by omega)]
  intro k
  induction k with
  | zero =>
    intro i l hi _
    refine .stop ?_ (by simp)
    rw [b43 ck hw0.1 hw0.2]
    simp only
    rw [hW, decide_eq_false (by omega), seqL, List.append_nil]
    rfl
  | succ k ih =>
    intro i l hi hl
    have hbd := b43 ck hw0.1 hw0.2 a b z (p, q, l) i
    simp only at hbd
    have hlen : (l ++ [cV how a b i]).length * 8 ≤ 140737488355328 := by rw [List.length_append, List.length_singleton]; omega
    rw [hW, decide_eq_true (by omega : (i : Int) < n), cond_true, at43_eq ha (by omega), at43_eq hb (by omega)] at hbd
    have h2 : nx43 how a b z (p, q, l) i (cV how a b i) = some (.normal, st43 how a b z (p, q, l ++ [cV how a b i]) ((i + 1 : Nat) : Int)) := by
      unfold nx43
      rw [decide_eq_true hlen, W_small (n := (i : Int) + 1) (by omega) (by omega)]
      rfl
    have := ih (i + 1) (l ++ [cV how a b i]) (by omega) (by rw [List.length_append, List.length_singleton]; omega)
    rw [List.append_assoc] at this
    exact .step (hbd.trans h2) this
theorem loop43 (ck : Mk → Int) : LoopOk (E43 ck) 0 (loopAt Try.f43 0) := by
  intro st R K z h
  obtain ⟨hn, h⟩ := req_some h
  obtain ⟨how, e0, h⟩ := gI_some h
  obtain ⟨a, e1, h⟩ := gM_some h
  obtain ⟨b, e2, h⟩ := gM_some h
  obtain ⟨z0, e3, h⟩ := gB_some h
  obtain ⟨m, e4, h⟩ := gB_some h
  obtain ⟨k, e5, h⟩ := gI_some h
  obtain ⟨hc, h⟩ := req_some h
  simp only [Bool.and_eq_true, decide_eq_true_eq] at hc
  obtain ⟨⟨⟨⟨⟨h1, h2⟩, h6⟩, h3⟩, h4⟩, h5⟩ := hc
  rw [keep_mk (of_decide_eq_true hn)]
  have e := runs43 ck how a b z0 m.1 m.2.1 _ h6 h3 rfl h4 h5 (m.1.toNat * m.2.1.toNat) 0 [] (by omega) (Nat.le_refl _)
  have es : mk 126 (((E43 ck).lv 0).map fun i => (i, getS (keep ((E43 ck).lv 0) st) i)) = st43 how a b z0 (m.1, m.2.1, []) (0 : Nat) := by
    show mk 126 [(2, getS (keep ((E43 ck).lv 0) st) 2), (3, getS (keep ((E43 ck).lv 0) st) 3), (4, getS (keep ((E43 ck).lv 0) st) 4), (6, getS (keep ((E43 ck).lv 0) st) 6), (10, getS (keep ((E43 ck).lv 0) st) 10), (11, getS (keep ((E43 ck).lv 0) st) 11)] = _
    rw [e0, e1, e2, e3, e4, e5, h1, ← List.length_eq_zero_iff.mp h2]
    rfl
  rw [es]
  exact ⟨_, _, e, h⟩
theorem e43 (a b a' b' : Int) (l l' : List Int) (h : Int) : evalF (E43 checkM) Try.f43 [mk3 a b l, mk3 a' b' l', iv h] = omv (combM (a, b, l) (a', b', l') h) := by
  rw [t43]
  unfold combM
  by_cases hc : checkM (a, b, l) = 0
  · by_cases hc' : checkM (a', b', l') = 0
    · rw [if_neg (fun h => h hc), bne_eq_false_iff_eq.mpr hc, if_neg (fun h => h hc'), bne_eq_false_iff_eq.mpr hc']
      by_cases hh : h < 0 ∨ h > 4
      · rw [if_pos hh]
        rcases hh with hh | hh
        · rw [decide_eq_true hh]; rfl
        · rw [decide_eq_true hh]; cases decide (h < 0) <;> rfl
      · rw [if_neg hh, decide_eq_false (by omega : ¬ h < 0), decide_eq_false (by omega : ¬ h > 4)]
        obtain ⟨ho, hz, hu⟩ := check_ok hc
        obtain ⟨ho', hz', hu'⟩ := check_ok hc'
        have hs := (okSize_iff a b l).mp ho
        have hs' := (okSize_iff a' b' l').mp ho'
        simp only at hz hz'
        by_cases hq : a ≠ 0 ∧ a' ≠ 0 ∧ (a ≠ a' ∨ b ≠ b')
        · have : clashS (a, b, l) (a', b', l') = true := decide_eq_true hq
          rw [if_pos this, bne_iff_ne.mpr hq.1, bne_iff_ne.mpr hq.2.1]
          rcases hq.2.2 with q | q
          · rw [bne_iff_ne.mpr q]; rfl
          · rw [bne_iff_ne.mpr q]; cases a != a' <;> rfl
        · have : clashS (a, b, l) (a', b', l') = false := decide_eq_false hq
          obtain ⟨s1, s2, s3, s4, s5, s6⟩ := sides (by omega) (by omega) hz hz' hq
          rw [if_neg (by rw [this]; decide)]
          have f1 : fits (a, b, l) ((mx a a').toNat * (mx b b').toNat) = true := by
            refine decide_eq_true ?_
            rcases s5 with s5 | ⟨s5, s7⟩
            · exact .inl s5
            · have := hs.2.2.2.2
              rw [← s5, ← s7, ← (size_le hs.1 hs.2.1 hs.2.2.1 hs.2.2.2.1).2] at *
              exact .inr (by simp only; omega)
          have f2 : fits (a', b', l') ((mx a a').toNat * (mx b b').toNat) = true := by
            refine decide_eq_true ?_
            rcases s6 with s6 | ⟨s6, s7⟩
            · exact .inl s6
            · have := hs'.2.2.2.2
              rw [← s6, ← s7, ← (size_le hs'.1 hs'.2.1 hs'.2.2.1 hs'.2.2.2.1).2] at *
              exact .inr (by simp only; omega)
          rw [f1, f2, decide_eq_true (by omega : 0 ≤ h ∧ h ≤ 4), decide_eq_true (⟨s1, s2, s3, s4⟩ : 0 ≤ mx a a' ∧ mx a a' ≤ 256 ∧ 0 ≤ mx b b' ∧ mx b b' ≤ 256)]
          have key : ∀ (z : Option (AV × List AV)), (bif a != 0 then bif a' != 0 then bif a != a' then omv (errM 15) else bif b != b' then omv (errM 15) else z else z else z) = z := by
            intro z
            by_cases q1 : a = 0
            · rw [bne_eq_false_iff_eq.mpr q1]; rfl
            · by_cases q2 : a' = 0
              · rw [bne_eq_false_iff_eq.mpr q2]; cases a != 0 <;> rfl
              · rw [bne_eq_false_iff_eq.mpr (show a = a' by omega), bne_eq_false_iff_eq.mpr (show b = b' by omega)]
                cases a != 0 <;> cases a' != 0 <;> rfl
          exact key _
    · rw [if_neg (fun h => h hc), bne_eq_false_iff_eq.mpr hc, if_pos hc', bne_iff_ne.mpr hc']
      rfl
  · rw [if_pos hc, bne_iff_ne.mpr hc]
    rfl
theorem m43 : Meets Try.prog 43 (gate (pT dMMI) (sp dMMI fun a => mev (combM a.1 a.2.1 a.2.2))) := mG (rdL (e := E43 checkM) rfl (eg_cons m31 eg_nil) (fn := Try.f43) (k := 3) (by kernel_rfl) (by kernel_rfl) (of_decide_eq_true (by kernel_rfl)) (show loopsOf Try.f43 = [(0, loopAt Try.f43 0)] by kernel_rfl) (fun p hp => by cases List.mem_singleton.mp hp; exact loop43 checkM)) (fun _ _ => hMMI) (fun _ => ⟨rfl, Nat.le_refl _⟩)
  fun ⟨⟨a, b, l⟩, ⟨a', b', l'⟩, h⟩ _ => e43 a b a' b' l l' h
end Go.Proofs.Ytkeildnpemiacaa.Ev

