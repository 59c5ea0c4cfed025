/- Images: mixing with masks and comparing; the program's own and the reference's. Conditions: none. Printed by gen.py of this session. -/
import Derived.Test.YtkeildnpemiacaaOb
namespace Go.Proofs.Ytkeildnpemiacaa.Ev
open Go.Proofs
set_option linter.unusedVariables false
set_option linter.unusedSimpArgs false
set_option maxRecDepth 100000
set_option maxHeartbeats 1000000

/-! ### Mix -/
def mxV (mx' : Q → Q → Int → Q) (p q : Q) (v : Int) : Q := bif v == 0 then p else bif v == 65535 then q else mx' p q v
def vAt (m : Mk) (k : Nat) : Int := bif m.1 != 0 then m.2.2.getD k 0 else 65535
def mxAt (mx' : Q → Q → Int → Q) (a b : List Q) (m : Mk) (k : Nat) : Q := mxV mx' (qAt a k) (qAt b k) (vAt m k)
def okMx (a b : List Q) (m : Mk) : Bool := decide (a.length = b.length) && decide (b.length ≤ 65536) && decide (m.1 ≠ 0 → m.2.2.length = b.length)
def lp38 (mx' : Q → Q → Int → Q) (st : St) (R : Type) (K : Ex → St → Option R) : Option R := req (decide (st.length = 112)) (gIm st 3 fun a => gM st 5 fun m => gIB st 6 fun z => gIB st 11 fun t => gQs st 71 fun l => gI st 72 fun n => gI st 73 fun i =>
  req (decide (i = 0) && decide (n = l.length) && okMx a.2.2 l m && decide (t.2.2.length = 0)) (K (.exit 0) (mk 112 [(6, bIB z), (11, bIB (t.1, t.2.1, seqQ (mxAt mx' a.2.2 l m) l.length 0))])))
def L38 (ci : Im → Int) (ck : Mk → Int) (mx' : Q → Q → Int → Q) : List Entry := [(75, pT dIm, sp dIm fun m => iv (ci m)), (30, pT dM, sp dM fun m => iv (ck m)), (79, pT dQQI, sp dQQI fun a => qv (mx' a.1 a.2.1 a.2.2))]
def E38 (ci : Im → Int) (ck : Mk → Int) (mx' : Q → Q → Int → Q) : Env := { EG (L38 ci ck mx') with lv := fun _ => [3, 5, 6, 11, 71, 72, 73], lx := fun _ => [6, 11], lp := fun _ => lp38 mx' }
def st38 (a : Im) (m : Mk) (z t : Im) (l : List Q) (n i : Int) : St := mk 112 [(3, bIm a), (5, bM m), (6, bIB z), (11, bIB t), (71, qsv l), (72, iv n), (73, iv i)]
def nx38 (a : Im) (m : Mk) (z t : Im) (l : List Q) (n i : Int) (q : Q) : Option (Ex × St) := bif decide (0 < [q].length) && decide ((t.2.2 ++ [q]).length * 32 ≤ 140737488355328) then some (.normal, st38 a m z (t.1, t.2.1, t.2.2 ++ [q]) l n (W (i + 1))) else none
def sw38 (mx' : Q → Q → Int → Q) (a : Im) (m : Mk) (z t : Im) (l : List Q) (n i v : Int) : Option (Ex × St) := bif v == 0 then bif inS i a.2.2.length then nx38 a m z t l n i (qAt a.2.2 i.toNat) else none else bif v == 65535 then nx38 a m z t l n i (qAt l i.toNat) else
  bif inS i a.2.2.length then nx38 a m z t l n i (mx' (qAt a.2.2 i.toNat) (qAt l i.toNat) v) else none
theorem b38 (ci : Im → Int) (ck : Mk → Int) (mx' : Q → Q → Int → Q) (a : Im) (m : Mk) (z t : Im) (l : List Q) (n i : Int) : evalCode (E38 ci ck mx') (loopAt Try.f38 0) 0 (st38 a m z t l n i) (kp (E38 ci ck mx') 0) = bif decide (i < n) then bif inS i l.length then
    bif m.1 != 0 then bif inS i m.2.2.length then sw38 mx' a m z t l n i (m.2.2.getD i.toNat 0) else none else nx38 a m z t l n i (qAt l i.toNat) else none
    else some (.exit 0, mk 112 [(6, bIB z), (11, bIB t)]) := by kernel_rfl
def treeX (ci : Im → Int) (ck : Mk → Int) (a b : Im) (m : Mk) (ok : Bool) (r : List Q) : Option (AV × List AV) := bif ci a != 0 then oim (errI (ci a)) else bif ci b != 0 then oim (errI (ci b)) else bif ck m != 0 then oim (errI (ck m)) else
  bif a.1 != b.1 then oim (errI 15) else bif a.2.1 != b.2.1 then oim (errI 15) else
  bif m.1 != 0 then bif m.1 != a.1 then oim (errI 15) else bif m.2.1 != a.2.1 then oim (errI 15) else bif ok then oim ((a.1, a.2.1, r), 0) else none else bif ok then oim ((a.1, a.2.1, r), 0) else none
theorem t38 (ci : Im → Int) (ck : Mk → Int) (mx' : Q → Q → Int → Q) (w h : Int) (l : List Q) (w1 h1 : Int) (l1 : List Q) (w' h' : Int) (l' : List Int) : evalF (E38 ci ck mx') Try.f38 [im3 w h l, im3 w1 h1 l1, mk3 w' h' l'] =
    treeX ci ck (w, h, l) (w1, h1, l1) (w', h', l') (decide ((0 : Int) = 0) && decide ((l1.length : Int) = l1.length) && okMx l l1 (w', h', l') && decide ([].length (α := Q) = 0)) (seqQ (mxAt mx' l l1 (w', h', l')) l1.length 0) := by kernel_rfl
theorem okMx_iff {a b : List Q} {m : Mk} (h : okMx a b m = true) : a.length = b.length ∧ b.length ≤ 65536 ∧ (m.1 ≠ 0 → m.2.2.length = b.length) := by
  simp only [okMx, Bool.and_eq_true, decide_eq_true_eq] at h
  exact ⟨h.1.1, h.1.2, h.2⟩
theorem runs38 (ci : Im → Int) (ck : Mk → Int) (mx' : Q → Q → Int → Q) (a : Im) (m : Mk) (z : Im) (p q : Int) (l : List Q) (hk : okMx a.2.2 l m = true) : ∀ (k i : Nat) (r : List Q), i + k = l.length → r.length + k ≤ 131072 →
    Runs (E38 ci ck mx') 0 (loopAt Try.f38 0) (st38 a m z (p, q, r) l l.length i) (.exit 0) (mk 112 [(6, bIB z), (11, bIB (p, q, r ++ seqQ (mxAt mx' a.2.2 l m) k i))]) := by
  obtain ⟨ha, hl, hm⟩ := okMx_iff hk
  intro k
  induction k with
  | zero =>
    intro i r hi _
    refine .stop ?_ (by simp)
    rw [b38, decide_eq_false (by omega), seqQ, List.append_nil]
    rfl
  | succ k ih =>
    intro i r hi hr
    have hbd := b38 ci ck mx' a m z (p, q, r) l l.length i
    have hlen : ∀ x : Q, (r ++ [x]).length * 32 ≤ 140737488355328 := fun x => by rw [List.length_append, List.length_singleton]; omega
    have nx : ∀ x, nx38 a m z (p, q, r) l l.length i x = some (.normal, st38 a m z (p, q, r ++ [x]) l l.length ((i + 1 : Nat) : Int)) := fun x => by
      unfold nx38
      rw [decide_eq_true (hlen x), W_small (n := (i : Int) + 1) (by omega) (by omega)]
      rfl
    have hs : inS i l.length = true := by unfold inS; rw [decide_eq_true (by omega : (0 : Int) ≤ i), decide_eq_true (by omega)]; rfl
    unfold sw38 at hbd
    rw [decide_eq_true (by omega : (i : Int) < l.length), hs, ha, hs, nx, nx, nx, Int.toNat_natCast] at hbd
    have := ih (i + 1) (r ++ [mxAt mx' a.2.2 l m i]) (by omega) (by rw [List.length_append, List.length_singleton]; omega)
    rw [List.append_assoc] at this
    rw [seqQ]
    refine .step (hbd.trans ?_) this
    unfold mxAt vAt mxV
    by_cases c : m.1 = 0
    · rw [bne_eq_false_iff_eq.mpr c]; rfl
    · have hs' : inS i m.2.2.length = true := by rw [hm c]; exact hs
      rw [bne_iff_ne.mpr c, hs']
      simp only [cond_true]
      cases m.2.2.getD i 0 == 0
      · cases m.2.2.getD i 0 == 65535 <;> rfl
      · rfl
theorem loop38 (ci : Im → Int) (ck : Mk → Int) (mx' : Q → Q → Int → Q) : LoopOk (E38 ci ck mx') 0 (loopAt Try.f38 0) := by
  intro st R K z h
  obtain ⟨hn, h⟩ := req_some h
  obtain ⟨a, e0, h⟩ := gIm_some h
  obtain ⟨m, e1, h⟩ := gM_some h
  obtain ⟨z0, e2, h⟩ := gIB_some h
  obtain ⟨t, e3, h⟩ := gIB_some h
  obtain ⟨l, e4, h⟩ := gQs_some h
  obtain ⟨n, e5, h⟩ := gI_some h
  obtain ⟨i, e6, h⟩ := gI_some h
  obtain ⟨hc, h⟩ := req_some h
  simp only [Bool.and_eq_true, decide_eq_true_eq] at hc
  obtain ⟨⟨⟨h1, h2⟩, h3⟩, h5⟩ := hc
  rw [keep_mk (of_decide_eq_true hn)]
  have e := runs38 ci ck mx' a m z0 t.1 t.2.1 l h3 l.length 0 [] (by omega) (by have := okMx_iff h3; rw [List.length_nil]; omega)
  have es : mk 112 (((E38 ci ck mx').lv 0).map fun i => (i, getS (keep ((E38 ci ck mx').lv 0) st) i)) = st38 a m z0 (t.1, t.2.1, []) l l.length (0 : Nat) := by
    show mk 112 [(3, getS (keep ((E38 ci ck mx').lv 0) st) 3), (5, getS (keep ((E38 ci ck mx').lv 0) st) 5), (6, getS (keep ((E38 ci ck mx').lv 0) st) 6), (11, getS (keep ((E38 ci ck mx').lv 0) st) 11), (71, getS (keep ((E38 ci ck mx').lv 0) st) 71), (72, getS (keep ((E38 ci ck mx').lv 0) st) 72), (73, getS (keep ((E38 ci ck mx').lv 0) st) 73)] = _
    rw [e0, e1, e2, e3, e4, e5, e6, h1, h2, ← List.length_eq_zero_iff.mp h5]
    rfl
  rw [es]
  exact ⟨_, _, e, h⟩
def mixM (a b : Im) (m : Mk) : Im × Int := bif checkI a != 0 then errI (checkI a) else bif checkI b != 0 then errI (checkI b) else bif checkM m != 0 then errI (checkM m) else
  bif (a.1 != b.1 || a.2.1 != b.2.1) || (m.1 != 0 && (m.1 != a.1 || m.2.1 != a.2.1)) then errI 15 else ((a.1, a.2.1, seqQ (mxAt mixP a.2.2 b.2.2 m) b.2.2.length 0), 0)
theorem treeX_eq (a b : Im) (m : Mk) {ok : Bool} {r : List Q} (hok : checkI a = 0 → checkI b = 0 → checkM m = 0 → a.1 = b.1 → a.2.1 = b.2.1 → (m.1 ≠ 0 → m.1 = a.1 ∧ m.2.1 = a.2.1) → ok = true ∧ r = seqQ (mxAt mixP a.2.2 b.2.2 m) b.2.2.length 0) : treeX checkI checkM a b m ok r = oim (mixM a b m) := by
  unfold treeX mixM
  by_cases c1 : checkI a = 0
  · rw [bne_eq_false_iff_eq.mpr c1]
    by_cases c0 : checkI b = 0
    · rw [bne_eq_false_iff_eq.mpr c0]
      by_cases c2 : checkM m = 0
      · rw [bne_eq_false_iff_eq.mpr c2]
        by_cases d1 : a.1 = b.1
        · rw [bne_eq_false_iff_eq.mpr d1]
          by_cases d2 : a.2.1 = b.2.1
          · rw [bne_eq_false_iff_eq.mpr d2]
            by_cases c3 : m.1 = 0
            · obtain ⟨h1, h2⟩ := hok c1 c0 c2 d1 d2 fun h => absurd c3 h
              rw [bne_eq_false_iff_eq.mpr c3, h1, h2]; rfl
            · rw [bne_iff_ne.mpr c3]
              by_cases c4 : m.1 = a.1
              · rw [bne_eq_false_iff_eq.mpr c4]
                by_cases c5 : m.2.1 = a.2.1
                · obtain ⟨h1, h2⟩ := hok c1 c0 c2 d1 d2 fun _ => ⟨c4, c5⟩
                  rw [bne_eq_false_iff_eq.mpr c5, h1, h2]; rfl
                · rw [bne_iff_ne.mpr c5]; rfl
              · rw [bne_iff_ne.mpr c4]; rfl
          · rw [bne_iff_ne.mpr d2]; rfl
        · rw [bne_iff_ne.mpr d1]; rfl
      · rw [bne_iff_ne.mpr c2]; rfl
    · rw [bne_iff_ne.mpr c0]; rfl
  · rw [bne_iff_ne.mpr c1]; rfl
theorem lensX {a b : Im} {m : Mk} (h1 : checkI a = 0) (h0 : checkI b = 0) (h2 : checkM m = 0) (d1 : a.1 = b.1) (d2 : a.2.1 = b.2.1) (h3 : m.1 ≠ 0 → m.1 = a.1 ∧ m.2.1 = a.2.1) : okMx a.2.2 b.2.2 m = true := by
  have e1 := checkI_ok h1
  have e2 := checkI_ok h0
  rw [d1, d2] at e1
  have g := lens h0 h2 fun h => by rw [← d1, ← d2]; exact h3 h
  unfold okMx
  rw [decide_eq_true (by omega), decide_eq_true (by omega), decide_eq_true g]
  rfl
theorem m38 : Meets Try.prog 38 (gate (pT dIIM) (sp dIIM fun a => iev (mixM a.1 a.2.1 a.2.2))) := mG (rdL (e := E38 checkI checkM mixP) rfl (eg_cons m75 (eg_cons m30 (eg_cons m79 eg_nil))) (fn := Try.f38) (k := 3) (by kernel_rfl) (by kernel_rfl) (of_decide_eq_true (by kernel_rfl)) (show loopsOf Try.f38 = [(0, loopAt Try.f38 0)] by kernel_rfl) (fun p hp => by cases List.mem_singleton.mp hp; exact loop38 checkI checkM mixP)) (fun _ _ => hIIM) (fun _ => ⟨rfl, Nat.le_refl _⟩)
  fun ⟨⟨w, h, l⟩, ⟨w1, h1, l1⟩, ⟨w', h', l'⟩⟩ _ => by
    refine (t38 checkI checkM mixP w h l w1 h1 l1 w' h' l').trans (treeX_eq (w, h, l) (w1, h1, l1) (w', h', l') fun h1 h2 h3 h4 h5 h6 => ⟨?_, rfl⟩)
    have g := lensX h1 h2 h3 h4 h5 h6
    simp only at g
    rw [g, decide_eq_true (rfl : (l1.length : Int) = l1.length)]
    rfl
def lp39 (mx' : Q → Q → Int → Q) (st : St) (R : Type) (K : Ex → St → Option R) : Option R := req (decide (st.length = 118)) (gIm st 3 fun a => gIm st 4 fun b => gM st 5 fun m => gIB st 6 fun z => gIB st 11 fun t => gI st 12 fun i =>
  req (decide (i = 0) && okMx a.2.2 b.2.2 m && decide (t.2.2.length = 0)) (K (.exit 0) (mk 118 [(6, bIB z), (11, bIB (t.1, t.2.1, seqQ (mxAt mx' a.2.2 b.2.2 m) a.2.2.length 0))])))
def L39 (ci : Im → Int) (ck : Mk → Int) (mx' : Q → Q → Int → Q) : List Entry := [(77, pT dIm, sp dIm fun m => iv (ci m)), (31, pT dM, sp dM fun m => iv (ck m)), (80, pT dQQI, sp dQQI fun a => qv (mx' a.1 a.2.1 a.2.2))]
def E39 (ci : Im → Int) (ck : Mk → Int) (mx' : Q → Q → Int → Q) : Env := { EG (L39 ci ck mx') with lv := fun _ => [3, 4, 5, 6, 11, 12], lx := fun _ => [6, 11], lp := fun _ => lp39 mx' }
def st39 (a b : Im) (m : Mk) (z t : Im) (i : Int) : St := mk 118 [(3, bIm a), (4, bIm b), (5, bM m), (6, bIB z), (11, bIB t), (12, iv i)]
def nx39 (a b : Im) (m : Mk) (z t : Im) (i : Int) (q : Q) : Option (Ex × St) := bif decide (0 < [q].length) && decide ((t.2.2 ++ [q]).length * 32 ≤ 140737488355328) then some (.normal, st39 a b m z (t.1, t.2.1, t.2.2 ++ [q]) (W (i + 1))) else none
def sw39 (mx' : Q → Q → Int → Q) (a b : Im) (m : Mk) (z t : Im) (i v : Int) : Option (Ex × St) := bif inS i a.2.2.length then bif inS i b.2.2.length then
  bif v == 0 then bif inS i a.2.2.length then bif v == 65535 then bif inS i b.2.2.length then nx39 a b m z t i (qAt b.2.2 i.toNat) else none else nx39 a b m z t i (qAt a.2.2 i.toNat) else none else
    bif v == 65535 then bif inS i b.2.2.length then nx39 a b m z t i (qAt b.2.2 i.toNat) else none else nx39 a b m z t i (mx' (qAt a.2.2 i.toNat) (qAt b.2.2 i.toNat) v) else none else none
theorem b39 (ci : Im → Int) (ck : Mk → Int) (mx' : Q → Q → Int → Q) (a b : Im) (m : Mk) (z t : Im) (i : Int) : evalCode (E39 ci ck mx') (loopAt Try.f39 0) 0 (st39 a b m z t i) (kp (E39 ci ck mx') 0) = bif decide (i < (a.2.2.length : Int)) then
    bif m.1 != 0 then bif inS i m.2.2.length then sw39 mx' a b m z t i (m.2.2.getD i.toNat 0) else none else sw39 mx' a b m z t i 65535
    else some (.exit 0, mk 118 [(6, bIB z), (11, bIB t)]) := by kernel_rfl
theorem t39 (ci : Im → Int) (ck : Mk → Int) (mx' : Q → Q → Int → Q) (w h : Int) (l : List Q) (w1 h1 : Int) (l1 : List Q) (w' h' : Int) (l' : List Int) : evalF (E39 ci ck mx') Try.f39 [im3 w h l, im3 w1 h1 l1, mk3 w' h' l'] =
    treeX ci ck (w, h, l) (w1, h1, l1) (w', h', l') (decide ((0 : Int) = 0) && okMx l l1 (w', h', l') && decide ([].length (α := Q) = 0)) (seqQ (mxAt mx' l l1 (w', h', l')) l.length 0) := by kernel_rfl
theorem runs39 (ci : Im → Int) (ck : Mk → Int) (mx' : Q → Q → Int → Q) (a b : Im) (m : Mk) (z : Im) (p q : Int) (hk : okMx a.2.2 b.2.2 m = true) : ∀ (k i : Nat) (r : List Q), i + k = a.2.2.length → r.length + k ≤ 131072 →
    Runs (E39 ci ck mx') 0 (loopAt Try.f39 0) (st39 a b m z (p, q, r) i) (.exit 0) (mk 118 [(6, bIB z), (11, bIB (p, q, r ++ seqQ (mxAt mx' a.2.2 b.2.2 m) k i))]) := by
  obtain ⟨ha, hl, hm⟩ := okMx_iff hk
  intro k
  induction k with
  | zero =>
    intro i r hi _
    refine .stop ?_ (by simp)
    rw [b39, decide_eq_false (by omega), seqQ, List.append_nil]
    rfl
  | succ k ih =>
    intro i r hi hr
    have hbd := b39 ci ck mx' a b m z (p, q, r) i
    have hlen : ∀ x : Q, (r ++ [x]).length * 32 ≤ 140737488355328 := fun x => by rw [List.length_append, List.length_singleton]; omega
    have nx : ∀ x, nx39 a b m z (p, q, r) i x = some (.normal, st39 a b m z (p, q, r ++ [x]) ((i + 1 : Nat) : Int)) := fun x => by
      unfold nx39
      rw [decide_eq_true (hlen x), W_small (n := (i : Int) + 1) (by omega) (by omega)]
      rfl
    have hs : inS i a.2.2.length = true := by unfold inS; rw [decide_eq_true (by omega : (0 : Int) ≤ i), decide_eq_true (by omega)]; rfl
    have hs2 : inS i b.2.2.length = true := by rw [← ha]; exact hs
    unfold sw39 at hbd
    rw [decide_eq_true (by omega : (i : Int) < a.2.2.length), hs, hs2, nx, nx, nx, Int.toNat_natCast] at hbd
    have := ih (i + 1) (r ++ [mxAt mx' a.2.2 b.2.2 m i]) (by omega) (by rw [List.length_append, List.length_singleton]; omega)
    rw [List.append_assoc] at this
    rw [seqQ]
    refine .step (hbd.trans ?_) this
    unfold mxAt vAt mxV
    by_cases c : m.1 = 0
    · rw [bne_eq_false_iff_eq.mpr c]; rfl
    · have hs' : inS i m.2.2.length = true := by rw [hm c, ← ha]; exact hs
      rw [bne_iff_ne.mpr c, hs']
      simp only [cond_true]
      by_cases v0 : m.2.2.getD i 0 = 0
      · rw [v0]; rfl
      · rw [beq_eq_false_iff_ne.mpr v0]
        cases m.2.2.getD i 0 == 65535 <;> rfl
theorem loop39 (ci : Im → Int) (ck : Mk → Int) (mx' : Q → Q → Int → Q) : LoopOk (E39 ci ck mx') 0 (loopAt Try.f39 0) := by
  intro st R K z h
  obtain ⟨hn, h⟩ := req_some h
  obtain ⟨a, e0, h⟩ := gIm_some h
  obtain ⟨b, e1, h⟩ := gIm_some h
  obtain ⟨m, e2, h⟩ := gM_some h
  obtain ⟨z0, e3, h⟩ := gIB_some h
  obtain ⟨t, e4, h⟩ := gIB_some h
  obtain ⟨i, e5, h⟩ := gI_some h
  obtain ⟨hc, h⟩ := req_some h
  simp only [Bool.and_eq_true, decide_eq_true_eq] at hc
  obtain ⟨⟨h1, h3⟩, h5⟩ := hc
  rw [keep_mk (of_decide_eq_true hn)]
  have e := runs39 ci ck mx' a b m z0 t.1 t.2.1 h3 a.2.2.length 0 [] (by omega) (by have := okMx_iff h3; rw [List.length_nil]; omega)
  have es : mk 118 (((E39 ci ck mx').lv 0).map fun i => (i, getS (keep ((E39 ci ck mx').lv 0) st) i)) = st39 a b m z0 (t.1, t.2.1, []) (0 : Nat) := by
    show mk 118 [(3, getS (keep ((E39 ci ck mx').lv 0) st) 3), (4, getS (keep ((E39 ci ck mx').lv 0) st) 4), (5, getS (keep ((E39 ci ck mx').lv 0) st) 5), (6, getS (keep ((E39 ci ck mx').lv 0) st) 6), (11, getS (keep ((E39 ci ck mx').lv 0) st) 11), (12, getS (keep ((E39 ci ck mx').lv 0) st) 12)] = _
    rw [e0, e1, e2, e3, e4, e5, h1, ← List.length_eq_zero_iff.mp h5]
    rfl
  rw [es]
  exact ⟨_, _, e, h⟩
theorem m39 : Meets Try.prog 39 (gate (pT dIIM) (sp dIIM fun a => iev (mixM a.1 a.2.1 a.2.2))) := mG (rdL (e := E39 checkI checkM mixP) rfl (eg_cons m77 (eg_cons m31 (eg_cons m80 eg_nil))) (fn := Try.f39) (k := 3) (by kernel_rfl) (by kernel_rfl) (of_decide_eq_true (by kernel_rfl)) (show loopsOf Try.f39 = [(0, loopAt Try.f39 0)] by kernel_rfl) (fun p hp => by cases List.mem_singleton.mp hp; exact loop39 checkI checkM mixP)) (fun _ _ => hIIM) (fun _ => ⟨rfl, Nat.le_refl _⟩)
  fun ⟨⟨w, h, l⟩, ⟨w1, h1, l1⟩, ⟨w', h', l'⟩⟩ _ => by
    refine (t39 checkI checkM mixP w h l w1 h1 l1 w' h' l').trans (treeX_eq (w, h, l) (w1, h1, l1) (w', h', l') fun h1 h2 h3 h4 h5 h6 => ?_)
    have g := lensX h1 h2 h3 h4 h5 h6
    have g2 := (okMx_iff g).1
    simp only at g g2
    rw [g, g2]
    exact ⟨rfl, rfl⟩
/-! ### Comparing two images -/
def sqx (r s : Q) : Bool := r.1 == s.1 && (r.2.1 == s.2.1 && (r.2.2.1 == s.2.2.1 && (r.2.2.2 == s.2.2.2 && true)))
theorem sqx_self (r : Q) : sqx r r = true := by simp [sqx]
def sameP : List Q → List Q → Bool
  | a :: l, b :: m => sqx a b && sameP l m
  | _, _ => true
def sameI (a b : Im) : Bool := (a.1 == b.1) && ((a.2.1 == b.2.1) && (((a.2.2.length : Int) == b.2.2.length) && sameP a.2.2 b.2.2))
def lp40 (st : St) (R : Type) (K : Ex → St → Option R) : Option R := req (decide (st.length = 45)) (gIm st 2 fun a => gIm st 3 fun b => gI st 29 fun k => gI st 30 fun i =>
  req (decide (i = 0) && decide (k = a.2.2.length) && decide (a.2.2.length = b.2.2.length) && decide (a.2.2.length < 4611686018427387904)) (bif sameP a.2.2 b.2.2 then K (.exit 0) (mk 45 []) else K .ret (mk 45 [(4, bw false)])))
def E40 : Env := { EG [] with lv := fun _ => [2, 3, 29, 30], lx := fun _ => [4], lp := fun _ => lp40 }
def st40 (a b : Im) (k i : Int) : St := mk 45 [(2, bIm a), (3, bIm b), (29, iv k), (30, iv i)]
theorem b40 (a b : Im) (k i : Int) : evalCode E40 (loopAt Try.f40 0) 0 (st40 a b k i) (kp E40 0) = bif decide (i < k) then bif inS i a.2.2.length then bif inS i b.2.2.length then
    bif !sqx (qAt a.2.2 i.toNat) (qAt b.2.2 i.toNat) then some (.ret, mk 45 [(4, bw false)]) else some (.normal, st40 a b k (W (i + 1))) else none else none
    else some (.exit 0, mk 45 []) := by kernel_rfl
theorem t40 (w h : Int) (l : List Q) (w' h' : Int) (l' : List Q) : evalF E40 Try.f40 [im3 w h l, im3 w' h' l'] = bif w != w' then ob false else bif h != h' then ob false else bif (l.length : Int) != l'.length then ob false else
    bif decide ((0 : Int) = 0) && decide ((l.length : Int) = l.length) && decide (l.length = l'.length) && decide (l.length < 4611686018427387904) then bif sameP l l' then ob true else ob false else none := by kernel_rfl
theorem runs40 (a b a' b' : Int) (l m : List Q) (hlm : l.length = m.length) (hl : l.length < 4611686018427387904) : ∀ (k i : Nat), i + k = l.length →
    (sameP (l.drop i) (m.drop i) = true → Runs E40 0 (loopAt Try.f40 0) (st40 (a, b, l) (a', b', m) l.length i) (.exit 0) (mk 45 [])) ∧ (sameP (l.drop i) (m.drop i) = false → Runs E40 0 (loopAt Try.f40 0) (st40 (a, b, l) (a', b', m) l.length i) .ret (mk 45 [(4, bw false)])) := by
  intro k
  induction k with
  | zero =>
    intro i hi
    rw [List.drop_eq_nil_of_le (by omega)]
    refine ⟨fun _ => .stop ?_ (by simp), fun h => nomatch h⟩
    rw [b40, decide_eq_false (by omega)]
    rfl
  | succ k ih =>
    intro i hi
    have h1 : i < l.length := by omega
    rw [List.drop_eq_getElem_cons h1, List.drop_eq_getElem_cons (l := m) (by omega)]
    have hbd := b40 (a, b, l) (a', b', m) l.length i
    have hs : inS i l.length = true := by unfold inS; rw [decide_eq_true (by omega : (0 : Int) ≤ i), decide_eq_true (by omega)]; rfl
    simp only at hbd
    rw [decide_eq_true (by omega : (i : Int) < l.length), ← hlm, hs, Int.toNat_natCast, qAt_at h1, qAt_at (l := m) (by omega), W_small (n := (i : Int) + 1) (by omega) (by omega)] at hbd
    rw [sameP]
    cases c : sqx l[i] m[i]
    · rw [c] at hbd
      exact ⟨fun h => (nomatch h), fun _ => .stop hbd (by simp)⟩
    · rw [c] at hbd
      rw [Bool.true_and]
      exact ⟨fun h => .step hbd ((ih (i + 1) (by omega)).1 h), fun h => .step hbd ((ih (i + 1) (by omega)).2 h)⟩
theorem loop40 : LoopOk E40 0 (loopAt Try.f40 0) := by
  intro st R K z h
  obtain ⟨hn, h⟩ := req_some h
  obtain ⟨a, e0, h⟩ := gIm_some h
  obtain ⟨b, e1, h⟩ := gIm_some h
  obtain ⟨k, e2, h⟩ := gI_some h
  obtain ⟨i, e3, h⟩ := gI_some h
  obtain ⟨hc, h⟩ := req_some h
  simp only [Bool.and_eq_true, decide_eq_true_eq] at hc
  obtain ⟨⟨⟨h1, h2⟩, h3⟩, h4⟩ := hc
  rw [keep_mk (of_decide_eq_true hn)]
  have e := runs40 a.1 a.2.1 b.1 b.2.1 a.2.2 b.2.2 h3 h4 a.2.2.length 0 (by omega)
  have es : mk 45 ((E40.lv 0).map fun i => (i, getS (keep (E40.lv 0) st) i)) = st40 (a.1, a.2.1, a.2.2) (b.1, b.2.1, b.2.2) a.2.2.length (0 : Nat) := by
    show mk 45 [(2, getS (keep (E40.lv 0) st) 2), (3, getS (keep (E40.lv 0) st) 3), (29, getS (keep (E40.lv 0) st) 29), (30, getS (keep (E40.lv 0) st) 30)] = _
    rw [e0, e1, e2, e3, h1, h2]
    rfl
  rw [es]
  rw [List.drop_zero, List.drop_zero] at e
  cases ha : sameP a.2.2 b.2.2
  · rw [ha] at h; exact ⟨_, _, e.2 ha, h⟩
  · rw [ha] at h; exact ⟨_, _, e.1 ha, h⟩
abbrev p40 : List AV → Bool := ps dImIm fun a => decide (a.1.2.2.length < 4611686018427387904)
theorem m40 : Meets Try.prog 40 (gate p40 (sp dImIm fun a => bw (sameI a.1 a.2))) := mG (rdL (e := E40) rfl eg_nil (fn := Try.f40) (k := 2) (by kernel_rfl) (by kernel_rfl) (of_decide_eq_true (by kernel_rfl)) (show loopsOf Try.f40 = [(0, loopAt Try.f40 0)] by kernel_rfl) (fun p hp => by cases List.mem_singleton.mp hp; exact loop40)) (fun _ _ => hImIm) (fun _ => ⟨rfl, Nat.le_refl _⟩)
  fun ⟨⟨w, h, l⟩, w', h', l'⟩ hp => by
    have hp := of_decide_eq_true hp
    simp only at hp
    refine (t40 w h l w' h' l').trans ?_
    unfold sameI
    simp only
    by_cases c1 : w = w'
    · rw [bne_eq_false_iff_eq.mpr c1, beq_iff_eq.mpr c1]
      by_cases c2 : h = h'
      · rw [bne_eq_false_iff_eq.mpr c2, beq_iff_eq.mpr c2]
        by_cases c3 : (l.length : Int) = l'.length
        · rw [bne_eq_false_iff_eq.mpr c3, beq_iff_eq.mpr c3, decide_eq_true (by omega : l.length = l'.length), decide_eq_true hp]
          simp only [decide_true, Bool.and_self, cond_true, cond_false]
          cases sameP l l' <;> rfl
        · rw [bne_iff_ne.mpr c3, beq_eq_false_iff_ne.mpr c3]; rfl
      · rw [bne_iff_ne.mpr c2, beq_eq_false_iff_ne.mpr c2]; rfl
    · rw [bne_iff_ne.mpr c1, beq_eq_false_iff_ne.mpr c1]; rfl
theorem sameP_self : ∀ l, sameP l l = true
  | [] => rfl
  | a :: l => by rw [sameP, sameP_self l, sqx_self]; rfl
theorem sameI_self (a : Im) : sameI a a = true := by unfold sameI; rw [sameP_self, beq_self_eq_true, beq_self_eq_true, beq_self_eq_true]; rfl
end Go.Proofs.Ytkeildnpemiacaa.Ev

