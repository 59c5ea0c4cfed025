/- That the laws of images and of what lies outside answer true. Conditions: none. Printed by gen.py of this session. -/
import Derived.Test.YtkeildnpemiacaaOc
import Derived.Test.YtkeildnpemiacaaMf
namespace Go.Proofs.Ytkeildnpemiacaa.Ev
open Go.Proofs
set_option linter.unusedVariables false
set_option linter.unusedSimpArgs false
set_option maxRecDepth 100000
set_option maxHeartbeats 1000000

def gli (m : Im) (K : Option (AV × List AV)) : Option (AV × List AV) := bif decide (m.2.2.length < 4611686018427387904) then K else none
theorem gli_ok {m : Im} (h : m.2.2.length ≤ 65536) (K : Option (AV × List AV)) : gli m K = K := by unfold gli; rw [decide_eq_true (by omega)]; rfl
theorem fade_le (a : Im) (m : Mk) : (fadeM a m).1.2.2.length ≤ 65536 := by
  unfold fadeM
  by_cases c1 : checkI a = 0
  · rw [bne_eq_false_iff_eq.mpr c1]
    cases checkM m != 0
    · cases m.1 != 0 && (m.1 != a.1 || m.2.1 != a.2.1)
      · show (seqQ _ a.2.2.length 0).length ≤ 65536
        rw [seqQ_len]; exact (checkI_ok c1).2.2.2.2.2
      · exact Nat.zero_le _
    · exact Nat.zero_le _
  · rw [bne_iff_ne.mpr c1]; exact Nat.zero_le _
theorem mix_le (a b : Im) (m : Mk) : (mixM a b m).1.2.2.length ≤ 65536 := by
  unfold mixM
  cases checkI a != 0
  · by_cases c1 : checkI b = 0
    · rw [bne_eq_false_iff_eq.mpr c1]
      cases checkM m != 0
      · cases (a.1 != b.1 || a.2.1 != b.2.1) || (m.1 != 0 && (m.1 != a.1 || m.2.1 != a.2.1))
        · show (seqQ _ b.2.2.length 0).length ≤ 65536
          rw [seqQ_len]; exact (checkI_ok c1).2.2.2.2.2
        · exact Nat.zero_le _
      · exact Nat.zero_le _
    · rw [bne_iff_ne.mpr c1]; exact Nat.zero_le _
  · exact Nat.zero_le _
/-! ### Images -/
def L7 (fa : Im → Mk → Im × Int) (mi : Im → Im → Mk → Im × Int) (sm : Im → Im → Bool) : List Entry := [(36, pT dIM, sp dIM fun a => iev (fa a.1 a.2)), (37, pT dIM, sp dIM fun a => iev (fa a.1 a.2)), (38, pT dIIM, sp dIIM fun a => iev (mi a.1 a.2.1 a.2.2)), (39, pT dIIM, sp dIIM fun a => iev (mi a.1 a.2.1 a.2.2)),
  (16, pT d0, sp d0 fun _ => bw true), (40, p40, sp dImIm fun a => bw (sm a.1 a.2))]
theorem gs7 : ∀ f, Meets Try.prog f ((EG (L7 fadeM mixM sameI)).sp f) := eg_cons m36 (eg_cons m37 (eg_cons m38 (eg_cons m39 (eg_cons m16 (eg_cons m40 eg_nil)))))
theorem t7 (fa : Im → Mk → Im × Int) (mi : Im → Im → Mk → Im × Int) (sm : Im → Im → Bool) (w h : Int) (l : List Q) (w1 h1 : Int) (l1 : List Q) (w' h' : Int) (l' : List Int) : evalF (EG (L7 fa mi sm)) Try.f7 [im3 w h l, im3 w1 h1 l1, mk3 w' h' l'] =
    bif (fa (w, h, l) (w', h', l')).2 == (fa (w, h, l) (w', h', l')).2 then gli (fa (w, h, l) (w', h', l')).1 (bif sm (fa (w, h, l) (w', h', l')).1 (fa (w, h, l) (w', h', l')).1 then
      bif (mi (w, h, l) (w1, h1, l1) (w', h', l')).2 == (mi (w, h, l) (w1, h1, l1) (w', h', l')).2 then gli (mi (w, h, l) (w1, h1, l1) (w', h', l')).1 (ob (sm (mi (w, h, l) (w1, h1, l1) (w', h', l')).1 (mi (w, h, l) (w1, h1, l1) (w', h', l')).1)) else ob false else ob false) else ob false := by kernel_rfl
theorem m7 : Meets Try.prog 7 (gate (pT dIIM) (sp dIIM fun _ => bw true)) := mG (rdE gs7 (fn := Try.f7) (k := 3) (by kernel_rfl) (by kernel_rfl) (of_decide_eq_true (by kernel_rfl)) (by kernel_rfl)) (fun _ _ => hIIM) (fun _ => ⟨rfl, Nat.le_refl _⟩)
  fun ⟨⟨w, h, l⟩, ⟨w1, h1, l1⟩, ⟨w', h', l'⟩⟩ _ => by
    refine (t7 fadeM mixM sameI w h l w1 h1 l1 w' h' l').trans ?_
    rw [gli_ok (fade_le _ _), gli_ok (mix_le _ _ _), sameI_self, sameI_self, beq_self_eq_true, beq_self_eq_true]
    rfl
/-! ### Outside -/
def chO (t i j : List Q) (l : List Int) : Nat → Nat → Bool
  | 0, _ => true
  | k + 1, n => (!(l.getD n 0 == 0) || sqx (qAt t n) (qAt i n)) && (!(l.getD n 0 == 65535) || sqx (qAt t n) (qAt j n)) && chO t i j l k (n + 1)
def lp9 (st : St) (R : Type) (K : Ex → St → Option R) : Option R := req (decide (st.length = 117)) (gIm st 3 fun a => gIm st 4 fun b => gIm st 7 fun t => gL st 77 fun l => gI st 78 fun n => gI st 79 fun i =>
  req (decide (i = 0) && decide (n = l.length) && decide (l.length ≤ 65536) && decide (t.2.2.length = l.length) && decide (a.2.2.length = l.length) && decide (b.2.2.length = l.length) && chO t.2.2 a.2.2 b.2.2 l l.length 0) (K (.exit 0) (mk 117 [])))
def L9 (mi : Im → Im → Mk → Im × Int) (sm : Im → Im → Bool) : List Entry := [(38, pT dIIM, sp dIIM fun a => iev (mi a.1 a.2.1 a.2.2)), (16, pT d0, sp d0 fun _ => bw true), (40, p40, sp dImIm fun a => bw (sm a.1 a.2))]
def E9 (mi : Im → Im → Mk → Im × Int) (sm : Im → Im → Bool) : Env := { EG (L9 mi sm) with lv := fun _ => [3, 4, 7, 77, 78, 79], lx := fun _ => [6], lp := fun _ => lp9 }
def st9 (a b t : Im) (l : List Int) (n i : Int) : St := mk 117 [(3, bIm a), (4, bIm b), (7, bIm t), (77, isv l), (78, iv n), (79, iv i)]
def ret9 : Option (Ex × St) := some (.ret, mk 117 [(6, bw false)])
def snd9 (a b t : Im) (l : List Int) (n i v : Int) : Option (Ex × St) := bif v == 65535 then bif inS i t.2.2.length then bif inS i b.2.2.length then bif !sqx (qAt t.2.2 i.toNat) (qAt b.2.2 i.toNat) then ret9 else some (.normal, st9 a b t l n (W (i + 1))) else none else none else some (.normal, st9 a b t l n (W (i + 1)))
theorem b9 (mi : Im → Im → Mk → Im × Int) (sm : Im → Im → Bool) (a b t : Im) (l : List Int) (n i : Int) : evalCode (E9 mi sm) (loopAt Try.f9 0) 0 (st9 a b t l n i) (kp (E9 mi sm) 0) = bif decide (i < n) then bif inS i l.length then
    bif l.getD i.toNat 0 == 0 then bif inS i t.2.2.length then bif inS i a.2.2.length then bif !sqx (qAt t.2.2 i.toNat) (qAt a.2.2 i.toNat) then ret9 else snd9 a b t l n i (l.getD i.toNat 0) else none else none else snd9 a b t l n i (l.getD i.toNat 0) else none
    else some (.exit 0, mk 117 []) := by kernel_rfl
def tree9 (mi : Im → Im → Mk → Im × Int) (sm : Im → Im → Bool) (a b : Im) (m : Mk) : Option (AV × List AV) :=
  bif (mi a b m).2 != 0 then gli (mi a b m).1 (ob (sm (mi a b m).1 (0, 0, []))) else bif (m.2.2.length : Int) == 0 then gli (mi a b m).1 (ob (sm (mi a b m).1 b)) else
  bif ((mi a b m).1.2.2.length : Int) != a.2.2.length then ob false else bif (a.2.2.length : Int) != b.2.2.length then ob false else bif (m.2.2.length : Int) != a.2.2.length then ob false else bif (mi a b m).1.1 != a.1 then ob false else bif (mi a b m).1.2.1 != a.2.1 then ob false else
  bif decide ((0 : Int) = 0) && decide ((m.2.2.length : Int) = m.2.2.length) && decide (m.2.2.length ≤ 65536) && decide ((mi a b m).1.2.2.length = m.2.2.length) && decide (a.2.2.length = m.2.2.length) && decide (b.2.2.length = m.2.2.length) && chO (mi a b m).1.2.2 a.2.2 b.2.2 m.2.2 m.2.2.length 0 then ob true else none
theorem t9 (mi : Im → Im → Mk → Im × Int) (sm : Im → Im → Bool) (w h : Int) (l : List Q) (w1 h1 : Int) (l1 : List Q) (w' h' : Int) (l' : List Int) : evalF (E9 mi sm) Try.f9 [im3 w h l, im3 w1 h1 l1, mk3 w' h' l'] = tree9 mi sm (w, h, l) (w1, h1, l1) (w', h', l') := by kernel_rfl
theorem runs9 (mi : Im → Im → Mk → Im × Int) (sm : Im → Im → Bool) (a b t : Im) (l : List Int) (hl : l.length ≤ 65536) (ht : t.2.2.length = l.length) (ha : a.2.2.length = l.length) (hb : b.2.2.length = l.length) : ∀ (k i : Nat), i + k = l.length → chO t.2.2 a.2.2 b.2.2 l k i = true →
    Runs (E9 mi sm) 0 (loopAt Try.f9 0) (st9 a b t l l.length i) (.exit 0) (mk 117 []) := by
  intro k
  induction k with
  | zero =>
    intro i hi _
    refine .stop ?_ (by simp)
    rw [b9, decide_eq_false (by omega)]
    rfl
  | succ k ih =>
    intro i hi hc
    simp only [chO, Bool.and_eq_true] at hc
    obtain ⟨⟨c1, c2⟩, c3⟩ := hc
    have hbd := b9 mi sm a b t l l.length i
    have hs : inS i l.length = true := by unfold inS; rw [decide_eq_true (by omega : (0 : Int) ≤ i), decide_eq_true (by omega)]; rfl
    unfold snd9 at hbd
    rw [decide_eq_true (by omega : (i : Int) < l.length), ht, ha, hb, hs, Int.toNat_natCast, W_small (n := (i : Int) + 1) (by omega) (by omega)] at hbd
    refine .step (hbd.trans ?_) (ih (i + 1) (by omega) c3)
    cases d1 : l.getD i 0 == 0
    · cases d2 : l.getD i 0 == 65535
      · rfl
      · rw [d2] at c2
        rw [show sqx (qAt t.2.2 i) (qAt b.2.2 i) = true from c2]; rfl
    · rw [d1] at c1
      rw [show sqx (qAt t.2.2 i) (qAt a.2.2 i) = true from c1]
      cases d2 : l.getD i 0 == 65535
      · rfl
      · rw [d2] at c2
        rw [show sqx (qAt t.2.2 i) (qAt b.2.2 i) = true from c2]; rfl
theorem loop9 (mi : Im → Im → Mk → Im × Int) (sm : Im → Im → Bool) : LoopOk (E9 mi sm) 0 (loopAt Try.f9 0) := by
  intro st R K z h
  obtain ⟨hn, h⟩ := req_some h
  obtain ⟨a, e0, h⟩ := gIm_some h
  obtain ⟨b, e1, h⟩ := gIm_some h
  obtain ⟨t, e2, h⟩ := gIm_some h
  obtain ⟨l, e3, h⟩ := gL_some h
  obtain ⟨n, e4, h⟩ := gI_some h
  obtain ⟨i, e5, h⟩ := gI_some h
  obtain ⟨hc, h⟩ := req_some h
  simp only [Bool.and_eq_true, decide_eq_true_eq] at hc
  obtain ⟨⟨⟨⟨⟨⟨h1, h2⟩, h3⟩, h4⟩, h5⟩, h6⟩, h7⟩ := hc
  rw [keep_mk (of_decide_eq_true hn)]
  have e := runs9 mi sm a b t l h3 h4 h5 h6 l.length 0 (by omega) h7
  have es : mk 117 (((E9 mi sm).lv 0).map fun i => (i, getS (keep ((E9 mi sm).lv 0) st) i)) = st9 a b t l l.length (0 : Nat) := by
    show mk 117 [(3, getS (keep ((E9 mi sm).lv 0) st) 3), (4, getS (keep ((E9 mi sm).lv 0) st) 4), (7, getS (keep ((E9 mi sm).lv 0) st) 7), (77, getS (keep ((E9 mi sm).lv 0) st) 77), (78, getS (keep ((E9 mi sm).lv 0) st) 78), (79, getS (keep ((E9 mi sm).lv 0) st) 79)] = _
    rw [e0, e1, e2, e3, e4, e5, h1, h2]
    rfl
  rw [es]
  exact ⟨_, _, e, h⟩
theorem seqQ_get (v : Nat → Q) : ∀ (k i j : Nat), j < k → qAt (seqQ v k i) j = v (i + j)
  | 0, _, _, h => absurd h (by omega)
  | k + 1, i, 0, _ => rfl
  | k + 1, i, j + 1, h => by
    have := seqQ_get v k (i + 1) j (by omega)
    rw [show i + 1 + j = i + (j + 1) by omega] at this
    exact this
theorem seqQ_self : ∀ (l : List Q) (k i : Nat), (∀ j, j < l.length → k + j < k + l.length) → seqQ (qAt l) l.length 0 = l := by
  intro l k i _
  apply List.ext_getElem
  · rw [seqQ_len]
  · intro j h1 h2
    have := seqQ_get (qAt l) l.length 0 j h2
    rw [Nat.zero_add, qAt_at h2, qAt_at h1] at this
    exact this
theorem chO_of {t i j : List Q} {l : List Int} (h : ∀ n, n < l.length → (l.getD n 0 = 0 → qAt t n = qAt i n) ∧ (l.getD n 0 = 65535 → qAt t n = qAt j n)) : ∀ (k n : Nat), n + k = l.length → chO t i j l k n = true
  | 0, _, _ => rfl
  | k + 1, n, hn => by
    obtain ⟨h1, h2⟩ := h n (by omega)
    rw [chO, chO_of h k (n + 1) (by omega), Bool.and_true, Bool.and_eq_true]
    constructor
    · by_cases c : l.getD n 0 = 0
      · rw [h1 c, sqx_self, Bool.or_true]
      · rw [beq_eq_false_iff_ne.mpr c]; rfl
    · by_cases c : l.getD n 0 = 65535
      · rw [h2 c, sqx_self, Bool.or_true]
      · rw [beq_eq_false_iff_ne.mpr c]; rfl
theorem tree9_true (a b : Im) (m : Mk) : tree9 mixM sameI a b m = ob true := by
  have err : ∀ e : Int, e ≠ 0 → mixM a b m = errI e → tree9 mixM sameI a b m = ob true := fun e he h => by
    unfold tree9
    rw [h]
    show (bif e != 0 then gli (0, 0, []) (ob (sameI (0, 0, []) (0, 0, []))) else _) = _
    rw [bne_iff_ne.mpr he, sameI_self, gli_ok (Nat.zero_le _)]
    rfl
  by_cases c1 : checkI a = 0
  case neg => exact err (checkI a) c1 (by unfold mixM; rw [bne_iff_ne.mpr c1]; rfl)
  by_cases c0 : checkI b = 0
  case neg => exact err (checkI b) c0 (by unfold mixM; rw [bne_eq_false_iff_eq.mpr c1, bne_iff_ne.mpr c0]; rfl)
  by_cases c2 : checkM m = 0
  case neg => exact err (checkM m) c2 (by unfold mixM; rw [bne_eq_false_iff_eq.mpr c1, bne_eq_false_iff_eq.mpr c0, bne_iff_ne.mpr c2]; rfl)
  cases c3 : (a.1 != b.1 || a.2.1 != b.2.1) || (m.1 != 0 && (m.1 != a.1 || m.2.1 != a.2.1))
  case true => exact err 15 (by decide) (by unfold mixM; rw [bne_eq_false_iff_eq.mpr c1, bne_eq_false_iff_eq.mpr c0, bne_eq_false_iff_eq.mpr c2, c3]; rfl)
  have hm : mixM a b m = ((a.1, a.2.1, seqQ (mxAt mixP a.2.2 b.2.2 m) b.2.2.length 0), 0) := by unfold mixM; rw [bne_eq_false_iff_eq.mpr c1, bne_eq_false_iff_eq.mpr c0, bne_eq_false_iff_eq.mpr c2, c3]; rfl
  rw [Bool.or_eq_false_iff, Bool.or_eq_false_iff, bne_eq_false_iff_eq, bne_eq_false_iff_eq] at c3
  obtain ⟨⟨d1, d2⟩, d3⟩ := c3
  have h6 : m.1 ≠ 0 → m.1 = a.1 ∧ m.2.1 = a.2.1 := fun h => by
    rw [bne_iff_ne.mpr h, Bool.true_and, Bool.or_eq_false_iff, bne_eq_false_iff_eq, bne_eq_false_iff_eq] at d3
    exact d3
  obtain ⟨l1, l2, l3⟩ := okMx_iff (lensX c1 c0 c2 d1 d2 h6)
  have hle : (seqQ (mxAt mixP a.2.2 b.2.2 m) b.2.2.length 0).length = b.2.2.length := seqQ_len _ _ _
  unfold tree9
  rw [hm]
  simp only
  rw [bne_self_eq_false, gli_ok (m := (a.1, a.2.1, seqQ (mxAt mixP a.2.2 b.2.2 m) b.2.2.length 0)) (by simp only; omega), hle]
  by_cases e0 : (m.2.2.length : Int) = 0
  · have hz : m.1 = 0 := by
      obtain ⟨w', h', l'⟩ := m
      obtain ⟨ho, hz, _⟩ := check_ok c2
      have hs := (okSize_iff _ _ _).mp ho
      simp only at e0 hz ⊢
      have hp : w' * h' = 0 := by omega
      rcases Int.mul_eq_zero.mp hp with h | h
      · exact h
      · exact hz.mpr h
    have hself : seqQ (mxAt mixP a.2.2 b.2.2 m) b.2.2.length 0 = b.2.2 := by
      have : mxAt mixP a.2.2 b.2.2 m = qAt b.2.2 := by
        funext k
        unfold mxAt vAt
        rw [bne_eq_false_iff_eq.mpr hz]
        rfl
      rw [this]
      exact seqQ_self _ 0 0 fun j hj => by omega
    have hsame : ((a.1, a.2.1, seqQ (mxAt mixP a.2.2 b.2.2 m) b.2.2.length 0) : Im) = b := by rw [hself, d1, d2]
    rw [beq_iff_eq.mpr e0, hsame, sameI_self, gli_ok (m := b) l2]
    rfl
  · have hz : m.1 ≠ 0 := fun h => by
      obtain ⟨w', h', l'⟩ := m
      have hs := (okSize_iff _ _ _).mp (check_ok c2).1
      simp only at h e0
      rw [h, Int.zero_mul] at hs
      omega
    have l4 := l3 hz
    have hch : chO (seqQ (mxAt mixP a.2.2 b.2.2 m) b.2.2.length 0) a.2.2 b.2.2 m.2.2 m.2.2.length 0 = true := chO_of (fun n hn => by
      rw [seqQ_get _ _ 0 n (by omega), Nat.zero_add]
      unfold mxAt vAt mxV
      rw [bne_iff_ne.mpr hz]
      simp only [cond_true]
      refine ⟨fun h => ?_, fun h => ?_⟩
      · rw [h]; rfl
      · rw [h]; rfl) _ _ (by omega)
    rw [beq_eq_false_iff_ne.mpr e0, hch, bne_eq_false_iff_eq.mpr (by omega : (b.2.2.length : Int) = a.2.2.length), bne_eq_false_iff_eq.mpr (by omega : (a.2.2.length : Int) = b.2.2.length), bne_eq_false_iff_eq.mpr (by omega : (m.2.2.length : Int) = a.2.2.length), bne_self_eq_false, bne_self_eq_false,
      decide_eq_true (by omega : m.2.2.length ≤ 65536), decide_eq_true (by omega : b.2.2.length = m.2.2.length), decide_eq_true (by omega : a.2.2.length = m.2.2.length)]
    simp only [decide_true]
    rfl
theorem m9 : Meets Try.prog 9 (gate (pT dIIM) (sp dIIM fun _ => bw true)) := mG (rdL (e := E9 mixM sameI) rfl (eg_cons m38 (eg_cons m16 (eg_cons m40 eg_nil))) (fn := Try.f9) (k := 3) (by kernel_rfl) (by kernel_rfl) (of_decide_eq_true (by kernel_rfl)) (show loopsOf Try.f9 = [(0, loopAt Try.f9 0)] by kernel_rfl) (fun p hp => by cases List.mem_singleton.mp hp; exact loop9 mixM sameI)) (fun _ _ => hIIM) (fun _ => ⟨rfl, Nat.le_refl _⟩)
  fun ⟨⟨w, h, l⟩, ⟨w1, h1, l1⟩, ⟨w', h', l'⟩⟩ _ => (t9 mixM sameI w h l w1 h1 l1 w' h' l').trans (tree9_true _ _ _)
end Go.Proofs.Ytkeildnpemiacaa.Ev

