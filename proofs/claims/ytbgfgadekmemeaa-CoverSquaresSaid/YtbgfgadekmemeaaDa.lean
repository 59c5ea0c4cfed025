/- Twice the area of a polygon, the program's own and the reference's. Conditions: none. Printed by gen.py of this session. -/
import Derived.Test.YtbgfgadekmemeaaCk
namespace Go.Proofs.Ytbgfgadekmemeaa.Ev
open Go.Proofs
set_option linter.unusedVariables false
set_option linter.unusedSimpArgs false
set_option maxRecDepth 100000
set_option maxHeartbeats 1000000

/-! ### The closure -/
def twE (p q : Pt) (n : Int) : Int := W (n + W (W (p.1 * q.2) - W (q.1 * p.2)))
abbrev Tc := Pt × Pt × Int
@[reducible] def nTc (a : Tc) : List AV := [pv a.1, pv a.2.1, .box 3 [.int .i64 a.2.2]]
def dTc : List AV → Option Tc
  | [.rv (.agg [.int .i64 a, .int .i64 b]), .rv (.agg [.int .i64 c, .int .i64 d]), .box 3 [.int .i64 n]] => some ((a, b), (c, d), n)
  | _ => none
theorem hTc {us : List AV} {a} (h : dTc us = some a) : us = nTc a := by unfold dTc at h; split at h <;> cases h; rfl
def oTc (a : Tc) : AV × List AV := (.tup [], [.unk, .unk, .box 3 [.int .i64 (twE a.1 a.2.1 a.2.2)]])
def ETc : Env := { EG [] with fx := [2], made := [2] }
theorem tTc (a b c d n : Int) : evalFT ETc Try.f34 (nTc ((a, b), (c, d), n)) = some (oTc ((a, b), (c, d), n)) := by kernel_rfl
abbrev pTc : List AV → Bool := ps dTc fun _ => true
abbrev sTc : Spec := spT dTc oTc
theorem mTc : Meets Try.prog 34 (gate pTc sTc) := mGT (rdL (e := ETc) rfl eg_nil (fn := Try.f34) (k := 3) (by kernel_rfl) (by kernel_rfl) (of_decide_eq_true (by kernel_rfl)) (show loopsOf Try.f34 = [] by kernel_rfl) (fun p hp => nomatch hp)) (fun _ _ => hTc) (fun _ => Nat.le_refl _)
  (fun ⟨⟨a, b⟩, ⟨c, d⟩, n⟩ _ => tTc a b c d n)
  (fun ⟨⟨a, b⟩, ⟨c, d⟩, n⟩ hp i x ys hi hx => by
    match i, hi with
    | 0, hi => cases hi; cases hx
    | 1, hi => cases hi; cases hx
    | 2, hi => cases hi; cases hx; exact ⟨by decide, [twE (a, b) (c, d) n], rfl, rfl⟩
    | i + 3, hi => simp at hi)
/-! ### Edges, where the table is one number -/
abbrev E1 := List Pt × TM × Nat × FT × Int
@[reducible] def nE1 (a : E1) : List AV := [psv a.1, .cms a.2.1 a.2.2.1 a.2.2.2.1 [a.2.2.2.2]]
def dE1 : List AV → Option E1
  | [.rv (.sc (.sl none (.pts l))), .cms m p F [n]] => some (l, m, p, F, n)
  | _ => none
theorem hE1 {us : List AV} {a} (h : dE1 us = some a) : us = nE1 a := by unfold dE1 at h; split at h <;> cases h; rfl
def okE1 (a : E1) : Bool := okE (a.1, a.2.1, a.2.2.1, a.2.2.2.1, [a.2.2.2.2])
def oE1 (a : E1) : AV × List AV := (.tup [], [.unk, .cms a.2.1 a.2.2.1 a.2.2.2.1 [(valEd a.2.2.2.1 a.1 a.1.length 0 [a.2.2.2.2]).headD 0]])
abbrev pE1 : List AV → Bool := ps dE1 okE1
abbrev sE1 : Spec := spT dE1 oE1
theorem mE1 : Meets Try.prog 33 (gate pE1 sE1) := by
  intro us r fin hs
  refine mEd us r fin ?_
  have hs' : (bif ps dE1 okE1 us then spT dE1 oE1 us else none) = some (r, fin) := hs
  unfold ps spT at hs'
  cases hd : dE1 us with
  | none => rw [hd] at hs'; cases hs'
  | some a =>
    rw [hd] at hs'
    simp only at hs'
    have ha := hE1 hd
    obtain ⟨l, m, p, F, n⟩ := a
    subst ha
    cases hp : okE1 (l, m, p, F, n) with
    | false => rw [hp] at hs'; cases hs'
    | true =>
      rw [hp, cond_true] at hs'
      have hp' : okE (l, m, p, F, [n]) = true := hp
      show (bif okE (l, m, p, F, [n]) then some (oEd (l, m, p, F, [n])) else none) = some (r, fin)
      rw [hp', cond_true, ← hs']
      simp only [okE, Bool.and_eq_true, decide_eq_true_eq] at hp'
      obtain ⟨y, hy⟩ := one_of hp'.2
      unfold oEd oE1
      simp only
      rw [hy]
      rfl
/-! ### The closure, as edges sees it -/
def LTw : List Entry := [(12, pCk, sCk), (33, pE1, sE1), (34, pTc, sTc)]
def FTw (n0 : Int) : FT := closureT ((EG LTw).ctx #[]) 34 [.box 3 [.int .i64 n0]] 0 (.box 3 [.int .i64 n0])
theorem FTw_eq (n0 a b c d n : Int) : FTw n0 [ptV (a, b), ptV (c, d)] [n] = some [twE (a, b) (c, d) n] := by kernel_rfl
def accT (l : List Pt) : Nat → Nat → Int → Int
  | 0, _, n => n
  | k + 1, i, n => accT l k (i + 1) (twE (l.getD i (0, 0)) (l.getD (nx l i) (0, 0)) n)
theorem edges_tw {n0 : Int} {l : List Pt} (hl : l.length < 4611686018427387904) : ∀ (k i : Nat) (n : Int), i + k = l.length → okEd (FTw n0) l k i [n] = true ∧ valEd (FTw n0) l k i [n] = [accT l k i n] := by
  intro k
  induction k with
  | zero => intro i n _; exact ⟨rfl, rfl⟩
  | succ k ih =>
    intro i n hi
    have e : edF (FTw n0) l i [n] = some [twE (l.getD i (0, 0)) (l.getD (nx l i) (0, 0)) n] := by
      unfold edF
      rw [nx_eq (by omega) hl, show ((i : Int).toNat) = i by omega]
      obtain ⟨a, b⟩ := l.getD i (0, 0)
      obtain ⟨c, d⟩ := l.getD (nx l i) (0, 0)
      exact FTw_eq n0 a b c d n
    obtain ⟨i1, i2⟩ := ih (i + 1) (twE (l.getD i (0, 0)) (l.getD (nx l i) (0, 0)) n) (by omega)
    rw [okEd, valEd, accT, e]
    simp only [okT, valT, Bool.true_and]
    exact ⟨i1, i2⟩
/-! ### The function -/
@[reducible] def nPs (a : List Pt) : List AV := [psv a]
def dPs : List AV → Option (List Pt)
  | [.rv (.sc (.sl none (.pts l)))] => some l
  | _ => none
theorem hPs {us : List AV} {a} (h : dPs us = some a) : us = nPs a := by unfold dPs at h; split at h <;> cases h; rfl
def shortL (l : List Pt) : Bool := decide (l.length < 4611686018427387904)
theorem short1 (l : List Pt) : shortPs [l] = shortL l := by
  unfold shortPs shortL
  rw [decide_eq_true (by simp : [l].length < 4611686018427387904)]
  simp
def twice (l : List Pt) : Int := bif chkC [l] 0 != 0 then 0 else accT l l.length 0 0
def ETw : Env := { EG LTw with made := [3] }
def gSh (l : List Pt) (K : Option (AV × List AV)) : Option (AV × List AV) := bif shortPs [l] then K else none
theorem tTw (l : List Pt) : evalF ETw Try.f16 [psv l] = gSh l (bif chkC [l] 0 != 0 then oi 0 else bif okE (l, .ptr 3, 0, FTw 0, [0]) then oi ((valEd (FTw 0) l l.length 0 [0]).headD 0) else none) := by kernel_rfl
abbrev pTw : List AV → Bool := ps dPs shortL
abbrev sTw : Spec := sp dPs fun l => iv (twice l)
theorem mTw : Meets Try.prog 16 (gate pTw sTw) := mG (rdL (e := ETw) rfl (eg_cons m88 (eg_cons mE1 (eg_cons mTc eg_nil))) (fn := Try.f16) (k := 1) (by kernel_rfl) (by kernel_rfl) (of_decide_eq_true (by kernel_rfl)) (show loopsOf Try.f16 = [] by kernel_rfl) (fun p hp => nomatch hp)) (fun _ _ => hPs) (fun _ => ⟨rfl, Nat.le_refl _⟩)
  fun l hp => by
    have hp : shortL l = true := hp
    have hl : l.length < 4611686018427387904 := of_decide_eq_true hp
    refine (tTw l).trans ?_
    obtain ⟨e1, e2⟩ := edges_tw (n0 := 0) hl l.length 0 0 (by omega)
    have e1 : okEd (FTw 0) l l.length 0 [0] = true := e1
    have e2 : valEd (FTw 0) l l.length 0 [0] = [accT l l.length 0 0] := e2
    show _ = oi (twice l)
    unfold gSh twice okE
    simp only
    have hd : decide ([accT l l.length 0 0].length = [(0 : Int)].length) = true := rfl
    rw [short1, hp, e1, e2, decide_eq_true hl, hd]
    cases chkC [l] 0 != 0 <;> rfl
/-! ### The reference's -/
def lp17 (st : St) (R : Type) (K : Ex → St → Option R) : Option R := req (decide (st.length = 43)) (gPs st 0 fun l => gI st 3 fun n => gI st 4 fun i =>
  req (decide (i = 0 ∧ l.length < 4611686018427387904)) (K (.exit 0) (mk 43 [(3, iv (accT l l.length 0 n))])))
def LRT : List Entry := [(13, pCk, sCkR)]
def ERT : Env := { EG LRT with lv := fun _ => [0, 3, 4], lx := fun _ => [3], lp := fun _ => lp17 }
def st17 (l : List Pt) (n i : Int) : St := mk 43 [(0, psv l), (3, iv n), (4, iv i)]
theorem b17 (l : List Pt) (n i : Int) : evalCode ERT (loopAt Try.f17 0) 0 (st17 l n i) (kp ERT 0) = bif decide (i < l.length) then bif decide (0 ≤ i) && decide (i < l.length) then bif decide ((l.length : Int) = 0) then none else
      bif decide (0 ≤ (W (i + 1)).tmod l.length) && decide ((W (i + 1)).tmod l.length < l.length) then some (.normal, st17 l (twE (l.getD i.toNat (0, 0)) (l.getD ((W (i + 1)).tmod l.length).toNat (0, 0)) n) (W (i + 1))) else none else none
    else some (.exit 0, mk 43 [(3, iv n)]) := by kernel_rfl
theorem runs17 (l : List Pt) (hl : l.length < 4611686018427387904) : ∀ (k i : Nat) (n : Int), i + k = l.length →
    Runs ERT 0 (loopAt Try.f17 0) (st17 l n i) (.exit 0) (mk 43 [(3, iv (accT l k i n))]) := by
  intro k
  induction k with
  | zero =>
    intro i n hi
    refine .stop ?_ (by simp)
    rw [b17, decide_eq_false (by omega)]
    rfl
  | succ k ih =>
    intro i n hi
    have h1 : i < l.length := by omega
    have hbd := b17 l n i
    have ht1 : 0 ≤ (W ((i : Int) + 1)).tmod l.length := by rw [W_small (by omega) (by omega)]; exact Int.tmod_nonneg _ (by omega)
    have ht2 : (W ((i : Int) + 1)).tmod l.length < l.length := by rw [W_small (by omega) (by omega)]; exact Int.tmod_lt_of_pos _ (by omega)
    rw [decide_eq_true (by omega : (i : Int) < l.length), decide_eq_true (by omega : (0 : Int) ≤ i), decide_eq_false (by omega : ¬ (l.length : Int) = 0), decide_eq_true ht1, decide_eq_true ht2, nx_eq h1 hl, Int.toNat_natCast, W_small (n := (i : Int) + 1) (by omega) (by omega)] at hbd
    exact .step hbd (ih (i + 1) _ (by omega))
theorem loop17 : LoopOk ERT 0 (loopAt Try.f17 0) := by
  intro st R K z h
  obtain ⟨hn, h⟩ := req_some h
  obtain ⟨l, e0, h⟩ := gPs_some h
  obtain ⟨n, e1, h⟩ := gI_some h
  obtain ⟨i, e2, h⟩ := gI_some h
  obtain ⟨hc, h⟩ := req_some h
  simp only [Bool.and_eq_true, decide_eq_true_eq] at hc
  obtain ⟨h1, h2⟩ := hc
  rw [keep_mk (of_decide_eq_true hn)]
  have e := runs17 l h2 l.length 0 n (by omega)
  have es : mk 43 ((ERT.lv 0).map fun i => (i, getS (keep (ERT.lv 0) st) i)) = st17 l n (0 : Nat) := by
    show mk 43 [(0, getS (keep (ERT.lv 0) st) 0), (3, getS (keep (ERT.lv 0) st) 3), (4, getS (keep (ERT.lv 0) st) 4)] = _
    rw [e0, e1, e2, h1]
    rfl
  rw [es]
  exact ⟨_, _, e, h⟩
theorem tRT (l : List Pt) : evalF ERT Try.f17 [psv l] = gSh l (bif chkR [l] 0 != 0 then oi 0 else bif decide ((0 : Int) = 0 ∧ l.length < 4611686018427387904) then oi (accT l l.length 0 0) else none) := by kernel_rfl
theorem mRT : Meets Try.prog 17 (gate pTw sTw) := mG (rdL (e := ERT) rfl (eg_cons m91 eg_nil) (fn := Try.f17) (k := 1) (by kernel_rfl) (by kernel_rfl) (of_decide_eq_true (by kernel_rfl)) (show loopsOf Try.f17 = [(0, loopAt Try.f17 0)] by kernel_rfl) (fun p hp => by cases List.mem_singleton.mp hp; exact loop17)) (fun _ _ => hPs) (fun _ => ⟨rfl, Nat.le_refl _⟩)
  fun l hp => by
    have hp : shortL l = true := hp
    have hl : l.length < 4611686018427387904 := of_decide_eq_true hp
    refine (tRT l).trans ?_
    show _ = oi (twice l)
    unfold gSh twice
    rw [short1, hp, chk_eq (ps := [l]) (by simp only [totN]; omega) 0, decide_eq_true (⟨rfl, hl⟩ : (0 : Int) = 0 ∧ l.length < 4611686018427387904)]
    cases chkR [l] 0 != 0 <;> rfl
end Go.Proofs.Ytbgfgadekmemeaa.Ev

