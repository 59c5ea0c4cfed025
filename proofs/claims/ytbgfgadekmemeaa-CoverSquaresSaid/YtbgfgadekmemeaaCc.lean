/- What the closures of cover do to their tables; a call of a closure for each edge. Conditions: none. Printed by gen.py of this session. -/
import Derived.Test.YtbgfgadekmemeaaCb
namespace Go.Proofs.Ytbgfgadekmemeaa.Ev
open Go.Proofs
set_option linter.unusedVariables false
set_option linter.unusedSimpArgs false
set_option maxRecDepth 100000
set_option maxHeartbeats 1000000

/-! ### Contracts of functions that are given a table -/
def spT {α : Type} (dec : List AV → Option α) (f : α → AV × List AV) : Spec := fun us => match dec us with
  | some a => some (f a)
  | none => none
theorem mGT {e : Env} {n : FuncId} {fn : Func} {α : Type} {k : Nat} (r : Ready e n fn k) {dec : List AV → Option α} {enc : α → List AV} (hd : ∀ us a, dec us = some a → us = enc a) (hk : ∀ a, (enc a).length ≤ k) {p : α → Bool} {f : α → AV × List AV}
    (h : ∀ a, p a = true → evalFT e fn (enc a) = some (f a)) (ht : ∀ a, p a = true → ∀ (i : Nat) (x : AV) (xs : List Int), (enc a)[i]? = some x → tab x = some xs → i ∈ e.fx ∧ ∃ ys, (f a).2[i]? = some (setTab ys x) ∧ ys.length = xs.length) : Meets Try.prog n (gate (ps dec p) (spT dec f)) :=
  meets_of_evalT r.hT r.hσ hM r.hf r.hn r.hl fun us x fin hs => by
    have hs' : (bif ps dec p us then spT dec f us else none) = some (x, fin) := hs
    unfold ps spT at hs'
    cases hde : dec us with
    | none => rw [hde] at hs'; cases hs'
    | some a =>
      rw [hde] at hs'
      simp only at hs'
      cases hp : p a
      · rw [hp] at hs'; cases hs'
      · rw [hp] at hs'
        have hs' : some (f a) = some (x, fin) := hs'
        have e : f a = (x, fin) := Option.some.inj hs'
        rw [hd us a hde]
        refine ⟨Nat.le_trans (hk a) r.hk, (h a hp).trans (by rw [e]), fun i y xs hi hy => ?_⟩
        have := ht a hp i y xs hi hy
        rw [e] at this
        exact this
abbrev FT := List Value → List Int → Option (List Int)

/-! ### The closure of a row -/
def lo2 (a b : Int) : Int := if b < a then b else a
def hi2 (a b : Int) : Int := if b > a then b else a
abbrev Rc := Pt × Pt × Int × Int × Nat × List Int
@[reducible] def nRc (a : Rc) : List AV := [pv a.1, pv a.2.1, ci a.2.2.1, ci a.2.2.2.1, .cbox 0 [.ln a.2.2.2.2.1], .tb a.2.2.2.2.2]
def dRc : List AV → Option Rc
  | [.rv (.agg [.int .i64 a, .int .i64 b]), .rv (.agg [.int .i64 c, .int .i64 d]), .cbox 3 [.int .i64 s], .cbox 3 [.int .i64 l], .cbox 0 [.ln n], .tb xs] => some ((a, b), (c, d), s, l, n, xs)
  | _ => none
theorem hRc {us : List AV} {a} (h : dRc us = some a) : us = nRc a := by unfold dRc at h; split at h <;> cases h; rfl
/-- The column from which on an edge no longer counts. -/
def colU (p q : Pt) (s l : Int) (n : Nat) : Int := if W (16 * n) < W (crs p q s - l) then W (16 * n) else W (crs p q s - l)
def bump (xs : List Int) (u w : Int) : List Int := (xs.set 0 (W (xs.getD 0 0 + w))).set u.toNat (W ((xs.set 0 (W (xs.getD 0 0 + w))).getD u.toNat 0 - w))
def bumpN (xs : List Int) (u w : Int) : List Int := (xs.set 0 (W (xs.getD 0 0 + w))).set u.toNat (W ((xs.set 0 (W (xs.getD 0 0 + w))).getD u.toNat 0 - w))
def stepW (w : Int) (p q : Pt) (s l : Int) (n : Nat) (xs : List Int) : List Int :=
  bif decide (lo2 p.2 q.2 > s) then xs else bif decide (hi2 p.2 q.2 ≤ s) then xs else bif decide (colU p q s l n > 0) then bump xs (colU p q s l n) w else xs
/-- What an edge does to the table of a row. -/
def stepE (p q : Pt) (s l : Int) (n : Nat) (xs : List Int) : List Int := bif decide (p.2 > q.2) then stepW (-1) p q s l n xs else stepW 1 p q s l n xs
@[reducible] def oT (xs : List Int) : Option (AV × List AV) := some (.tup [], [.unk, .unk, .unk, .unk, .unk, .tb xs])
def treeRc (w : Int) (p q : Pt) (s l : Int) (n : Nat) (xs : List Int) : Option (AV × List AV) :=
  bif decide (lo2 p.2 q.2 > s) then oT xs else bif decide (hi2 p.2 q.2 ≤ s) then oT xs else
    bif okP p && okP q && decide (-67108864 ≤ s ∧ s ≤ 67108864 ∧ p.2 ≠ q.2) then
      bif decide (colU p q s l n > 0) then
        bif decide ((0 : Int) ≤ 0) && decide ((0 : Int) < xs.length) && true then bif decide (0 < xs.length) then bif decide ((0 : Int) ≤ 0) && decide ((0 : Int) < xs.length) && true then bif decide (0 < xs.length) then
          bif decide (0 ≤ colU p q s l n) && decide (colU p q s l n < (xs.set 0 (W (xs.getD 0 0 + w))).length) && true then bif decide ((colU p q s l n).toNat < (xs.set 0 (W (xs.getD 0 0 + w))).length) then
            bif decide (0 ≤ colU p q s l n) && decide (colU p q s l n < (xs.set 0 (W (xs.getD 0 0 + w))).length) && true then bif decide ((colU p q s l n).toNat < (xs.set 0 (W (xs.getD 0 0 + w))).length) then
              oT (bump xs (colU p q s l n) w)
            else none else none else none else none else none else none else none else none
      else oT xs
    else none
def ERc : Env := { EG [(60, pCr, sCr)] with fx := [5] }
theorem tRc (a b c d s l : Int) (n : Nat) (xs : List Int) : evalFT ERc Try.f59 (nRc ((a, b), (c, d), s, l, n, xs)) = bif decide (b > d) then treeRc (-1) (a, b) (c, d) s l n xs else treeRc 1 (a, b) (c, d) s l n xs := by kernel_rfl
abbrev pRc : List AV → Bool := ps dRc fun a => okP a.1 && okP a.2.1 && decide (-67108864 ≤ a.2.2.1 ∧ a.2.2.1 ≤ 67108864) && decide (-67108864 ≤ a.2.2.2.1 ∧ a.2.2.2.1 ≤ 67108864) && decide (a.2.2.2.2.1 ≤ 256) && decide (a.2.2.2.2.2.length = 16 * a.2.2.2.2.1 + 1)
abbrev sRc : Spec := spT dRc fun a => (.tup [], [.unk, .unk, .unk, .unk, .unk, .tb (stepE a.1 a.2.1 a.2.2.1 a.2.2.2.1 a.2.2.2.2.1 a.2.2.2.2.2)])
theorem colU_le {p q : Pt} {s l : Int} {n : Nat} (hp : okP p = true) (hq : okP q = true) (h1 : -67108864 ≤ s) (h2 : s ≤ 67108864) (h3 : -67108864 ≤ l) (h4 : l ≤ 67108864) (hn : n ≤ 256) (hne : p.2 ≠ q.2) :
    colU p q s l n = if (16 * n : Int) < crs p q s - l then (16 * n : Int) else crs p q s - l := by
  obtain ⟨e1, e2⟩ := crs_le hp hq h1 h2 hne
  unfold colU
  rw [W_small (n := crs p q s - l) (by omega) (by omega), W_small (n := 16 * (n : Int)) (by omega) (by omega)]
theorem treeRc_eq {w : Int} {p q : Pt} {s l : Int} {n : Nat} {xs : List Int} (hp : okP p = true) (hq : okP q = true) (h1 : -67108864 ≤ s) (h2 : s ≤ 67108864) (h3 : -67108864 ≤ l) (h4 : l ≤ 67108864) (hn : n ≤ 256) (hl : xs.length = 16 * n + 1) :
    treeRc w p q s l n xs = oT (stepW w p q s l n xs) := by
  unfold treeRc stepW
  by_cases c1 : lo2 p.2 q.2 > s
  · rw [decide_eq_true c1]; rfl
  by_cases c2 : hi2 p.2 q.2 ≤ s
  · rw [decide_eq_false c1, decide_eq_true c2]; rfl
  have hne : p.2 ≠ q.2 := fun e => by
    unfold lo2 at c1
    unfold hi2 at c2
    rw [e] at c1 c2
    simp only [Int.lt_irrefl, if_false, gt_iff_lt] at c1 c2
    omega
  rw [decide_eq_false c1, decide_eq_false c2, hp, hq, decide_eq_true ⟨h1, h2, hne⟩]
  have hu := colU_le hp hq h1 h2 h3 h4 hn hne
  by_cases c3 : colU p q s l n > 0
  · have hle : colU p q s l n ≤ 16 * n := by rw [hu]; split <;> omega
    rw [decide_eq_true c3, List.length_set, hl]
    simp only [Bool.and_true, cond_true, cond_false]
    rw [decide_eq_true (by omega : (0 : Int) ≤ 0), decide_eq_true (by omega : (0 : Int) < ((16 * n + 1 : Nat) : Int)), decide_eq_true (by omega : 0 < 16 * n + 1), decide_eq_true (by omega : 0 ≤ colU p q s l n), decide_eq_true (by omega : colU p q s l n < ((16 * n + 1 : Nat) : Int)), decide_eq_true (by omega : (colU p q s l n).toNat < 16 * n + 1)]
    rfl
  · rw [decide_eq_false c3]; rfl
theorem bump_len (xs : List Int) (u w : Int) : (bump xs u w).length = xs.length := by unfold bump; rw [List.length_set, List.length_set]
theorem stepW_len (w : Int) (p q : Pt) (s l : Int) (n : Nat) (xs : List Int) : (stepW w p q s l n xs).length = xs.length := by
  unfold stepW
  cases decide (lo2 p.2 q.2 > s) <;> cases decide (hi2 p.2 q.2 ≤ s) <;> cases decide (colU p q s l n > 0) <;> simp only [cond_true, cond_false, bump_len]
theorem stepE_len (p q : Pt) (s l : Int) (n : Nat) (xs : List Int) : (stepE p q s l n xs).length = xs.length := by
  unfold stepE
  cases decide (p.2 > q.2) <;> exact stepW_len _ p q s l n xs
theorem mRc : Meets Try.prog 59 (gate pRc sRc) := mGT (rdL (e := ERc) rfl (eg_cons mCr eg_nil) (fn := Try.f59) (k := 6) (by kernel_rfl) (by kernel_rfl) (of_decide_eq_true (by kernel_rfl)) (show loopsOf Try.f59 = [] by kernel_rfl) (fun p hp => nomatch hp)) (fun _ _ => hRc) (fun _ => Nat.le_refl _)
  (fun ⟨⟨a, b⟩, ⟨c, d⟩, s, l, n, xs⟩ hp => by
    simp only [Bool.and_eq_true, decide_eq_true_eq] at hp
    obtain ⟨⟨⟨⟨⟨hp, hq⟩, h1⟩, h2⟩, hn⟩, hl⟩ := hp
    refine (tRc a b c d s l n xs).trans ?_
    rw [treeRc_eq hp hq h1.1 h1.2 h2.1 h2.2 hn hl, treeRc_eq hp hq h1.1 h1.2 h2.1 h2.2 hn hl]
    show _ = oT (stepE (a, b) (c, d) s l n xs)
    unfold stepE
    cases decide (b > d) <;> rfl)
  (fun ⟨⟨a, b⟩, ⟨c, d⟩, s, l, n, xs⟩ hp i x ys hi hx => by
    match i, hi with
    | 0, hi => cases hi; cases hx
    | 1, hi => cases hi; cases hx
    | 2, hi => cases hi; cases hx
    | 3, hi => cases hi; cases hx
    | 4, hi => cases hi; cases hx
    | 5, hi => cases hi; cases hx; exact ⟨by decide, _, rfl, stepE_len _ _ _ _ _ _⟩
    | i + 6, hi => simp at hi)
/-! ### A call for each edge -/
def ptV (p : Pt) : Value := .agg [Value.int .i64 p.1, Value.int .i64 p.2].toArray
def edF (F : FT) (l : List Pt) (i : Int) (xs : List Int) : Option (List Int) := F [ptV (l.getD i.toNat (0, 0)), ptV (l.getD ((W (i + 1)).tmod l.length).toNat (0, 0))] xs
def okEd (F : FT) (l : List Pt) : Nat → Int → List Int → Bool
  | 0, _, _ => true
  | k + 1, i, xs => okT (edF F l i xs) && okEd F l k (i + 1) (valT (edF F l i xs))
def valEd (F : FT) (l : List Pt) : Nat → Int → List Int → List Int
  | 0, _, xs => xs
  | k + 1, i, xs => valEd F l k (i + 1) (valT (edF F l i xs))
abbrev Ed := List Pt × TM × Nat × FT × List Int
@[reducible] def nEd (a : Ed) : List AV := [psv a.1, .cms a.2.1 a.2.2.1 a.2.2.2.1 a.2.2.2.2]
def dEd : List AV → Option Ed
  | [.rv (.sc (.sl none (.pts l))), .cms m p F xs] => some (l, m, p, F, xs)
  | _ => none
theorem hEd {us : List AV} {a} (h : dEd us = some a) : us = nEd a := by unfold dEd at h; split at h <;> cases h; rfl
def gPs (st : St) (t : Nat) {R : Type} (K : List Pt → Option R) : Option R := match getS st t with
  | .rv (.sc (.sl none (.pts l))) => K l
  | _ => none
theorem gPs_some {st : St} {t : Nat} {R : Type} {r : R} {K : List Pt → Option R} (h : gPs st t K = some r) : ∃ n, getS st t = psv n ∧ K n = some r := by
  unfold gPs at h
  split at h
  · exact ⟨_, ‹_›, h⟩
  · cases h
abbrev Cms := TM × Nat × FT × List Int
@[reducible] def cmv (c : Cms) : AV := .cms c.1 c.2.1 c.2.2.1 c.2.2.2
def gCm (st : St) (t : Nat) {R : Type} (K : Cms → Option R) : Option R := match getS st t with
  | .cms m p F xs => K (m, p, F, xs)
  | _ => none
theorem gCm_some {st : St} {t : Nat} {R : Type} {r : R} {K : Cms → Option R} (h : gCm st t K = some r) : ∃ n, getS st t = cmv n ∧ K n = some r := by
  unfold gCm at h
  split at h
  · exact ⟨(_, _, _, _), ‹_›, h⟩
  · cases h
def stEd (l : List Pt) (m : TM) (p : Nat) (F : FT) (xs : List Int) (l' : List Pt) (n i : Int) : St := mk 25 [(0, psv l), (1, .cms m p F xs), (6, psv l'), (7, iv n), (8, iv i)]
def lpEd (st : St) (R : Type) (K : Ex → St → Option R) : Option R := req (decide (st.length = 25)) (gPs st 0 fun l => gCm st 1 fun c => gPs st 6 fun l' => gI st 7 fun n => gI st 8 fun i =>
  req (decide (l' = l ∧ n = l.length ∧ i = 0 ∧ l.length < 4611686018427387904) && okEd c.2.2.1 l l.length 0 c.2.2.2) (K (.exit 0) (mk 25 [(1, .cms c.1 c.2.1 c.2.2.1 (valEd c.2.2.1 l l.length 0 c.2.2.2))])))
def EEd : Env := { EG [] with fx := [1], made := [1], lv := fun _ => [0, 1, 6, 7, 8], lx := fun _ => [1], lp := fun _ => lpEd }
theorem bEd (l : List Pt) (m : TM) (p : Nat) (F : FT) (xs : List Int) (n i : Int) : evalCode EEd (loopAt Try.f33 0) 0 (stEd l m p F xs l n i) (kp EEd 0) = bif decide (i < n) then
      bif decide (0 ≤ i) && decide (i < l.length) then bif decide ((l.length : Int) = 0) then none else
        bif decide (0 ≤ (W (i + 1)).tmod l.length) && decide ((W (i + 1)).tmod l.length < l.length) then bif okT (edF F l i xs) && true then some (.normal, stEd l m p F (valT (edF F l i xs)) l n (W (i + 1))) else none else none else none
    else some (.exit 0, mk 25 [(1, .cms m p F xs)]) := by kernel_rfl
theorem runsEd (l : List Pt) (m : TM) (p : Nat) (F : FT) (hl : l.length < 4611686018427387904) : ∀ (k : Nat) (i : Int) (xs : List Int), 0 ≤ i → i + k = l.length → okEd F l k i xs = true →
    Runs EEd 0 (loopAt Try.f33 0) (stEd l m p F xs l l.length i) (.exit 0) (mk 25 [(1, .cms m p F (valEd F l k i xs))]) := by
  intro k
  induction k with
  | zero =>
    intro i xs h0 hi _
    refine .stop ?_ (by simp)
    rw [bEd, decide_eq_false (by omega), valEd]
    rfl
  | succ k ih =>
    intro i xs h0 hi ho
    simp only [okEd, Bool.and_eq_true] at ho
    have hbd := bEd l m p F xs l.length i
    have hw : W (i + 1) = i + 1 := W_small (by omega) (by omega)
    have ht1 : 0 ≤ (i + 1).tmod l.length := Int.tmod_nonneg _ (by omega)
    have ht2 : (i + 1).tmod l.length < l.length := Int.tmod_lt_of_pos _ (by omega)
    rw [decide_eq_true (by omega : i < (l.length : Int)), ho.1, hw, decide_eq_true (by omega : 0 ≤ i), decide_eq_false (by omega : ¬ (l.length : Int) = 0), decide_eq_true ht1, decide_eq_true ht2] at hbd
    exact .step hbd (ih (i + 1) _ (by omega) (by omega) ho.2)
theorem loopEd : LoopOk EEd 0 (loopAt Try.f33 0) := by
  intro st R K z h
  obtain ⟨hn, h⟩ := req_some h
  obtain ⟨l, e0, h⟩ := gPs_some h
  obtain ⟨c, e1, h⟩ := gCm_some h
  obtain ⟨l', e2, h⟩ := gPs_some h
  obtain ⟨n, e3, h⟩ := gI_some h
  obtain ⟨i, e4, h⟩ := gI_some h
  obtain ⟨hc, h⟩ := req_some h
  simp only [Bool.and_eq_true, decide_eq_true_eq] at hc
  obtain ⟨⟨h1, h2, h3, h4⟩, h5⟩ := hc
  rw [keep_mk (of_decide_eq_true hn)]
  have e := runsEd l c.1 c.2.1 c.2.2.1 h4 l.length 0 c.2.2.2 (Int.le_refl _) (by omega) h5
  have es : mk 25 ((EEd.lv 0).map fun i => (i, getS (keep (EEd.lv 0) st) i)) = stEd l c.1 c.2.1 c.2.2.1 c.2.2.2 l l.length 0 := by
    show mk 25 [(0, getS (keep (EEd.lv 0) st) 0), (1, getS (keep (EEd.lv 0) st) 1), (6, getS (keep (EEd.lv 0) st) 6), (7, getS (keep (EEd.lv 0) st) 7), (8, getS (keep (EEd.lv 0) st) 8)] = _
    rw [e0, e1, e2, e3, e4, h1, h2, h3]
    rfl
  rw [es]
  exact ⟨_, _, e, h⟩
def oEd (a : Ed) : AV × List AV := (.tup [], [.unk, .cms a.2.1 a.2.2.1 a.2.2.2.1 (valEd a.2.2.2.1 a.1 a.1.length 0 a.2.2.2.2)])
def okE (a : Ed) : Bool := decide (a.1.length < 4611686018427387904) && okEd a.2.2.2.1 a.1 a.1.length 0 a.2.2.2.2 && decide ((valEd a.2.2.2.1 a.1 a.1.length 0 a.2.2.2.2).length = a.2.2.2.2.length)
theorem tEd (l : List Pt) (m : TM) (p : Nat) (F : FT) (xs : List Int) : evalFT EEd Try.f33 (nEd (l, m, p, F, xs)) = bif decide (l = l ∧ (l.length : Int) = l.length ∧ (0 : Int) = 0 ∧ l.length < 4611686018427387904) && okEd F l l.length 0 xs then some (oEd (l, m, p, F, xs)) else none := by kernel_rfl
abbrev pEd : List AV → Bool := ps dEd okE
abbrev sEd : Spec := spT dEd oEd
theorem mEd : Meets Try.prog 33 (gate pEd sEd) := mGT (rdL (e := EEd) rfl eg_nil (fn := Try.f33) (k := 2) (by kernel_rfl) (by kernel_rfl) (of_decide_eq_true (by kernel_rfl)) (show loopsOf Try.f33 = [(0, loopAt Try.f33 0)] by kernel_rfl) (fun p hp => by cases List.mem_singleton.mp hp; exact loopEd)) (fun _ _ => hEd) (fun _ => Nat.le_refl _)
  (fun ⟨l, m, p, F, xs⟩ hp => by
    simp only [okE, Bool.and_eq_true, decide_eq_true_eq] at hp
    refine (tEd l m p F xs).trans ?_
    rw [decide_eq_true ⟨rfl, rfl, rfl, hp.1.1⟩, hp.1.2]
    rfl)
  (fun ⟨l, m, p, F, xs⟩ hp i x ys hi hx => by
    simp only [okE, Bool.and_eq_true, decide_eq_true_eq] at hp
    match i, hi with
    | 0, hi => cases hi; cases hx
    | 1, hi => cases hi; cases hx; exact ⟨by decide, _, rfl, hp.2⟩
    | i + 2, hi => simp at hi)

/-! ### The closure of a row, as edges sees it -/
def LRow : List Entry := [(33, pEd, sEd), (59, pRc, sRc)]
def FRow (s lf : Int) (n : Nat) (xs0 : List Int) : FT := closureT ((EG LRow).ctx #[]) 59 [ci s, ci lf, .cbox 0 [.ln n], .tb xs0] 3 (.tb xs0)
def gRc (a b c d s lf : Int) (n : Nat) (xs : List Int) : Bool := okP (a, b) && okP (c, d) && decide (-67108864 ≤ s ∧ s ≤ 67108864) && decide (-67108864 ≤ lf ∧ lf ≤ 67108864) && decide (n ≤ 256) && decide (xs.length = 16 * n + 1)
theorem spRow (a b c d s lf : Int) (n : Nat) (xs : List Int) : ((EG LRow).ctx #[]).sp 59 (nRc ((a, b), (c, d), s, lf, n, xs)) = bif gRc a b c d s lf n xs then oT (stepE (a, b) (c, d) s lf n xs) else none := by kernel_rfl
theorem FRow_eq (s lf : Int) (n : Nat) (xs0 : List Int) (a b c d : Int) (xs : List Int) (h : gRc a b c d s lf n xs = true) : FRow s lf n xs0 [ptV (a, b), ptV (c, d)] xs = some (stepE (a, b) (c, d) s lf n xs) := by
  have e := spRow a b c d s lf n xs
  rw [h, cond_true] at e
  have key : ∀ o : Option (AV × List AV), ((EG LRow).ctx #[]).sp 59 (nRc ((a, b), (c, d), s, lf, n, xs)) = o → o = oT (stepE (a, b) (c, d) s lf n xs) → FRow s lf n xs0 [ptV (a, b), ptV (c, d)] xs = some (stepE (a, b) (c, d) s lf n xs) := by
    intro o h1 h2
    subst h2
    unfold FRow closureT
    have h3 : ofVsA [ptV (a, b), ptV (c, d)] = some [pv (a, b), pv (c, d)] := rfl
    rw [h3]
    simp only
    have h4 : [pv (a, b), pv (c, d)] ++ ([ci s, ci lf, .cbox 0 [.ln n], .tb xs0] : List AV).set 3 (setTab xs (.tb xs0)) = nRc ((a, b), (c, d), s, lf, n, xs) := rfl
    rw [h4, h1]
    rfl
  exact key _ rfl e
/-- The place behind a point. -/
def nx (l : List Pt) (i : Nat) : Nat := if i + 1 = l.length then 0 else i + 1
def foldE (s lf : Int) (n : Nat) (l : List Pt) : Nat → Nat → List Int → List Int
  | 0, _, xs => xs
  | k + 1, i, xs => foldE s lf n l k (i + 1) (stepE (l.getD i (0, 0)) (l.getD (nx l i) (0, 0)) s lf n xs)
def okPts (l : List Pt) : Bool := l.all okP
theorem okPts_at {l : List Pt} (h : okPts l = true) (i : Nat) : okP (l.getD i (0, 0)) = true := by
  rw [List.getD_eq_getElem?_getD]
  cases hi : l[i]? with
  | none => rfl
  | some p => exact List.all_eq_true.1 h p (List.mem_of_getElem? hi)
theorem foldE_len (s lf : Int) (n : Nat) (l : List Pt) : ∀ (k i : Nat) (xs : List Int), (foldE s lf n l k i xs).length = xs.length
  | 0, _, _ => rfl
  | k + 1, i, xs => by rw [foldE, foldE_len, stepE_len]
theorem nx_eq {l : List Pt} {i : Nat} (h : i < l.length) (hl : l.length < 4611686018427387904) : ((W ((i : Int) + 1)).tmod l.length).toNat = nx l i := by
  rw [W_small (by omega) (by omega), Int.tmod_eq_emod_of_nonneg (by omega)]
  unfold nx
  split
  · rename_i e
    rw [show (i : Int) + 1 = (l.length : Int) by omega, Int.emod_self]
    rfl
  · rw [Int.emod_eq_of_lt (by omega) (by omega)]
    omega
theorem edF_row {s lf : Int} {n : Nat} {xs0 : List Int} {l : List Pt} (ho : okPts l = true) (h1 : -67108864 ≤ s ∧ s ≤ 67108864) (h2 : -67108864 ≤ lf ∧ lf ≤ 67108864) (hn : n ≤ 256) {i : Nat} (hi : i < l.length) (hl : l.length < 4611686018427387904) {xs : List Int} (hx : xs.length = 16 * n + 1) :
    edF (FRow s lf n xs0) l i xs = some (stepE (l.getD i (0, 0)) (l.getD (nx l i) (0, 0)) s lf n xs) := by
  have e1 := okPts_at ho i
  have e2 := okPts_at ho (nx l i)
  unfold edF
  rw [nx_eq hi hl, show ((i : Int).toNat) = i by omega]
  revert e1 e2
  obtain ⟨a, b⟩ := l.getD i (0, 0)
  obtain ⟨c, d⟩ := l.getD (nx l i) (0, 0)
  intro e1 e2
  exact FRow_eq s lf n xs0 a b c d xs (by unfold gRc; rw [e1, e2, decide_eq_true h1, decide_eq_true h2, decide_eq_true hn, decide_eq_true hx]; rfl)
theorem edges_row {s lf : Int} {n : Nat} {xs0 : List Int} {l : List Pt} (ho : okPts l = true) (h1 : -67108864 ≤ s ∧ s ≤ 67108864) (h2 : -67108864 ≤ lf ∧ lf ≤ 67108864) (hn : n ≤ 256) (hl : l.length < 4611686018427387904) : ∀ (k i : Nat) (xs : List Int), i + k = l.length → xs.length = 16 * n + 1 →
    okEd (FRow s lf n xs0) l k i xs = true ∧ valEd (FRow s lf n xs0) l k i xs = foldE s lf n l k i xs := by
  intro k
  induction k with
  | zero => intro i xs _ _; exact ⟨rfl, rfl⟩
  | succ k ih =>
    intro i xs hi hx
    have e := edF_row (xs0 := xs0) ho h1 h2 hn (i := i) (by omega) hl hx
    obtain ⟨i1, i2⟩ := ih (i + 1) (stepE (l.getD i (0, 0)) (l.getD (nx l i) (0, 0)) s lf n xs) (by omega) (by rw [stepE_len]; exact hx)
    rw [okEd, valEd, foldE, e]
    simp only [okT, valT, Bool.true_and]
    exact ⟨i1, i2⟩
theorem okE_row {s lf : Int} {n : Nat} {xs0 : List Int} {l : List Pt} (ho : okPts l = true) (h1 : -67108864 ≤ s ∧ s ≤ 67108864) (h2 : -67108864 ≤ lf ∧ lf ≤ 67108864) (hn : n ≤ 256) (hl : l.length < 4611686018427387904) {xs : List Int} (hx : xs.length = 16 * n + 1) (m : TM) (p : Nat) :
    okE (l, m, p, FRow s lf n xs0, xs) = true ∧ valEd (FRow s lf n xs0) l l.length 0 xs = foldE s lf n l l.length 0 xs := by
  obtain ⟨e1, e2⟩ := edges_row (xs0 := xs0) ho h1 h2 hn hl l.length 0 xs (by omega) hx
  refine ⟨?_, e2⟩
  unfold okE
  simp only
  rw [decide_eq_true hl, show okEd (FRow s lf n xs0) l l.length 0 xs = true from e1, show valEd (FRow s lf n xs0) l l.length 0 xs = _ from e2, foldE_len, decide_eq_true rfl]
  rfl
end Go.Proofs.Ytbgfgadekmemeaa.Ev

