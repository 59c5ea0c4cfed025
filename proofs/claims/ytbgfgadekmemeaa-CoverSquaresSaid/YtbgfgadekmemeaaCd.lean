/- A row of samples: the table of turns, and how many samples of each pixel are inside. Conditions: none. Printed by gen.py of this session. -/
import Derived.Test.YtbgfgadekmemeaaCc
namespace Go.Proofs.Ytbgfgadekmemeaa.Ev
open Go.Proofs
set_option linter.unusedVariables false
set_option linter.unusedSimpArgs false
set_option maxRecDepth 100000
set_option maxHeartbeats 1000000

abbrev Ps := List (List Pt)
@[reducible] def plv (l : Ps) : AV := .rv (.sc (.sl none (.polys l)))
def gPl (st : St) (t : Nat) {R : Type} (K : Ps → Option R) : Option R := match getS st t with
  | .rv (.sc (.sl none (.polys l))) => K l
  | _ => none
def gMs (st : St) (t : Nat) {R : Type} (K : List Int → Option R) : Option R := match getS st t with
  | .ms l => K l
  | _ => none
def gTb (st : St) (t : Nat) {R : Type} (K : List Int → Option R) : Option R := match getS st t with
  | .tb l => K l
  | _ => none
def gCi (st : St) (t : Nat) {R : Type} (K : Int → Option R) : Option R := match getS st t with
  | .cbox 3 [.int .i64 n] => K n
  | _ => none
def gA4 (st : St) (t : Nat) {R : Type} (K : Unit → Option R) : Option R := match getS st t with
  | .al 4 .cell => K ()
  | _ => none
@[reducible] def a4v (_ : Unit) : AV := .al 4 .cell
section
variable {st : St} {t : Nat} {R : Type} {r : R}
theorem gPl_some {K : Ps → Option R} (h : gPl st t K = some r) : ∃ n, getS st t = plv n ∧ K n = some r := by
  unfold gPl at h
  split at h
  · exact ⟨_, ‹_›, h⟩
  · cases h
theorem gMs_some {K : List Int → Option R} (h : gMs st t K = some r) : ∃ n, getS st t = .ms n ∧ K n = some r := by
  unfold gMs at h
  split at h
  · exact ⟨_, ‹_›, h⟩
  · cases h
theorem gTb_some {K : List Int → Option R} (h : gTb st t K = some r) : ∃ n, getS st t = .tb n ∧ K n = some r := by
  unfold gTb at h
  split at h
  · exact ⟨_, ‹_›, h⟩
  · cases h
theorem gCi_some {K : Int → Option R} (h : gCi st t K = some r) : ∃ n, getS st t = ci n ∧ K n = some r := by
  unfold gCi at h
  split at h
  · exact ⟨_, ‹_›, h⟩
  · cases h
theorem gA4_some {K : Unit → Option R} (h : gA4 st t K = some r) : ∃ n, getS st t = a4v n ∧ K n = some r := by
  unfold gA4 at h
  split at h
  · exact ⟨(), ‹_›, h⟩
  · cases h
end

/-! ### The table of turns -/
def foldPs (s lf : Int) (n : Nat) : Ps → List Int → List Int
  | [], xs => xs
  | l :: ls, xs => foldPs s lf n ls (foldE s lf n l l.length 0 xs)
def okPl (l : List Pt) : Bool := okPts l && decide (l.length < 4611686018427387904)
def okPs (ps : Ps) : Bool := ps.all okPl
theorem foldPs_len (s lf : Int) (n : Nat) : ∀ (ps : Ps) (xs : List Int), (foldPs s lf n ps xs).length = xs.length
  | [], _ => rfl
  | l :: ls, xs => by rw [foldPs, foldPs_len, foldE_len]
/-! ### The samples inside -/
def oddB (w : Int) : Bool := IntKind.i64.wrap (BitVec.ofInt IntKind.i64.bits w &&& BitVec.ofInt IntKind.i64.bits 1).toNat == 1
/-- Is a sample inside? -/
def insW (rule w : Int) : Bool := bif rule == 0 then bif w != 0 then true else bif rule == 1 then oddB w else false else bif rule == 1 then oddB w else false
def tick (counts : List Int) (i : Int) : List Int := counts.set (W (i.tdiv 16)).toNat (W (counts.getD (W (i.tdiv 16)).toNat 0 + 1))
def okTick (counts : List Int) (i : Int) : Bool := decide (0 ≤ W (i.tdiv 16)) && decide (W (i.tdiv 16) < counts.length)
def finC (rule : Int) (turns : List Int) : Nat → Int → Int → List Int → List Int
  | 0, _, _, cs => cs
  | k + 1, i, w, cs => finC rule turns k (i + 1) (W (w + turns.getD i.toNat 0)) (bif insW rule (W (w + turns.getD i.toNat 0)) then tick cs i else cs)
theorem tick_len (cs : List Int) (i : Int) : (tick cs i).length = cs.length := List.length_set
theorem finC_len (rule : Int) (turns : List Int) : ∀ (k : Nat) (i w : Int) (cs : List Int), (finC rule turns k i w cs).length = cs.length
  | 0, _, _, _ => rfl
  | k + 1, i, w, cs => by
    rw [finC, finC_len]
    cases insW rule (W (w + turns.getD i.toNat 0))
    · rfl
    · exact tick_len cs i

/-! ### The loops -/
def st105a (rule : Int) (cs : List Int) (s lf : Int) (ts : List Int) (ps : Ps) (n i : Int) : St := mk 65 [(1, iv rule), (4, .ms cs), (7, ci s), (8, ci lf), (9, .al 4 .cell), (10, .tb ts), (20, plv ps), (21, iv n), (22, iv i)]
def st105b (rule : Int) (cs ts : List Int) (w n i : Int) : St := mk 65 [(1, iv rule), (4, .ms cs), (9, .al 4 .cell), (10, .tb ts), (13, iv w), (32, iv n), (33, iv i)]
def okRange (s : Int) : Bool := decide (-67108864 ≤ s ∧ s ≤ 67108864)
def lp105a (st : St) (R : Type) (K : Ex → St → Option R) : Option R := req (decide (st.length = 65)) (gI st 1 fun rule => gMs st 4 fun cs => gCi st 7 fun s => gCi st 8 fun lf => gA4 st 9 fun _ => gTb st 10 fun ts => gPl st 20 fun ps => gI st 21 fun n => gI st 22 fun i =>
  req (decide (n = ps.length ∧ i = 0 ∧ ps.length < 4611686018427387904) && okRange s && okRange lf && decide (cs.length ≤ 256) && decide (ts.length = 16 * cs.length + 1) && okPs ps)
    (K (.exit 0) (mk 65 [(1, iv rule), (4, .ms cs), (9, .al 4 .cell), (10, .tb (foldPs s lf cs.length ps ts))])))
def lp105b (st : St) (R : Type) (K : Ex → St → Option R) : Option R := req (decide (st.length = 65)) (gI st 1 fun rule => gMs st 4 fun cs => gA4 st 9 fun _ => gTb st 10 fun ts => gI st 13 fun w => gI st 32 fun n => gI st 33 fun i =>
  req (decide (n = 16 * cs.length ∧ i = 0 ∧ w = 0) && decide (cs.length ≤ 256) && decide (ts.length = 16 * cs.length + 1)) (K (.exit 2) (mk 65 [(4, .ms (finC rule ts (16 * cs.length) 0 0 cs))])))
def ERow : Env := { EG LRow with fx := [4], made := [10], fz := [7, 8], lv := fun id => match id with | 0 => [1, 4, 7, 8, 9, 10, 20, 21, 22] | _ => [1, 4, 9, 10, 13, 32, 33], lx := fun id => match id with | 0 => [1, 4, 9, 10] | _ => [4], lp := fun id => match id with | 0 => lp105a | _ => lp105b }
theorem b105a (rule : Int) (cs : List Int) (s lf : Int) (ts : List Int) (ps : Ps) (n i : Int) : evalCode ERow (loopAt Try.f50 0) 0 (st105a rule cs s lf ts ps n i) (kp ERow 0) = bif decide (i < n) then bif decide (0 ≤ i) && decide (i < ps.length) then
      bif okE (ps.getD i.toNat [], .box, 3, FRow s lf cs.length ts, ts) then some (.normal, st105a rule cs s lf (valEd (FRow s lf cs.length ts) (ps.getD i.toNat []) (ps.getD i.toNat []).length 0 ts) ps n (W (i + 1))) else none else none
    else some (.exit 0, mk 65 [(1, iv rule), (4, .ms cs), (9, .al 4 .cell), (10, .tb ts)]) := by kernel_rfl
def tk2 (rule : Int) (cs ts : List Int) (w n i : Int) : Option (Ex × St) := bif okTick cs i && true then bif decide ((W (i.tdiv 16)).toNat < cs.length) then bif okTick cs i && true then bif decide ((W (i.tdiv 16)).toNat < cs.length) then
  some (.normal, st105b rule (tick cs i) ts w n (W (i + 1))) else none else none else none else none
theorem b105b (rule : Int) (cs ts : List Int) (w n i : Int) : evalCode ERow (loopAt Try.f50 1) 2 (st105b rule cs ts w n i) (kp ERow 2) = bif decide (i < n) then bif decide (0 ≤ i) && decide (i < ts.length) && true then bif decide (i.toNat < ts.length) then
      let w' := W (w + ts.getD i.toNat 0)
      bif rule == 0 then bif w' != 0 then tk2 rule cs ts w' n i else bif rule == 1 then bif oddB w' then tk2 rule cs ts w' n i else some (.normal, st105b rule cs ts w' n (W (i + 1))) else some (.normal, st105b rule cs ts w' n (W (i + 1)))
      else bif rule == 1 then bif oddB w' then tk2 rule cs ts w' n i else some (.normal, st105b rule cs ts w' n (W (i + 1))) else some (.normal, st105b rule cs ts w' n (W (i + 1))) else none else none
    else some (.exit 2, mk 65 [(4, .ms cs)]) := by kernel_rfl
theorem ps_at {ps : Ps} (h : okPs ps = true) (i : Nat) : okPl (ps.getD i []) = true := by
  rw [List.getD_eq_getElem?_getD]
  cases hi : ps[i]? with
  | none => rfl
  | some p => exact List.all_eq_true.1 h p (List.mem_of_getElem? hi)
theorem runs105a (rule : Int) (cs : List Int) (s lf : Int) (ps : Ps) (hn : ps.length < 4611686018427387904) (h1 : okRange s = true) (h2 : okRange lf = true) (h3 : cs.length ≤ 256) (ho : okPs ps = true) : ∀ (k i : Nat) (ts : List Int), i + k = ps.length → ts.length = 16 * cs.length + 1 →
    Runs ERow 0 (loopAt Try.f50 0) (st105a rule cs s lf ts ps ps.length i) (.exit 0) (mk 65 [(1, iv rule), (4, .ms cs), (9, .al 4 .cell), (10, .tb (foldPs s lf cs.length (ps.drop i) ts))]) := by
  intro k
  induction k with
  | zero =>
    intro i ts hi _
    refine .stop ?_ (by simp)
    rw [b105a, decide_eq_false (by omega), List.drop_eq_nil_of_le (by omega), foldPs]
    rfl
  | succ k ih =>
    intro i ts hi ht
    have hbd := b105a rule cs s lf ts ps ps.length i
    have hil : i < ps.length := by omega
    have hp := ps_at ho i
    simp only [okPl, Bool.and_eq_true, decide_eq_true_eq] at hp
    obtain ⟨e1, e2⟩ := okE_row (xs0 := ts) hp.1 (of_decide_eq_true h1) (of_decide_eq_true h2) h3 hp.2 ht .box 3
    rw [decide_eq_true (by omega : (i : Int) < (ps.length : Int)), decide_eq_true (by omega : (0 : Int) ≤ (i : Int)), show ((i : Int).toNat) = i by omega, e1, e2, W_small (n := (i : Int) + 1) (by omega) (by omega)] at hbd
    rw [List.drop_eq_getElem_cons hil, foldPs]
    have hg : ps.getD i [] = ps[i] := by rw [List.getD_eq_getElem?_getD, List.getElem?_eq_getElem hil]; rfl
    rw [hg] at hbd
    exact .step hbd (ih (i + 1) _ (by omega) (by rw [foldE_len]; exact ht))
theorem runs105b (rule : Int) (ts : List Int) (n : Nat) (hn : n ≤ 256) (ht : ts.length = 16 * n + 1) : ∀ (k i : Nat) (w : Int) (cs : List Int), i + k = 16 * n → cs.length = n →
    Runs ERow 2 (loopAt Try.f50 1) (st105b rule cs ts w (16 * n : Nat) i) (.exit 2) (mk 65 [(4, .ms (finC rule ts k i w cs))]) := by
  intro k
  induction k with
  | zero =>
    intro i w cs hi hc
    refine .stop ?_ (by simp)
    rw [b105b, decide_eq_false (by omega), finC]
    rfl
  | succ k ih =>
    intro i w cs hi hc
    have hbd := b105b rule cs ts w (16 * n : Nat) i
    have hw : W (((i : Int)).tdiv 16) = (i : Int) / 16 := by
      rw [Int.tdiv_eq_ediv_of_nonneg (by omega), W_small (by omega) (by omega)]
    have hok : okTick cs i = true := by
      unfold okTick
      rw [hw, decide_eq_true (by omega : 0 ≤ (i : Int) / 16), decide_eq_true (by omega : (i : Int) / 16 < (cs.length : Int))]
      rfl
    have hok2 : decide ((W (((i : Int)).tdiv 16)).toNat < cs.length) = true := by rw [hw]; exact decide_eq_true (by omega)
    rw [decide_eq_true (by omega : (i : Int) < ((16 * n : Nat) : Int)), decide_eq_true (by omega : (0 : Int) ≤ (i : Int)), decide_eq_true (by omega : (i : Int) < (ts.length : Int)), decide_eq_true (by omega : ((i : Int)).toNat < ts.length), W_small (n := (i : Int) + 1) (by omega) (by omega)] at hbd
    unfold tk2 at hbd
    rw [hok, hok2, W_small (n := (i : Int) + 1) (by omega) (by omega)] at hbd
    simp only [cond_true, Bool.and_true] at hbd
    rw [finC]
    have := ih (i + 1) (W (w + ts.getD ((i : Int)).toNat 0)) (bif insW rule (W (w + ts.getD ((i : Int)).toNat 0)) then tick cs i else cs) (by omega) (by
      cases insW rule (W (w + ts.getD ((i : Int)).toNat 0))
      · exact hc
      · rw [cond_true, tick_len]; exact hc)
    refine .step ?_ this
    rw [hbd]
    unfold insW
    cases rule == 0 <;> cases rule == 1 <;> cases (W (w + ts.getD ((i : Int)).toNat 0)) != 0 <;> cases oddB (W (w + ts.getD ((i : Int)).toNat 0)) <;> rfl
theorem loop105a : LoopOk ERow 0 (loopAt Try.f50 0) := by
  intro st R K z h
  obtain ⟨hn, h⟩ := req_some h
  obtain ⟨rule, e0, h⟩ := gI_some h
  obtain ⟨cs, e1, h⟩ := gMs_some h
  obtain ⟨s, e2, h⟩ := gCi_some h
  obtain ⟨lf, e3, h⟩ := gCi_some h
  obtain ⟨u, e4, h⟩ := gA4_some h
  obtain ⟨ts, e5, h⟩ := gTb_some h
  obtain ⟨ps, e6, h⟩ := gPl_some h
  obtain ⟨n, e7, h⟩ := gI_some h
  obtain ⟨i, e8, h⟩ := gI_some h
  obtain ⟨hc, h⟩ := req_some h
  simp only [Bool.and_eq_true, decide_eq_true_eq] at hc
  obtain ⟨⟨⟨⟨⟨⟨h1, h2, h3⟩, h4⟩, h5⟩, h6⟩, h7⟩, h8⟩ := hc
  rw [keep_mk (of_decide_eq_true hn)]
  have e := runs105a rule cs s lf ps h3 h4 h5 h6 h8 ps.length 0 ts (by omega) h7
  have es : mk 65 ((ERow.lv 0).map fun i => (i, getS (keep (ERow.lv 0) st) i)) = st105a rule cs s lf ts ps ps.length (0 : Nat) := by
    show mk 65 [(1, getS (keep (ERow.lv 0) st) 1), (4, getS (keep (ERow.lv 0) st) 4), (7, getS (keep (ERow.lv 0) st) 7), (8, getS (keep (ERow.lv 0) st) 8), (9, getS (keep (ERow.lv 0) st) 9), (10, getS (keep (ERow.lv 0) st) 10), (20, getS (keep (ERow.lv 0) st) 20), (21, getS (keep (ERow.lv 0) st) 21), (22, getS (keep (ERow.lv 0) st) 22)] = _
    rw [e0, e1, e2, e3, e4, e5, e6, e7, e8, h1, h2]
    rfl
  rw [es]
  exact ⟨_, _, e, h⟩
theorem loop105b : LoopOk ERow 2 (loopAt Try.f50 1) := by
  intro st R K z h
  obtain ⟨hn, h⟩ := req_some h
  obtain ⟨rule, e0, h⟩ := gI_some h
  obtain ⟨cs, e1, h⟩ := gMs_some h
  obtain ⟨u, e2, h⟩ := gA4_some h
  obtain ⟨ts, e3, h⟩ := gTb_some h
  obtain ⟨w, e4, h⟩ := gI_some h
  obtain ⟨n, e5, h⟩ := gI_some h
  obtain ⟨i, e6, h⟩ := gI_some h
  obtain ⟨hc, h⟩ := req_some h
  simp only [Bool.and_eq_true, decide_eq_true_eq] at hc
  obtain ⟨⟨⟨h1, h2, h3⟩, h4⟩, h5⟩ := hc
  rw [keep_mk (of_decide_eq_true hn)]
  have e := runs105b rule ts cs.length h4 h5 (16 * cs.length) 0 0 cs (by omega) rfl
  have es : mk 65 ((ERow.lv 2).map fun i => (i, getS (keep (ERow.lv 2) st) i)) = st105b rule cs ts 0 (16 * cs.length : Nat) (0 : Nat) := by
    show mk 65 [(1, getS (keep (ERow.lv 2) st) 1), (4, getS (keep (ERow.lv 2) st) 4), (9, getS (keep (ERow.lv 2) st) 9), (10, getS (keep (ERow.lv 2) st) 10), (13, getS (keep (ERow.lv 2) st) 13), (32, getS (keep (ERow.lv 2) st) 32), (33, getS (keep (ERow.lv 2) st) 33)] = _
    rw [e0, e1, e2, e3, e4, e5, e6, h1, h2, h3]
    rfl
  rw [es]
  exact ⟨_, _, e, h⟩
/-! ### The contract -/
abbrev Rw := Ps × Int × Int × Int × List Int
@[reducible] def nRw (a : Rw) : List AV := [plv a.1, iv a.2.1, iv a.2.2.1, iv a.2.2.2.1, .ms a.2.2.2.2]
def dRw : List AV → Option Rw
  | [.rv (.sc (.sl none (.polys ps))), .rv (.sc (.int .i64 rule)), .rv (.sc (.int .i64 s)), .rv (.sc (.int .i64 l)), .ms cs] => some (ps, rule, s, l, cs)
  | _ => none
theorem hRw {us : List AV} {a} (h : dRw us = some a) : us = nRw a := by unfold dRw at h; split at h <;> cases h; rfl
/-- What a row of samples adds to the counts of its pixels. -/
def rowC (ps : Ps) (rule s lf : Int) (cs : List Int) : List Int := finC rule (foldPs s lf cs.length ps (List.replicate (16 * cs.length + 1) 0)) (16 * cs.length) 0 0 cs
def okRw (a : Rw) : Bool := decide (a.1.length < 4611686018427387904) && okRange a.2.2.1 && okRange a.2.2.2.1 && decide (a.2.2.2.2.length ≤ 256) && okPs a.1
def oRw (a : Rw) : AV × List AV := (.tup [], [.unk, .unk, .unk, .unk, .ms (rowC a.1 a.2.1 a.2.2.1 a.2.2.2.1 a.2.2.2.2)])
abbrev pRw : List AV → Bool := ps dRw okRw
abbrev sRw : Spec := spT dRw oRw
theorem rowC_len (ps : Ps) (rule s lf : Int) (cs : List Int) : (rowC ps rule s lf cs).length = cs.length := finC_len _ _ _ _ _ _
def treeRw (ps : Ps) (rule s lf : Int) (cs ts : List Int) : Option (AV × List AV) :=
  bif decide ((ps.length : Int) = ps.length ∧ (0 : Int) = 0 ∧ ps.length < 4611686018427387904) && okRange s && okRange lf && decide (cs.length ≤ 256) && decide (ts.length = 16 * cs.length + 1) && okPs ps then
    bif decide (W (16 * cs.length) = 16 * cs.length ∧ (0 : Int) = 0 ∧ (0 : Int) = 0) && decide (cs.length ≤ 256) && decide ((foldPs s lf cs.length ps ts).length = 16 * cs.length + 1) then
      some (.tup [], [.unk, .unk, .unk, .unk, .ms (finC rule (foldPs s lf cs.length ps ts) (16 * cs.length) 0 0 cs)]) else none else none
theorem tRw (ps : Ps) (rule s lf : Int) (cs : List Int) : evalFT ERow Try.f50 (nRw (ps, rule, s, lf, cs)) = bif decide (W (W (16 * cs.length) + 1) = W (W (16 * cs.length) + 1)) && (decide (0 ≤ W (W (16 * cs.length) + 1)) && decide (W (W (16 * cs.length) + 1) ≤ 1048576)) then
    treeRw ps rule s lf cs (List.replicate (W (W (16 * cs.length) + 1)).toNat 0) else none := by kernel_rfl
theorem mRw : Meets Try.prog 50 (gate pRw sRw) := mGT (rdL (e := ERow) rfl (eg_cons mEd (eg_cons mRc eg_nil)) (fn := Try.f50) (k := 5) (by kernel_rfl) (by kernel_rfl) (of_decide_eq_true (by kernel_rfl)) (show loopsOf Try.f50 = [(0, loopAt Try.f50 0), (2, loopAt Try.f50 1)] by kernel_rfl)
    (fun p hp => by rcases List.mem_cons.mp hp with rfl | hp; exact loop105a; cases List.mem_singleton.mp hp; exact loop105b)) (fun _ _ => hRw) (fun _ => Nat.le_refl _)
  (fun ⟨ps, rule, s, lf, cs⟩ hp => by
    simp only [okRw, Bool.and_eq_true, decide_eq_true_eq] at hp
    obtain ⟨⟨⟨⟨h1, h2⟩, h3⟩, h4⟩, h5⟩ := hp
    refine (tRw ps rule s lf cs).trans ?_
    rw [W_small (n := 16 * (cs.length : Int)) (by omega) (by omega), W_small (n := 16 * (cs.length : Int) + 1) (by omega) (by omega), decide_eq_true rfl, decide_eq_true (by omega : 0 ≤ 16 * (cs.length : Int) + 1), decide_eq_true (by omega : 16 * (cs.length : Int) + 1 ≤ 1048576), show (16 * (cs.length : Int) + 1).toNat = 16 * cs.length + 1 by omega]
    show treeRw ps rule s lf cs (List.replicate (16 * cs.length + 1) 0) = some (oRw (ps, rule, s, lf, cs))
    unfold treeRw
    rw [decide_eq_true ⟨rfl, rfl, h1⟩, h2, h3, decide_eq_true h4, List.length_replicate, decide_eq_true rfl, h5, W_small (n := 16 * (cs.length : Int)) (by omega) (by omega), foldPs_len, List.length_replicate, decide_eq_true ⟨rfl, rfl, rfl⟩, decide_eq_true rfl]
    rfl)
  (fun ⟨ps, rule, s, lf, cs⟩ hp i x ys hi hx => by
    match i, hi with
    | 0, hi => cases hi; cases hx
    | 1, hi => cases hi; cases hx
    | 2, hi => cases hi; cases hx
    | 3, hi => cases hi; cases hx
    | 4, hi => cases hi; cases hx; exact ⟨by decide, _, rfl, rowC_len _ _ _ _ _⟩
    | i + 5, hi => simp at hi)
end Go.Proofs.Ytbgfgadekmemeaa.Ev

