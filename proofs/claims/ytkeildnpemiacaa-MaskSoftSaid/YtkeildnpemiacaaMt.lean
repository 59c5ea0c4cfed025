/- Soft edges, the program's own. Conditions: none. Printed by gen.py of this session. -/
import Derived.Test.YtkeildnpemiacaaMr
namespace Go.Proofs.Ytkeildnpemiacaa.Ev
open Go.Proofs
set_option linter.unusedVariables false
set_option linter.unusedSimpArgs false
set_option maxRecDepth 100000
set_option maxHeartbeats 1000000

/-! ### Binomials -/
def binL (n : Int) : List Int := if n = 0 then [1] else if n = 2 then [1, 2, 1] else if n = 4 then [1, 4, 6, 4, 1] else if n = 6 then [1, 6, 15, 20, 15, 6, 1] else if n = 8 then [1, 8, 28, 56, 70, 56, 28, 8, 1] else
  if n = 10 then [1, 10, 45, 120, 210, 252, 210, 120, 45, 10, 1] else if n = 12 then [1, 12, 66, 220, 495, 792, 924, 792, 495, 220, 66, 12, 1] else [1, 14, 91, 364, 1001, 2002, 3003, 3432, 3003, 2002, 1001, 364, 91, 14, 1]
abbrev E69 (fn : Func) : Env := runE (ownE T [] fn) fn 40 2
theorem t69_0 : evalF (E69 Try.f69) Try.f69 [iv 0] = some (isv (binL 0), []) := by kernel_rfl
theorem t69_2 : evalF (E69 Try.f69) Try.f69 [iv 2] = some (isv (binL 2), []) := by kernel_rfl
theorem t69_4 : evalF (E69 Try.f69) Try.f69 [iv 4] = some (isv (binL 4), []) := by kernel_rfl
theorem t69_6 : evalF (E69 Try.f69) Try.f69 [iv 6] = some (isv (binL 6), []) := by kernel_rfl
theorem t69_8 : evalF (E69 Try.f69) Try.f69 [iv 8] = some (isv (binL 8), []) := by kernel_rfl
theorem t69_10 : evalF (E69 Try.f69) Try.f69 [iv 10] = some (isv (binL 10), []) := by kernel_rfl
theorem t69_12 : evalF (E69 Try.f69) Try.f69 [iv 12] = some (isv (binL 12), []) := by kernel_rfl
theorem t69_14 : evalF (E69 Try.f69) Try.f69 [iv 14] = some (isv (binL 14), []) := by kernel_rfl
def even14 (n : Int) : Bool := decide (0 ≤ n ∧ n ≤ 14 ∧ n % 2 = 0)
theorem m69 : Meets Try.prog 69 (gate (ps dI even14) (sp dI fun n => isv (binL n))) := mG (e := E69 Try.f69) (n := 69) (fn := Try.f69) (k := 1) ⟨hT, specs_nil, by kernel_rfl, by kernel_rfl, of_decide_eq_true (by kernel_rfl), fun p hp => by
    have := loopOk_run (ownE T [] Try.f69) (loopsOf Try.f69) 40 2 p.1
    rw [look_of _ (of_decide_eq_true (by kernel_rfl)) p hp] at this
    exact this⟩ (fun _ _ => hI) (fun _ => ⟨rfl, Nat.le_refl _⟩)
  fun n hp => by
    have hp := of_decide_eq_true hp
    rcases (show n = 0 ∨ n = 2 ∨ n = 4 ∨ n = 6 ∨ n = 8 ∨ n = 10 ∨ n = 12 ∨ n = 14 by omega) with h | h | h | h | h | h | h | h <;> subst h
    · exact t69_0
    · exact t69_2
    · exact t69_4
    · exact t69_6
    · exact t69_8
    · exact t69_10
    · exact t69_12
    · exact t69_14
/-! ### Clamp -/
theorem t71 (a b c : Int) : evalF (EG []) Try.f71 [iv a, iv b, iv c] = oi (mn c (mx a b)) := by kernel_rfl
abbrev sCl : Spec := sp dIII fun a => iv (mn a.2.2 (mx a.1 a.2.1))
theorem m71 : Meets Try.prog 71 (gate (pT dIII) sCl) := mG (rdE eg_nil (fn := Try.f71) (k := 3) (by kernel_rfl) (by kernel_rfl) (of_decide_eq_true (by kernel_rfl)) (by kernel_rfl)) (fun _ _ => hIII) (fun _ => ⟨rfl, Nat.le_refl _⟩)
  fun ⟨a, b, c⟩ _ => t71 a b c
/-! ### Weighted sums -/
def runS (l : List Int) (v : Int → Int) : Nat → Nat → Int → Int
  | 0, _, s => s
  | k + 1, i, s => runS l v k (i + 1) (W (s + W (l.getD i 0 * v i)))
def cX (m : Mk) (r x y : Int) (i : Int) : Int := getM m (mn (W (m.1 - 1)) (mx (W (W (x + i) - r)) 0)) y
def cY (m : Mk) (h r x y : Int) (i : Int) : Int := getM m x (mn (W (h - 1)) (mx (W (W (y + i) - r)) 0))
def gCl (st : St) (t : Nat) {R : Type} (K : List Int → Option R) : Option R := match getS st t with
  | .cbox 22 [.sl none (.ints l)] => K l
  | _ => none
@[reducible] def cL (l : List Int) : AV := .cbox 22 [.sl none (.ints l)]
theorem gCl_some {st : St} {t : Nat} {R : Type} {r : R} {K : List Int → Option R} (h : gCl st t K = some r) : ∃ n, getS st t = cL n ∧ K n = some r := by
  unfold gCl at h
  split at h
  · exact ⟨_, ‹_›, h⟩
  · cases h
def lp70 (st : St) (R : Type) (K : Ex → St → Option R) : Option R := req (decide (st.length = 36)) (gI st 0 fun x => gI st 1 fun y => gCm st 3 fun m => gCi st 4 fun r => gI st 8 fun s => gL st 11 fun l => gI st 12 fun k => gI st 13 fun i =>
  req (decide (i = 0) && decide (k = l.length) && decide (l.length ≤ 1000) && okSize m) (K (.exit 0) (mk 36 [(8, iv (runS l (cX m r x y) l.length 0 s))])))
def L70 : List Entry := [(71, pT dIII, sCl), (50, pG, sG)]
def E70 : Env := { EG L70 with lv := fun _ => [0, 1, 3, 4, 8, 11, 12, 13], lx := fun _ => [8], lp := fun _ => lp70 }
def st70 (x y : Int) (m : Mk) (r s : Int) (l : List Int) (k i : Int) : St := mk 36 [(0, iv x), (1, iv y), (3, cM m), (4, ci r), (8, iv s), (11, isv l), (12, iv k), (13, iv i)]
theorem b70 (x y : Int) (m : Mk) (r s : Int) (l : List Int) (k i : Int) : evalCode E70 (loopAt Try.f70 0) 0 (st70 x y m r s l k i) (kp E70 0) = bif decide (i < k) then bif decide (0 ≤ i) && decide (i < (l.length : Int)) then
    bif okSize m then some (.normal, st70 x y m r (W (s + W (l.getD i.toNat 0 * cX m r x y i))) l k (W (i + 1))) else none else none else some (.exit 0, mk 36 [(8, iv s)]) := by kernel_rfl
@[reducible] def nKx (a : Int × Int × List Int × Mk × Int) : List AV := [iv a.1, iv a.2.1, cL a.2.2.1, cM a.2.2.2.1, ci a.2.2.2.2]
def dKx : List AV → Option (Int × Int × List Int × Mk × Int)
  | [.rv (.sc (.int .i64 x)), .rv (.sc (.int .i64 y)), .cbox 22 [.sl none (.ints w)], .cbox 24 [.int .i64 a, .int .i64 b, .sl none (.ints l)], .cbox 3 [.int .i64 r]] => some (x, y, w, (a, b, l), r)
  | _ => none
theorem hKx {us : List AV} {a} (h : dKx us = some a) : us = nKx a := by unfold dKx at h; split at h <;> cases h; rfl
theorem t70 (x y : Int) (w : List Int) (a b : Int) (l : List Int) (r : Int) : evalF E70 Try.f70 (nKx (x, y, w, (a, b, l), r)) = bif decide ((0 : Int) = 0) && decide ((w.length : Int) = w.length) && decide (w.length ≤ 1000) && okSize (a, b, l) then oi (runS w (cX (a, b, l) r x y) w.length 0 0) else none := by kernel_rfl
theorem runs70 (x y : Int) (m : Mk) (r : Int) (l : List Int) (hl : l.length ≤ 1000) (ho : okSize m = true) : ∀ (k i : Nat) (s : Int), i + k = l.length →
    Runs E70 0 (loopAt Try.f70 0) (st70 x y m r s l l.length i) (.exit 0) (mk 36 [(8, iv (runS l (cX m r x y) k i s))]) := by
  intro k
  induction k with
  | zero =>
    intro i s hi
    refine .stop ?_ (by simp)
    rw [b70, decide_eq_false (by omega), runS]
    rfl
  | succ k ih =>
    intro i s hi
    have hbd := b70 x y m r s l l.length i
    rw [decide_eq_true (by omega : (i : Int) < l.length), decide_eq_true (by omega : (0 : Int) ≤ i), Int.toNat_natCast, ho, W_small (n := (i : Int) + 1) (by omega) (by omega)] at hbd
    exact .step hbd (ih (i + 1) _ (by omega))
theorem loop70 : LoopOk E70 0 (loopAt Try.f70 0) := by
  intro st R K z h
  obtain ⟨hn, h⟩ := req_some h
  obtain ⟨x, e0, h⟩ := gI_some h
  obtain ⟨y, e1, h⟩ := gI_some h
  obtain ⟨m, e2, h⟩ := gCm_some h
  obtain ⟨r, e3, h⟩ := gCi_some h
  obtain ⟨s, e4, h⟩ := gI_some h
  obtain ⟨l, e5, h⟩ := gL_some h
  obtain ⟨k, e6, h⟩ := gI_some h
  obtain ⟨i, e7, h⟩ := gI_some h
  obtain ⟨hc, h⟩ := req_some h
  simp only [Bool.and_eq_true, decide_eq_true_eq] at hc
  obtain ⟨⟨⟨h1, h2⟩, h3⟩, h4⟩ := hc
  rw [keep_mk (of_decide_eq_true hn)]
  have e := runs70 x y m r l h3 h4 l.length 0 s (by omega)
  have es : mk 36 ((E70.lv 0).map fun i => (i, getS (keep (E70.lv 0) st) i)) = st70 x y m r s l l.length (0 : Nat) := by
    show mk 36 [(0, getS (keep (E70.lv 0) st) 0), (1, getS (keep (E70.lv 0) st) 1), (3, getS (keep (E70.lv 0) st) 3), (4, getS (keep (E70.lv 0) st) 4), (8, getS (keep (E70.lv 0) st) 8), (11, getS (keep (E70.lv 0) st) 11), (12, getS (keep (E70.lv 0) st) 12), (13, getS (keep (E70.lv 0) st) 13)] = _
    rw [e0, e1, e2, e3, e4, e5, e6, e7, h1, h2]
    rfl
  rw [es]
  exact ⟨_, _, e, h⟩
abbrev pKx : List AV → Bool := ps dKx fun a => decide (a.2.2.1.length ≤ 1000) && okSize a.2.2.2.1
abbrev sKx : Spec := sp dKx fun a => iv (runS a.2.2.1 (cX a.2.2.2.1 a.2.2.2.2 a.1 a.2.1) a.2.2.1.length 0 0)
theorem m70 : Meets Try.prog 70 (gate pKx sKx) := mG (rdL (e := E70) rfl (eg_cons m71 (eg_cons m50 eg_nil)) (fn := Try.f70) (k := 5) (by kernel_rfl) (by kernel_rfl) (of_decide_eq_true (by kernel_rfl)) (show loopsOf Try.f70 = [(0, loopAt Try.f70 0)] by kernel_rfl) (fun p hp => by cases List.mem_singleton.mp hp; exact loop70)) (fun _ _ => hKx) (fun _ => ⟨rfl, Nat.le_refl _⟩)
  fun ⟨x, y, w, ⟨a, b, l⟩, r⟩ hp => by
    have hp : (decide (w.length ≤ 1000) && okSize (a, b, l)) = true := hp
    rw [Bool.and_eq_true] at hp
    refine (t70 x y w a b l r).trans ?_
    rw [hp.1, hp.2]
    simp only [decide_true, Bool.and_self, cond_true]
def lp72 (st : St) (R : Type) (K : Ex → St → Option R) : Option R := req (decide (st.length = 41)) (gI st 0 fun x => gI st 1 fun y => gCm st 3 fun q => gCi st 4 fun r => gCm st 5 fun m => gI st 9 fun s => gL st 12 fun l => gI st 13 fun k => gI st 14 fun i =>
  req (decide (i = 0) && decide (k = l.length) && decide (l.length ≤ 1000) && okSize q) (K (.exit 0) (mk 41 [(4, ci r), (9, iv (runS l (cY q m.2.1 r x y) l.length 0 s))])))
def L72 : List Entry := [(71, pT dIII, sCl), (50, pG, sG), (66, pD, sp dII fun a => iv (divP a.1 a.2))]
def E72 : Env := { EG L72 with lv := fun _ => [0, 1, 3, 4, 5, 9, 12, 13, 14], lx := fun _ => [4, 9], lp := fun _ => lp72 }
def st72 (x y : Int) (q : Mk) (r : Int) (m : Mk) (s : Int) (l : List Int) (k i : Int) : St := mk 41 [(0, iv x), (1, iv y), (3, cM q), (4, ci r), (5, cM m), (9, iv s), (12, isv l), (13, iv k), (14, iv i)]
theorem b72 (x y : Int) (q : Mk) (r : Int) (m : Mk) (s : Int) (l : List Int) (k i : Int) : evalCode E72 (loopAt Try.f72 0) 0 (st72 x y q r m s l k i) (kp E72 0) = bif decide (i < k) then bif decide (0 ≤ i) && decide (i < (l.length : Int)) then
    bif okSize q then some (.normal, st72 x y q r m (W (s + W (l.getD i.toNat 0 * cY q m.2.1 r x y i))) l k (W (i + 1))) else none else none else some (.exit 0, mk 41 [(4, ci r), (9, iv s)]) := by kernel_rfl
@[reducible] def nKy (a : Int × Int × List Int × Mk × Int × Mk) : List AV := [iv a.1, iv a.2.1, cL a.2.2.1, cM a.2.2.2.1, ci a.2.2.2.2.1, cM a.2.2.2.2.2]
def dKy : List AV → Option (Int × Int × List Int × Mk × Int × Mk)
  | [.rv (.sc (.int .i64 x)), .rv (.sc (.int .i64 y)), .cbox 22 [.sl none (.ints w)], .cbox 24 [.int .i64 a, .int .i64 b, .sl none (.ints l)], .cbox 3 [.int .i64 r], .cbox 24 [.int .i64 a', .int .i64 b', .sl none (.ints l')]] => some (x, y, w, (a, b, l), r, (a', b', l'))
  | _ => none
theorem hKy {us : List AV} {a} (h : dKy us = some a) : us = nKy a := by unfold dKy at h; split at h <;> cases h; rfl
def sh4 (r : Int) : Int := W (1 * 2 ^ (min (W (4 * r)).toNat 64))
def sumY (w : List Int) (q : Mk) (h r x y : Int) : Int := runS w (cY q h r x y) w.length 0 0
def okD (a b : Int) : Bool := decide (0 ≤ a ∧ a ≤ 4503599627370496 ∧ 1 ≤ b ∧ b ≤ 1099511627776)
theorem t72 (x y : Int) (w : List Int) (a b : Int) (l : List Int) (r a' b' : Int) (l' : List Int) : evalF E72 Try.f72 (nKy (x, y, w, (a, b, l), r, (a', b', l'))) = bif decide ((0 : Int) = 0) && decide ((w.length : Int) = w.length) && decide (w.length ≤ 1000) && okSize (a, b, l) then
    bif decide (W (4 * r) < 0) then none else bif okD (sumY w (a, b, l) b' r x y) (sh4 r) then oi (divP (sumY w (a, b, l) b' r x y) (sh4 r)) else none else none := by kernel_rfl
theorem runs72 (x y : Int) (q : Mk) (r : Int) (m : Mk) (l : List Int) (hl : l.length ≤ 1000) (ho : okSize q = true) : ∀ (k i : Nat) (s : Int), i + k = l.length →
    Runs E72 0 (loopAt Try.f72 0) (st72 x y q r m s l l.length i) (.exit 0) (mk 41 [(4, ci r), (9, iv (runS l (cY q m.2.1 r x y) k i s))]) := by
  intro k
  induction k with
  | zero =>
    intro i s hi
    refine .stop ?_ (by simp)
    rw [b72, decide_eq_false (by omega), runS]
    rfl
  | succ k ih =>
    intro i s hi
    have hbd := b72 x y q r m s l l.length i
    rw [decide_eq_true (by omega : (i : Int) < l.length), decide_eq_true (by omega : (0 : Int) ≤ i), Int.toNat_natCast, ho, W_small (n := (i : Int) + 1) (by omega) (by omega)] at hbd
    exact .step hbd (ih (i + 1) _ (by omega))
theorem loop72 : LoopOk E72 0 (loopAt Try.f72 0) := by
  intro st R K z h
  obtain ⟨hn, h⟩ := req_some h
  obtain ⟨x, e0, h⟩ := gI_some h
  obtain ⟨y, e1, h⟩ := gI_some h
  obtain ⟨q, e2, h⟩ := gCm_some h
  obtain ⟨r, e3, h⟩ := gCi_some h
  obtain ⟨m, e4, h⟩ := gCm_some h
  obtain ⟨s, e5, h⟩ := gI_some h
  obtain ⟨l, e6, h⟩ := gL_some h
  obtain ⟨k, e7, h⟩ := gI_some h
  obtain ⟨i, e8, h⟩ := gI_some h
  obtain ⟨hc, h⟩ := req_some h
  simp only [Bool.and_eq_true, decide_eq_true_eq] at hc
  obtain ⟨⟨⟨h1, h2⟩, h3⟩, h4⟩ := hc
  rw [keep_mk (of_decide_eq_true hn)]
  have e := runs72 x y q r m l h3 h4 l.length 0 s (by omega)
  have es : mk 41 ((E72.lv 0).map fun i => (i, getS (keep (E72.lv 0) st) i)) = st72 x y q r m s l l.length (0 : Nat) := by
    show mk 41 [(0, getS (keep (E72.lv 0) st) 0), (1, getS (keep (E72.lv 0) st) 1), (3, getS (keep (E72.lv 0) st) 3), (4, getS (keep (E72.lv 0) st) 4), (5, getS (keep (E72.lv 0) st) 5), (9, getS (keep (E72.lv 0) st) 9), (12, getS (keep (E72.lv 0) st) 12), (13, getS (keep (E72.lv 0) st) 13), (14, getS (keep (E72.lv 0) st) 14)] = _
    rw [e0, e1, e2, e3, e4, e5, e6, e7, e8, h1, h2]
    rfl
  rw [es]
  exact ⟨_, _, e, h⟩
def okKy (w : List Int) (q : Mk) (r h x y : Int) : Bool := decide (w.length ≤ 1000) && okSize q && decide (0 ≤ r ∧ r ≤ 7) && okD (sumY w q h r x y) (sh4 r)
abbrev pKy : List AV → Bool := ps dKy fun a => okKy a.2.2.1 a.2.2.2.1 a.2.2.2.2.1 a.2.2.2.2.2.2.1 a.1 a.2.1
abbrev sKy : Spec := sp dKy fun a => iv (divP (sumY a.2.2.1 a.2.2.2.1 a.2.2.2.2.2.2.1 a.2.2.2.2.1 a.1 a.2.1) (sh4 a.2.2.2.2.1))
theorem m72 : Meets Try.prog 72 (gate pKy sKy) := mG (rdL (e := E72) rfl (eg_cons m71 (eg_cons m50 (eg_cons m66 eg_nil))) (fn := Try.f72) (k := 6) (by kernel_rfl) (by kernel_rfl) (of_decide_eq_true (by kernel_rfl)) (show loopsOf Try.f72 = [(0, loopAt Try.f72 0)] by kernel_rfl) (fun p hp => by cases List.mem_singleton.mp hp; exact loop72)) (fun _ _ => hKy) (fun _ => ⟨rfl, Nat.le_refl _⟩)
  fun ⟨x, y, w, ⟨a, b, l⟩, r, ⟨a', b', l'⟩⟩ hp => by
    have hp : okKy w (a, b, l) r b' x y = true := hp
    simp only [okKy, Bool.and_eq_true] at hp
    obtain ⟨⟨⟨h1, h2⟩, h3⟩, h4⟩ := hp
    have h3 := of_decide_eq_true h3
    refine (t72 x y w a b l r a' b' l').trans ?_
    rw [h1, h2, h4, W_small (n := 4 * r) (by omega) (by omega), decide_eq_false (by omega : ¬ 4 * r < 0)]
    simp only [decide_true, Bool.and_self, cond_true, cond_false]
/-! ### Feather -/
def L32 (ck : Mk → Int) : List Entry := [(30, pT dM, sp dM fun m => iv (ck m)), (48, pF, sF), (69, ps dI even14, sp dI fun n => isv (binL n)), (70, pKx, sKx), (72, pKy, sKy)]
@[reducible] def F70 (ck : Mk → Int) (l : List Int) (m : Mk) (r : Int) : Fn2 := closure ((EG (L32 ck)).ctx #[]) 70 [cL l, cM m, ci r]
@[reducible] def F72 (ck : Mk → Int) (l : List Int) (q : Mk) (r : Int) (m : Mk) : Fn2 := closure ((EG (L32 ck)).ctx #[]) 72 [cL l, cM q, ci r, cM m]
def rowsF (ck : Mk → Int) (m : Mk) (r : Int) : Mk := (m.1, m.2.1, rowsG (fI (F70 ck (binL (W (2 * r))) m r)) m.1.toNat m.2.1.toNat 0)
theorem t32 (ck : Mk → Int) (a b : Int) (l : List Int) (r : Int) : evalF (EG (L32 ck)) Try.f32 [mk3 a b l, iv r] = bif ck (a, b, l) != 0 then omv (errM (ck (a, b, l))) else bif decide (r < 0) then omv (errM 2) else bif decide (r > 7) then omv (errM 2) else
    bif even14 (W (2 * r)) then bif decide (0 ≤ a ∧ a ≤ 256 ∧ b ≤ 256) && okRs (F70 ck (binL (W (2 * r))) (a, b, l) r) a.toNat b.toNat 0 then
      bif decide (0 ≤ a ∧ a ≤ 256 ∧ b ≤ 256) && okRs (F72 ck (binL (W (2 * r))) (rowsF ck (a, b, l) r) r (a, b, l)) a.toNat b.toNat 0 then omv ((a, b, rowsG (fI (F72 ck (binL (W (2 * r))) (rowsF ck (a, b, l) r) r (a, b, l))) a.toNat b.toNat 0), 0) else none else none else none := by kernel_rfl
end Go.Proofs.Ytkeildnpemiacaa.Ev

