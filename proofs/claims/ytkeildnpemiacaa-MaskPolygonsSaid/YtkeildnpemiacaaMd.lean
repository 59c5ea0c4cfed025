/- Reading a loop's kept slots; filling a mask, checking one, comparing two. Conditions: none. Printed by gen.py of this session. -/
import Derived.Test.YtkeildnpemiacaaMc
namespace Go.Proofs.Ytkeildnpemiacaa.Ev
open Go.Proofs
set_option linter.unusedVariables false
set_option linter.unusedSimpArgs false
set_option maxRecDepth 100000
set_option maxHeartbeats 1000000

def gI (st : St) (t : Nat) {R : Type} (K : Int → Option R) : Option R := match getS st t with
  | .rv (.sc (.int .i64 n)) => K n
  | _ => none
def gL (st : St) (t : Nat) {R : Type} (K : List Int → Option R) : Option R := match getS st t with
  | .rv (.sc (.sl none (.ints l))) => K l
  | _ => none
/-- A box of a mask: it may be appended to, or not. -/
def gB (st : St) (t : Nat) {R : Type} (K : Mk → Option R) : Option R := match getS st t with
  | .box 24 [.int .i64 a, .int .i64 b, .sl (some 3) (.ints l)] => K (a, b, l)
  | _ => none
def gM (st : St) (t : Nat) {R : Type} (K : Mk → Option R) : Option R := match getS st t with
  | .box 24 [.int .i64 a, .int .i64 b, .sl none (.ints l)] => K (a, b, l)
  | _ => none
def gQ (st : St) (t : Nat) {R : Type} (K : Q → Option R) : Option R := match getS st t with
  | .box 26 [.int .i64 a, .int .i64 b, .int .i64 c, .int .i64 d] => K (a, b, c, d)
  | _ => none
def gF (st : St) (t : Nat) {R : Type} (K : Fn2 → Option R) : Option R := match getS st t with
  | .rv (.sc (.fn F)) => K F
  | _ => none
def req (p : Bool) {R : Type} (x : Option R) : Option R := bif p then x else none
@[reducible] def bB (m : Mk) : AV := .box 24 [.int .i64 m.1, .int .i64 m.2.1, .sl (some 3) (.ints m.2.2)]
@[reducible] def bM (m : Mk) : AV := .box 24 [.int .i64 m.1, .int .i64 m.2.1, .sl none (.ints m.2.2)]
@[reducible] def bQ (r : Q) : AV := .box 26 [.int .i64 r.1, .int .i64 r.2.1, .int .i64 r.2.2.1, .int .i64 r.2.2.2]
section
variable {st : St} {t : Nat} {R : Type} {r : R}
theorem gI_some {K : Int → Option R} (h : gI st t K = some r) : ∃ n, getS st t = iv n ∧ K n = some r := by
  unfold gI at h
  split at h
  · exact ⟨_, ‹_›, h⟩
  · cases h
theorem gL_some {K : List Int → Option R} (h : gL st t K = some r) : ∃ n, getS st t = isv n ∧ K n = some r := by
  unfold gL at h
  split at h
  · exact ⟨_, ‹_›, h⟩
  · cases h
theorem gB_some {K : Mk → Option R} (h : gB st t K = some r) : ∃ n, getS st t = bB n ∧ K n = some r := by
  unfold gB at h
  split at h
  · exact ⟨(_, _, _), ‹_›, h⟩
  · cases h
theorem gM_some {K : Mk → Option R} (h : gM st t K = some r) : ∃ n, getS st t = bM n ∧ K n = some r := by
  unfold gM at h
  split at h
  · exact ⟨(_, _, _), ‹_›, h⟩
  · cases h
theorem gQ_some {K : Q → Option R} (h : gQ st t K = some r) : ∃ n, getS st t = bQ n ∧ K n = some r := by
  unfold gQ at h
  split at h
  · exact ⟨(_, _, _, _), ‹_›, h⟩
  · cases h
theorem gF_some {K : Fn2 → Option R} (h : gF st t K = some r) : ∃ n, getS st t = fv n ∧ K n = some r := by
  unfold gF at h
  split at h
  · exact ⟨_, ‹_›, h⟩
  · cases h
theorem req_some {p : Bool} {x : Option R} (h : req p x = some r) : p = true ∧ x = some r := by
  unfold req at h
  cases p
  · cases h
  · exact ⟨rfl, h⟩
theorem puts_self (s : St) : ∀ (l : List Nat) (base : St), base.length = s.length → (∀ i, i ∈ l ∨ base[i]? = s[i]?) → puts base (l.map fun i => (i, getS s i)) = s := by
  intro l
  induction l with
  | nil =>
    intro base hl h
    exact List.ext_getElem? fun i => (h i).resolve_left (by simp)
  | cons k l ih =>
    intro base hl h
    show puts (base.set k (getS s k)) _ = s
    refine ih _ (by rw [List.length_set, hl]) fun i => ?_
    by_cases hik : i = k
    · subst hik
      refine .inr ?_
      by_cases hlt : i < base.length
      · rw [List.getElem?_set_self hlt]
        unfold getS
        rw [List.getD_eq_getElem?_getD, List.getElem?_eq_getElem (by omega)]
        rfl
      · rw [List.getElem?_eq_none (by rw [List.length_set]; omega), List.getElem?_eq_none (by omega)]
    · rw [List.getElem?_set_ne (fun hh => hik hh.symm)]
      exact (h i).imp_left fun hh => (List.mem_cons.mp hh).resolve_left hik
theorem keep_mk {lv : List Nat} {n : Nat} (h : (keep lv st).length = n) : keep lv st = mk n (lv.map fun i => (i, getS (keep lv st) i)) := by
  refine (puts_self (keep lv st) lv _ ?_ fun i => ?_).symm
  · rw [List.length_replicate, h]
  · by_cases hi : i ∈ lv
    · exact .inl hi
    · refine .inr ?_
      by_cases hlt : i < n
      · rw [List.getElem?_replicate, if_pos hlt]
        unfold keep at h ⊢
        rw [List.length_mapIdx] at h
        rw [List.getElem?_mapIdx, List.getElem?_eq_getElem (by omega)]
        simp only [Option.map_some, List.contains_eq_mem]
        rw [decide_eq_false hi]
        rfl
      · rw [List.getElem?_eq_none (by rw [List.length_replicate]; omega), List.getElem?_eq_none (by omega)]
end
/-! ### fill -/
def fI (F : Fn2) (x y : Int) : Int := valInt (F [.int .i64 x, .int .i64 y])
def okR (F : Fn2) (y : Int) : Nat → Int → Bool
  | 0, _ => true
  | k + 1, x => okInt .i64 (F [.int .i64 x, .int .i64 y]) && okR F y k (x + 1)
def okRs (F : Fn2) (w : Nat) : Nat → Int → Bool
  | 0, _ => true
  | k + 1, y => okR F y w 0 && okRs F w k (y + 1)
def lp48o (st : St) (R : Type) (K : Ex → St → Option R) : Option R := req (decide (st.length = 33)) (gI st 0 fun w => gF st 2 fun F => gB st 6 fun z => gB st 7 fun m => gI st 13 fun h => gI st 14 fun y =>
  req (decide (y = 0) && decide (m.2.2.length = 0) && decide (0 ≤ w) && decide (w ≤ 256) && decide (h ≤ 256) && okRs F w.toNat h.toNat 0) (K (.exit 0) (mk 33 [(6, bB z), (7, bB (m.1, m.2.1, rowsG (fI F) w.toNat h.toNat 0))])))
def lp48i (st : St) (R : Type) (K : Ex → St → Option R) : Option R := req (decide (st.length = 33)) (gI st 0 fun w => gF st 2 fun F => gB st 6 fun z => gB st 7 fun m => gI st 8 fun y => gI st 13 fun h => gI st 14 fun y' => gI st 17 fun w' => gI st 18 fun x =>
  req (decide (x = 0) && decide (m.2.2.length ≤ 65536) && decide (w' ≤ 256) && okR F y w'.toNat 0) (K (.exit 2) (mk 33 [(0, iv w), (2, fv F), (6, bB z), (7, bB (m.1, m.2.1, m.2.2 ++ rowG (fI F) y w'.toNat 0)), (13, iv h), (14, iv y')])))
def E48 : Env := { EG [] with lv := fun id => match id with | 0 => [0, 2, 6, 7, 13, 14] | _ => [0, 2, 6, 7, 8, 13, 14, 17, 18], lx := fun id => match id with | 0 => [6, 7] | _ => [0, 2, 6, 7, 13, 14], lp := fun id => match id with | 0 => lp48o | _ => lp48i }
def st48o (w : Int) (F : Fn2) (z m : Mk) (h y : Int) : St := mk 33 [(0, iv w), (2, fv F), (6, bB z), (7, bB m), (13, iv h), (14, iv y)]
def st48i (w : Int) (F : Fn2) (z m : Mk) (y h y' w' x : Int) : St := mk 33 [(0, iv w), (2, fv F), (6, bB z), (7, bB m), (8, iv y), (13, iv h), (14, iv y'), (17, iv w'), (18, iv x)]
theorem b48i (w : Int) (F : Fn2) (z m : Mk) (y h y' w' x : Int) : evalCode E48 (loopAt Try.f48 1) 2 (st48i w F z m y h y' w' x) (kp E48 2) = bif decide (x < w') then bif okInt .i64 (F [.int .i64 x, .int .i64 y]) then
    bif decide (0 < [fI F x y].length) && decide ((m.2.2 ++ [fI F x y]).length * 8 ≤ 140737488355328) then some (.normal, st48i w F z (m.1, m.2.1, m.2.2 ++ [fI F x y]) y h y' w' (W (x + 1))) else none else none
    else some (.exit 2, mk 33 [(0, iv w), (2, fv F), (6, bB z), (7, bB m), (13, iv h), (14, iv y')]) := by kernel_rfl
theorem b48o (w : Int) (F : Fn2) (z m : Mk) (h y : Int) : evalCode E48 (loopAt Try.f48 0) 0 (st48o w F z m h y) (kp E48 0) = bif decide (y < h) then
    bif decide ((0 : Int) = 0) && decide (m.2.2.length ≤ 65536) && decide (w ≤ 256) && okR F y w.toNat 0 then some (.normal, st48o w F z (m.1, m.2.1, m.2.2 ++ rowG (fI F) y w.toNat 0) h (W (y + 1))) else none
    else some (.exit 0, mk 33 [(6, bB z), (7, bB m)]) := by kernel_rfl
theorem t48 (w h : Int) (F : Fn2) : evalF E48 Try.f48 [iv w, iv h, fv F] = bif decide ((0 : Int) = 0) && decide ([].length (α := Int) = 0) && decide (0 ≤ w) && decide (w ≤ 256) && decide (h ≤ 256) && okRs F w.toNat h.toNat 0 then
    some (mv (w, h, rowsG (fI F) w.toNat h.toNat 0), []) else none := by kernel_rfl
theorem rowG_len (g : Int → Int → Int) (y : Int) : ∀ (k : Nat) (x : Int), (rowG g y k x).length = k
  | 0, _ => rfl
  | k + 1, x => by rw [rowG, List.length_cons, rowG_len g y k]
theorem rowsG_len (g : Int → Int → Int) (w : Nat) : ∀ (k : Nat) (y : Int), (rowsG g w k y).length = w * k
  | 0, _ => rfl
  | k + 1, y => by rw [rowsG, List.length_append, rowG_len, rowsG_len g w k, Nat.mul_succ, Nat.add_comm]
theorem runs48i (w : Int) (F : Fn2) (z : Mk) (a b : Int) (y h y' w' : Int) (hw : w' ≤ 256) : ∀ (k : Nat) (x : Int) (l : List Int), x + k = w' ∨ (k = 0 ∧ w' ≤ x) → 0 ≤ x → l.length + k ≤ 131072 → okR F y k x = true →
    Runs E48 2 (loopAt Try.f48 1) (st48i w F z (a, b, l) y h y' w' x) (.exit 2) (mk 33 [(0, iv w), (2, fv F), (6, bB z), (7, bB (a, b, l ++ rowG (fI F) y k x)), (13, iv h), (14, iv y')]) := by
  intro k
  induction k with
  | zero =>
    intro x l hx _ _ _
    refine .stop ?_ (by simp)
    rw [b48i, decide_eq_false (by omega), rowG, List.append_nil]
    rfl
  | succ k ih =>
    intro x l hx h0 hl ho
    simp only [okR, Bool.and_eq_true] at ho
    have hbd := b48i w F z (a, b, l) y h y' w' x
    have hlen : (l ++ [fI F x y]).length * 8 ≤ 140737488355328 := by rw [List.length_append, List.length_singleton]; omega
    rw [decide_eq_true (by omega : x < w'), ho.1, decide_eq_true hlen, W_small (n := x + 1) (by omega) (by omega)] at hbd
    have := ih (x + 1) (l ++ [fI F x y]) (by omega) (by omega) (by rw [List.length_append, List.length_singleton]; omega) ho.2
    rw [List.append_assoc] at this
    exact .step hbd this
theorem runs48o (w : Int) (F : Fn2) (z : Mk) (a b h : Int) (hw0 : 0 ≤ w) (hw : w ≤ 256) (hh : h ≤ 256) : ∀ (k : Nat) (y : Int) (l : List Int), y + k = h ∨ (k = 0 ∧ h ≤ y) → 0 ≤ y → l.length + 256 * k ≤ 65536 → okRs F w.toNat k y = true →
    Runs E48 0 (loopAt Try.f48 0) (st48o w F z (a, b, l) h y) (.exit 0) (mk 33 [(6, bB z), (7, bB (a, b, l ++ rowsG (fI F) w.toNat k y))]) := by
  intro k
  induction k with
  | zero =>
    intro y l hx _ _ _
    refine .stop ?_ (by simp)
    rw [b48o, decide_eq_false (by omega), rowsG, List.append_nil]
    rfl
  | succ k ih =>
    intro y l hx h0 hl ho
    simp only [okRs, Bool.and_eq_true] at ho
    have hbd := b48o w F z (a, b, l) h y
    rw [decide_eq_true (by omega : y < h), decide_eq_true (by simp only; omega : (a, b, l).2.2.length ≤ 65536), decide_eq_true hw, ho.1, W_small (n := y + 1) (by omega) (by omega)] at hbd
    have hl2 : (rowG (fI F) y w.toNat 0).length ≤ 256 := by rw [rowG_len]; omega
    have := ih (y + 1) (l ++ rowG (fI F) y w.toNat 0) (by omega) (by omega) (by rw [List.length_append]; omega) ho.2
    rw [List.append_assoc] at this
    exact .step hbd this
theorem loop48i : LoopOk E48 2 (loopAt Try.f48 1) := by
  intro st R K z h
  obtain ⟨hn, h⟩ := req_some h
  obtain ⟨w, e0, h⟩ := gI_some h
  obtain ⟨F, e1, h⟩ := gF_some h
  obtain ⟨z0, e2, h⟩ := gB_some h
  obtain ⟨m, e3, h⟩ := gB_some h
  obtain ⟨y, e4, h⟩ := gI_some h
  obtain ⟨hh, e5, h⟩ := gI_some h
  obtain ⟨y', e6, h⟩ := gI_some h
  obtain ⟨w', e7, h⟩ := gI_some h
  obtain ⟨x, e8, h⟩ := gI_some h
  obtain ⟨hc, h⟩ := req_some h
  simp only [Bool.and_eq_true, decide_eq_true_eq] at hc
  obtain ⟨⟨⟨h1, h2⟩, h3⟩, h4⟩ := hc
  rw [keep_mk (of_decide_eq_true hn)]
  have e := runs48i w F z0 m.1 m.2.1 y hh y' w' h3 w'.toNat 0 m.2.2 (by omega) (Int.le_refl _) (by omega) h4
  have es : mk 33 ((E48.lv 2).map fun i => (i, getS (keep (E48.lv 2) st) i)) = st48i w F z0 (m.1, m.2.1, m.2.2) y hh y' w' 0 := by
    show mk 33 [(0, getS (keep (E48.lv 2) st) 0), (2, getS (keep (E48.lv 2) st) 2), (6, getS (keep (E48.lv 2) st) 6), (7, getS (keep (E48.lv 2) st) 7), (8, getS (keep (E48.lv 2) st) 8), (13, getS (keep (E48.lv 2) st) 13), (14, getS (keep (E48.lv 2) st) 14), (17, getS (keep (E48.lv 2) st) 17), (18, getS (keep (E48.lv 2) st) 18)] = _
    rw [e0, e1, e2, e3, e4, e5, e6, e7, e8, h1]
    rfl
  rw [es]
  exact ⟨_, _, e, h⟩
theorem loop48o : LoopOk E48 0 (loopAt Try.f48 0) := by
  intro st R K z h
  obtain ⟨hn, h⟩ := req_some h
  obtain ⟨w, e0, h⟩ := gI_some h
  obtain ⟨F, e1, h⟩ := gF_some h
  obtain ⟨z0, e2, h⟩ := gB_some h
  obtain ⟨m, e3, h⟩ := gB_some h
  obtain ⟨hh, e4, h⟩ := gI_some h
  obtain ⟨y, e5, h⟩ := gI_some h
  obtain ⟨hc, h⟩ := req_some h
  simp only [Bool.and_eq_true, decide_eq_true_eq] at hc
  obtain ⟨⟨⟨⟨⟨h1, h2⟩, h3⟩, h4⟩, h5⟩, h6⟩ := hc
  rw [keep_mk (of_decide_eq_true hn)]
  have e := runs48o w F z0 m.1 m.2.1 hh h3 h4 h5 hh.toNat 0 [] (by omega) (Int.le_refl _) (by rw [List.length_nil]; omega) h6
  have es : mk 33 ((E48.lv 0).map fun i => (i, getS (keep (E48.lv 0) st) i)) = st48o w F z0 (m.1, m.2.1, []) hh 0 := by
    show mk 33 [(0, getS (keep (E48.lv 0) st) 0), (2, getS (keep (E48.lv 0) st) 2), (6, getS (keep (E48.lv 0) st) 6), (7, getS (keep (E48.lv 0) st) 7), (13, getS (keep (E48.lv 0) st) 13), (14, getS (keep (E48.lv 0) st) 14)] = _
    rw [e0, e1, e2, e3, e4, e5, h1, ← List.length_eq_zero_iff.mp h2]
    rfl
  rw [es]
  exact ⟨_, _, e, h⟩
abbrev pF : List AV → Bool := ps dIIF fun a => decide (0 ≤ a.1 ∧ a.1 ≤ 256 ∧ a.2.1 ≤ 256) && okRs a.2.2 a.1.toNat a.2.1.toNat 0
abbrev sF : Spec := sp dIIF fun a => mv (a.1, a.2.1, rowsG (fI a.2.2) a.1.toNat a.2.1.toNat 0)
theorem loops48 : loopsOf Try.f48 = [(0, loopAt Try.f48 0), (2, loopAt Try.f48 1)] := by kernel_rfl
theorem m48 : Meets Try.prog 48 (gate pF sF) := mG (rdL (e := E48) rfl eg_nil (fn := Try.f48) (k := 3) (by kernel_rfl) (by kernel_rfl) (of_decide_eq_true (by kernel_rfl)) loops48 (fun p hp => by
  rcases List.mem_cons.mp hp with h | h
  · cases h; exact loop48o
  · cases List.mem_singleton.mp h; exact loop48i)) (fun _ _ => hIIF) (fun _ => ⟨rfl, Nat.le_refl _⟩)
  fun ⟨w, h, F⟩ hp => by
    simp only [Bool.and_eq_true, decide_eq_true_eq] at hp
    refine (t48 w h F).trans ?_
    rw [decide_eq_true hp.1.1, decide_eq_true hp.1.2.1, decide_eq_true hp.1.2.2, hp.2]
    rfl
/-! ### Check -/
def lp30 (st : St) (R : Type) (K : Ex → St → Option R) : Option R := req (decide (st.length = 57)) (gL st 44 fun l => gI st 45 fun k => gI st 46 fun i =>
  req (decide (i = 0) && decide (k = l.length) && decide (l.length ≤ 65536)) (bif allU l then K (.exit 0) (mk 57 []) else K .ret (mk 57 [(2, iv 2)])))
def E30 : Env := { EG [] with lv := fun _ => [44, 45, 46], lx := fun _ => [2], lp := fun _ => lp30 }
def st30 (l : List Int) (k i : Int) : St := mk 57 [(44, isv l), (45, iv k), (46, iv i)]
theorem b30 (l : List Int) (k i : Int) : evalCode E30 (loopAt Try.f30 0) 0 (st30 l k i) (kp E30 0) = bif decide (i < k) then bif decide (0 ≤ i) && decide (i < (l.length : Int)) then
    bif decide (l.getD i.toNat 0 < 0) then some (.ret, mk 57 [(2, iv 2)]) else bif decide (l.getD i.toNat 0 > 65535) then some (.ret, mk 57 [(2, iv 2)]) else some (.normal, st30 l k (W (i + 1))) else none
    else some (.exit 0, mk 57 []) := by kernel_rfl
def treeC (w h : Int) (l : List Int) : Option (AV × List AV) :=
  bif decide (w < 0) then oi 15 else bif decide (w > 256) then oi 15 else bif decide (h < 0) then oi 15 else bif decide (h > 256) then oi 15 else bif (w == 0) != (h == 0) then oi 15 else bif (l.length : Int) != W (w * h) then oi 15 else
    bif decide ((0 : Int) = 0) && decide ((l.length : Int) = l.length) && decide (l.length ≤ 65536) then bif allU l then oi 0 else oi 2 else none
theorem t30 (w h : Int) (l : List Int) : evalF E30 Try.f30 [mk3 w h l] = treeC w h l := by kernel_rfl
theorem treeC_eq (w h : Int) (l : List Int) : treeC w h l = oi (checkM (w, h, l)) := by
  unfold treeC checkM
  have hk := okSize_iff w h l
  simp only
  by_cases h1 : w < 0
  · rw [decide_eq_true h1, if_neg (by rw [hk]; omega)]; rfl
  by_cases h2 : w > 256
  · rw [decide_eq_false h1, decide_eq_true h2, if_neg (by rw [hk]; omega)]; rfl
  by_cases h3 : h < 0
  · rw [decide_eq_false h1, decide_eq_false h2, decide_eq_true h3, if_neg (by rw [hk]; omega)]; rfl
  by_cases h4 : h > 256
  · rw [decide_eq_false h1, decide_eq_false h2, decide_eq_false h3, decide_eq_true h4, if_neg (by rw [hk]; omega)]; rfl
  have hm0 : 0 ≤ w * h := Int.mul_nonneg (by omega) (by omega)
  have hm : w * h ≤ 256 * 256 := Int.mul_le_mul (by omega) (by omega) (by omega) (by omega)
  rw [decide_eq_false h1, decide_eq_false h2, decide_eq_false h3, decide_eq_false h4, W_small (n := w * h) (by omega) (by omega)]
  by_cases h5 : (w = 0 ↔ h = 0)
  · have e5 : ((w == 0) != (h == 0)) = false := by
      rw [bne_eq_false_iff_eq, Bool.eq_iff_iff]; simpa using h5
    rw [e5]
    by_cases h6 : (l.length : Int) = w * h
    · have e6 : ((l.length : Int) != w * h) = false := by rw [bne_eq_false_iff_eq]; exact h6
      rw [e6, if_pos ⟨hk.mpr (by omega), h5⟩, decide_eq_true (by omega : l.length ≤ 65536)]
      simp only [decide_true, Bool.and_self, cond_true, cond_false]
      cases allU l <;> rfl
    · have e6 : ((l.length : Int) != w * h) = true := by rw [bne_iff_ne]; exact h6
      rw [e6, if_neg (by rw [hk]; omega)]; rfl
  · have e5 : ((w == 0) != (h == 0)) = true := by
      rw [bne_iff_ne, ne_eq, Bool.eq_iff_iff]; simpa using h5
    rw [e5, if_neg (fun hh => h5 hh.2)]; rfl
theorem getD_at {l : List Int} {i : Nat} (h : i < l.length) : l.getD i 0 = l[i] := by rw [List.getD_eq_getElem?_getD, List.getElem?_eq_getElem h]; rfl
theorem runs30 (l : List Int) (hl : l.length ≤ 65536) : ∀ (k i : Nat), i + k = l.length →
    (allU (l.drop i) = true → Runs E30 0 (loopAt Try.f30 0) (st30 l l.length i) (.exit 0) (mk 57 [])) ∧ (allU (l.drop i) = false → Runs E30 0 (loopAt Try.f30 0) (st30 l l.length i) .ret (mk 57 [(2, iv 2)])) := by
  intro k
  induction k with
  | zero =>
    intro i hi
    rw [List.drop_eq_nil_of_le (by omega)]
    refine ⟨fun _ => .stop ?_ (by simp), fun h => nomatch h⟩
    rw [b30, decide_eq_false (by omega)]
    rfl
  | succ k ih =>
    intro i hi
    have h1 : i < l.length := by omega
    rw [List.drop_eq_getElem_cons h1]
    have hbd := b30 l l.length i
    rw [decide_eq_true (by omega : (i : Int) < l.length), decide_eq_true (by omega : (0 : Int) ≤ i), Int.toNat_natCast, getD_at h1, W_small (n := (i : Int) + 1) (by omega) (by omega)] at hbd
    simp only [allU]
    by_cases c1 : l[i] < 0
    · rw [decide_eq_true c1] at hbd
      rw [decide_eq_false (by omega)]
      exact ⟨fun h => (nomatch h), fun _ => .stop hbd (by simp)⟩
    by_cases c2 : l[i] > 65535
    · rw [decide_eq_false c1, decide_eq_true c2] at hbd
      rw [decide_eq_false (by omega)]
      exact ⟨fun h => (nomatch h), fun _ => .stop hbd (by simp)⟩
    rw [decide_eq_false c1, decide_eq_false c2] at hbd
    rw [decide_eq_true (by omega), Bool.true_and]
    exact ⟨fun h => .step hbd ((ih (i + 1) (by omega)).1 h), fun h => .step hbd ((ih (i + 1) (by omega)).2 h)⟩
theorem loop30 : LoopOk E30 0 (loopAt Try.f30 0) := by
  intro st R K z h
  obtain ⟨hn, h⟩ := req_some h
  obtain ⟨l, e0, h⟩ := gL_some h
  obtain ⟨k, e1, h⟩ := gI_some h
  obtain ⟨i, e2, h⟩ := gI_some h
  obtain ⟨hc, h⟩ := req_some h
  simp only [Bool.and_eq_true, decide_eq_true_eq] at hc
  obtain ⟨⟨h1, h2⟩, h3⟩ := hc
  rw [keep_mk (of_decide_eq_true hn)]
  have e := runs30 l h3 l.length 0 (by omega)
  have es : mk 57 ((E30.lv 0).map fun i => (i, getS (keep (E30.lv 0) st) i)) = st30 l l.length (0 : Nat) := by
    show mk 57 [(44, getS (keep (E30.lv 0) st) 44), (45, getS (keep (E30.lv 0) st) 45), (46, getS (keep (E30.lv 0) st) 46)] = _
    rw [e0, e1, e2, h1, h2]
    rfl
  rw [es]
  rw [List.drop_zero] at e
  cases ha : allU l
  · rw [ha] at h; exact ⟨_, _, e.2 ha, h⟩
  · rw [ha] at h; exact ⟨_, _, e.1 ha, h⟩
theorem m30 : Meets Try.prog 30 (gate (pT dM) (sp dM fun m => iv (checkM m))) := mG (rdL (e := E30) rfl eg_nil (fn := Try.f30) (k := 1) (by kernel_rfl) (by kernel_rfl) (of_decide_eq_true (by kernel_rfl)) (show loopsOf Try.f30 = [(0, loopAt Try.f30 0)] by kernel_rfl) (fun p hp => by cases List.mem_singleton.mp hp; exact loop30)) (fun _ _ => hhM) (fun _ => ⟨rfl, Nat.le_refl _⟩)
  fun ⟨w, h, l⟩ _ => (t30 w h l).trans (treeC_eq w h l)
def lp31 (st : St) (R : Type) (K : Ex → St → Option R) : Option R := req (decide (st.length = 61)) (gM st 1 fun m => gI st 3 fun i =>
  req (decide (i = 0) && decide (m.2.2.length ≤ 65536)) (bif allU m.2.2 then K (.exit 0) (mk 61 []) else K .ret (mk 61 [(2, iv 2)])))
def E31 : Env := { EG [] with lv := fun _ => [1, 3], lx := fun _ => [2], lp := fun _ => lp31 }
def st31 (m : Mk) (i : Int) : St := mk 61 [(1, bM m), (3, iv i)]
theorem b31 (m : Mk) (i : Int) : evalCode E31 (loopAt Try.f31 0) 0 (st31 m i) (kp E31 0) = bif decide (i < (m.2.2.length : Int)) then bif decide (0 ≤ i) && decide (i < (m.2.2.length : Int)) then
    bif decide (m.2.2.getD i.toNat 0 < 0) then some (.ret, mk 61 [(2, iv 2)]) else bif decide (0 ≤ i) && decide (i < (m.2.2.length : Int)) then bif decide (m.2.2.getD i.toNat 0 > 65535) then some (.ret, mk 61 [(2, iv 2)]) else some (.normal, st31 m (W (i + 1))) else none else none
    else some (.exit 0, mk 61 []) := by kernel_rfl
theorem t31 (w h : Int) (l : List Int) : evalF E31 Try.f31 [mk3 w h l] = bif decide (w < 0) then oi 15 else bif decide (w > 256) then oi 15 else bif decide (h < 0) then oi 15 else bif decide (h > 256) then oi 15 else bif (w == 0) != (h == 0) then oi 15 else bif (l.length : Int) != W (w * h) then oi 15 else
    bif decide ((0 : Int) = 0) && decide (l.length ≤ 65536) then bif allU l then oi 0 else oi 2 else none := by kernel_rfl
theorem e31 (w h : Int) (l : List Int) : evalF E31 Try.f31 [mk3 w h l] = oi (checkM (w, h, l)) := by
  rw [t31, ← treeC_eq]
  unfold treeC
  rw [decide_eq_true (rfl : (l.length : Int) = l.length), Bool.and_true]
theorem runs31 (a b : Int) (l : List Int) (hl : l.length ≤ 65536) : ∀ (k i : Nat), i + k = l.length →
    (allU (l.drop i) = true → Runs E31 0 (loopAt Try.f31 0) (st31 (a, b, l) i) (.exit 0) (mk 61 [])) ∧ (allU (l.drop i) = false → Runs E31 0 (loopAt Try.f31 0) (st31 (a, b, l) i) .ret (mk 61 [(2, iv 2)])) := by
  intro k
  induction k with
  | zero =>
    intro i hi
    rw [List.drop_eq_nil_of_le (by omega)]
    refine ⟨fun _ => .stop ?_ (by simp), fun h => nomatch h⟩
    rw [b31, decide_eq_false (by simp only; omega)]
    rfl
  | succ k ih =>
    intro i hi
    have h1 : i < l.length := by omega
    rw [List.drop_eq_getElem_cons h1]
    have hbd := b31 (a, b, l) i
    simp only at hbd
    rw [decide_eq_true (by omega : (i : Int) < l.length), decide_eq_true (by omega : (0 : Int) ≤ i), Int.toNat_natCast, getD_at h1, W_small (n := (i : Int) + 1) (by omega) (by omega)] at hbd
    simp only [allU]
    by_cases c1 : l[i] < 0
    · rw [decide_eq_true c1] at hbd
      rw [decide_eq_false (by omega)]
      exact ⟨fun h => (nomatch h), fun _ => .stop hbd (by simp)⟩
    by_cases c2 : l[i] > 65535
    · rw [decide_eq_false c1, decide_eq_true c2] at hbd
      rw [decide_eq_false (by omega)]
      exact ⟨fun h => (nomatch h), fun _ => .stop hbd (by simp)⟩
    rw [decide_eq_false c1, decide_eq_false c2] at hbd
    rw [decide_eq_true (by omega), Bool.true_and]
    exact ⟨fun h => .step hbd ((ih (i + 1) (by omega)).1 h), fun h => .step hbd ((ih (i + 1) (by omega)).2 h)⟩
theorem loop31 : LoopOk E31 0 (loopAt Try.f31 0) := by
  intro st R K z h
  obtain ⟨hn, h⟩ := req_some h
  obtain ⟨m, e0, h⟩ := gM_some h
  obtain ⟨i, e1, h⟩ := gI_some h
  obtain ⟨hc, h⟩ := req_some h
  simp only [Bool.and_eq_true, decide_eq_true_eq] at hc
  obtain ⟨h1, h3⟩ := hc
  rw [keep_mk (of_decide_eq_true hn)]
  have e := runs31 m.1 m.2.1 m.2.2 h3 m.2.2.length 0 (by omega)
  have es : mk 61 ((E31.lv 0).map fun i => (i, getS (keep (E31.lv 0) st) i)) = st31 (m.1, m.2.1, m.2.2) (0 : Nat) := by
    show mk 61 [(1, getS (keep (E31.lv 0) st) 1), (3, getS (keep (E31.lv 0) st) 3)] = _
    rw [e0, e1, h1]
    rfl
  rw [es]
  rw [List.drop_zero] at e
  cases ha : allU m.2.2
  · rw [ha] at h; exact ⟨_, _, e.2 ha, h⟩
  · rw [ha] at h; exact ⟨_, _, e.1 ha, h⟩
theorem m31 : Meets Try.prog 31 (gate (pT dM) (sp dM fun m => iv (checkM m))) := mG (rdL (e := E31) rfl eg_nil (fn := Try.f31) (k := 1) (by kernel_rfl) (by kernel_rfl) (of_decide_eq_true (by kernel_rfl)) (show loopsOf Try.f31 = [(0, loopAt Try.f31 0)] by kernel_rfl) (fun p hp => by cases List.mem_singleton.mp hp; exact loop31)) (fun _ _ => hhM) (fun _ => ⟨rfl, Nat.le_refl _⟩)
  fun ⟨w, h, l⟩ _ => e31 w h l
/-! ### Comparing two masks -/
def sameL : List Int → List Int → Bool
  | a :: l, b :: m => (a == b) && sameL l m
  | _, _ => true
def sameM (a b : Mk) : Bool := (a.1 == b.1) && ((a.2.1 == b.2.1) && (((a.2.2.length : Int) == b.2.2.length) && sameL a.2.2 b.2.2))
def lp17 (st : St) (R : Type) (K : Ex → St → Option R) : Option R := req (decide (st.length = 45)) (gM st 2 fun a => gM st 3 fun b => gI st 29 fun k => gI st 30 fun i =>
  req (decide (i = 0) && decide (k = a.2.2.length) && decide (a.2.2.length = b.2.2.length) && decide (a.2.2.length < 4611686018427387904)) (bif sameL a.2.2 b.2.2 then K (.exit 0) (mk 45 []) else K .ret (mk 45 [(4, bw false)])))
def E17 : Env := { EG [] with lv := fun _ => [2, 3, 29, 30], lx := fun _ => [4], lp := fun _ => lp17 }
def st17 (a b : Mk) (k i : Int) : St := mk 45 [(2, bM a), (3, bM b), (29, iv k), (30, iv i)]
theorem b17 (a b : Mk) (k i : Int) : evalCode E17 (loopAt Try.f17 0) 0 (st17 a b k i) (kp E17 0) = bif decide (i < k) then bif decide (0 ≤ i) && decide (i < (a.2.2.length : Int)) then bif decide (0 ≤ i) && decide (i < (b.2.2.length : Int)) then
    bif a.2.2.getD i.toNat 0 != b.2.2.getD i.toNat 0 then some (.ret, mk 45 [(4, bw false)]) else some (.normal, st17 a b k (W (i + 1))) else none else none
    else some (.exit 0, mk 45 []) := by kernel_rfl
theorem t17 (w h : Int) (l : List Int) (w' h' : Int) (l' : List Int) : evalF E17 Try.f17 [mk3 w h l, mk3 w' h' l'] = bif w != w' then ob false else bif h != h' then ob false else bif (l.length : Int) != l'.length then ob false else
    bif decide ((0 : Int) = 0) && decide ((l.length : Int) = l.length) && decide (l.length = l'.length) && decide (l.length < 4611686018427387904) then bif sameL l l' then ob true else ob false else none := by kernel_rfl
theorem runs17 (a b a' b' : Int) (l m : List Int) (hlm : l.length = m.length) (hl : l.length < 4611686018427387904) : ∀ (k i : Nat), i + k = l.length →
    (sameL (l.drop i) (m.drop i) = true → Runs E17 0 (loopAt Try.f17 0) (st17 (a, b, l) (a', b', m) l.length i) (.exit 0) (mk 45 [])) ∧ (sameL (l.drop i) (m.drop i) = false → Runs E17 0 (loopAt Try.f17 0) (st17 (a, b, l) (a', b', m) l.length i) .ret (mk 45 [(4, bw false)])) := by
  intro k
  induction k with
  | zero =>
    intro i hi
    rw [List.drop_eq_nil_of_le (by omega)]
    refine ⟨fun _ => .stop ?_ (by simp), fun h => nomatch h⟩
    rw [b17, decide_eq_false (by omega)]
    rfl
  | succ k ih =>
    intro i hi
    have h1 : i < l.length := by omega
    rw [List.drop_eq_getElem_cons h1, List.drop_eq_getElem_cons (l := m) (by omega)]
    have hbd := b17 (a, b, l) (a', b', m) l.length i
    simp only at hbd
    rw [decide_eq_true (by omega : (i : Int) < l.length), decide_eq_true (by omega : (0 : Int) ≤ i), decide_eq_true (by omega : (i : Int) < m.length), Int.toNat_natCast, getD_at h1, getD_at (l := m) (by omega), W_small (n := (i : Int) + 1) (by omega) (by omega)] at hbd
    rw [sameL]
    by_cases c : l[i] = m[i]
    · rw [bne_eq_false_iff_eq.mpr c] at hbd
      rw [beq_iff_eq.mpr c, Bool.true_and]
      exact ⟨fun h => .step hbd ((ih (i + 1) (by omega)).1 h), fun h => .step hbd ((ih (i + 1) (by omega)).2 h)⟩
    · rw [bne_iff_ne.mpr c] at hbd
      rw [beq_eq_false_iff_ne.mpr c, Bool.false_and]
      exact ⟨fun h => (nomatch h), fun _ => .stop hbd (by simp)⟩
theorem loop17 : LoopOk E17 0 (loopAt Try.f17 0) := by
  intro st R K z h
  obtain ⟨hn, h⟩ := req_some h
  obtain ⟨a, e0, h⟩ := gM_some h
  obtain ⟨b, e1, h⟩ := gM_some h
  obtain ⟨k, e2, h⟩ := gI_some h
  obtain ⟨i, e3, h⟩ := gI_some h
  obtain ⟨hc, h⟩ := req_some h
  simp only [Bool.and_eq_true, decide_eq_true_eq] at hc
  obtain ⟨⟨⟨h1, h2⟩, h3⟩, h4⟩ := hc
  rw [keep_mk (of_decide_eq_true hn)]
  have e := runs17 a.1 a.2.1 b.1 b.2.1 a.2.2 b.2.2 h3 h4 a.2.2.length 0 (by omega)
  have es : mk 45 ((E17.lv 0).map fun i => (i, getS (keep (E17.lv 0) st) i)) = st17 (a.1, a.2.1, a.2.2) (b.1, b.2.1, b.2.2) a.2.2.length (0 : Nat) := by
    show mk 45 [(2, getS (keep (E17.lv 0) st) 2), (3, getS (keep (E17.lv 0) st) 3), (29, getS (keep (E17.lv 0) st) 29), (30, getS (keep (E17.lv 0) st) 30)] = _
    rw [e0, e1, e2, e3, h1, h2]
    rfl
  rw [es]
  rw [List.drop_zero, List.drop_zero] at e
  cases ha : sameL a.2.2 b.2.2
  · rw [ha] at h; exact ⟨_, _, e.2 ha, h⟩
  · rw [ha] at h; exact ⟨_, _, e.1 ha, h⟩
theorem m17 : Meets Try.prog 17 (gate (ps dMM fun a => decide (a.1.2.2.length < 4611686018427387904)) (sp dMM fun a => bw (sameM a.1 a.2))) := mG (rdL (e := E17) rfl eg_nil (fn := Try.f17) (k := 2) (by kernel_rfl) (by kernel_rfl) (of_decide_eq_true (by kernel_rfl)) (show loopsOf Try.f17 = [(0, loopAt Try.f17 0)] by kernel_rfl) (fun p hp => by cases List.mem_singleton.mp hp; exact loop17)) (fun _ _ => hMM) (fun _ => ⟨rfl, Nat.le_refl _⟩)
  fun ⟨⟨w, h, l⟩, w', h', l'⟩ hp => by
    have hp := of_decide_eq_true hp
    simp only at hp
    refine (t17 w h l w' h' l').trans ?_
    unfold sameM
    simp only
    by_cases c1 : w = w'
    · rw [bne_eq_false_iff_eq.mpr c1, beq_iff_eq.mpr c1]
      by_cases c2 : h = h'
      · rw [bne_eq_false_iff_eq.mpr c2, beq_iff_eq.mpr c2]
        by_cases c3 : (l.length : Int) = l'.length
        · rw [bne_eq_false_iff_eq.mpr c3, beq_iff_eq.mpr c3, decide_eq_true (by omega : l.length = l'.length), decide_eq_true hp]
          simp only [decide_true, Bool.and_self, cond_true, cond_false]
          cases sameL l l' <;> rfl
        · rw [bne_iff_ne.mpr c3, beq_eq_false_iff_ne.mpr c3]; rfl
      · rw [bne_iff_ne.mpr c2, beq_eq_false_iff_ne.mpr c2]; rfl
    · rw [bne_iff_ne.mpr c1, beq_eq_false_iff_ne.mpr c1]; rfl
theorem sameL_self : ∀ l, sameL l l = true
  | [] => rfl
  | a :: l => by rw [sameL, sameL_self l, beq_self_eq_true]; rfl
theorem sameM_self (a : Mk) : sameM a a = true := by unfold sameM; rw [sameL_self, beq_self_eq_true, beq_self_eq_true, beq_self_eq_true]; rfl
end Go.Proofs.Ytkeildnpemiacaa.Ev

