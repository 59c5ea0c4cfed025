/- Reading and cropping a mask, the program's own and the reference's. Conditions: none. Printed by gen.py of this session. -/
import Derived.Test.YtkeildnpemiacaaMh
namespace Go.Proofs.Ytkeildnpemiacaa.Ev
open Go.Proofs
set_option linter.unusedVariables false
set_option linter.unusedSimpArgs false
set_option maxRecDepth 100000
set_option maxHeartbeats 1000000

/-! ### At -/
def readM (m : Mk) (x y : Int) : Int := if checkM m ≠ 0 then 0 else getM m x y
theorem t18 (ck : Mk → Int) (w h : Int) (l : List Int) (x y : Int) : evalF (EG [(30, pT dM, sp dM fun m => iv (ck m)), (50, pG, sG)]) Try.f18 [mk3 w h l, iv x, iv y] = bif ck (w, h, l) != 0 then oi 0 else bif okSize (w, h, l) then oi (getM (w, h, l) x y) else none := by kernel_rfl
theorem t19 (ck : Mk → Int) (w h : Int) (l : List Int) (x y : Int) : evalF (EG [(31, pT dM, sp dM fun m => iv (ck m)), (53, pG, sG)]) Try.f19 [mk3 w h l, iv x, iv y] = bif ck (w, h, l) != 0 then oi 0 else bif okSize (w, h, l) then oi (getM (w, h, l) x y) else none := by kernel_rfl
theorem read_eq (w h : Int) (l : List Int) (x y : Int) : (bif checkM (w, h, l) != 0 then oi 0 else bif okSize (w, h, l) then oi (getM (w, h, l) x y) else none) = oi (readM (w, h, l) x y) := by
  unfold readM
  by_cases hc : checkM (w, h, l) = 0
  · rw [if_neg (fun h => h hc), bne_eq_false_iff_eq.mpr hc, (check_ok hc).1]; rfl
  · rw [if_pos hc, bne_iff_ne.mpr hc]; rfl
abbrev sRd : Spec := sp dMII fun a => iv (readM a.1 a.2.1 a.2.2)
theorem m18 : Meets Try.prog 18 (gate (pT dMII) sRd) := mG (rdE (l := [(30, pT dM, sp dM fun m => iv (checkM m)), (50, pG, sG)]) (eg_cons m30 (eg_cons m50 eg_nil)) (fn := Try.f18) (k := 3) (by kernel_rfl) (by kernel_rfl) (of_decide_eq_true (by kernel_rfl)) (by kernel_rfl)) (fun _ _ => hMII) (fun _ => ⟨rfl, Nat.le_refl _⟩)
  fun ⟨⟨w, h, l⟩, x, y⟩ _ => (t18 checkM w h l x y).trans (read_eq w h l x y)
theorem m19 : Meets Try.prog 19 (gate (pT dMII) sRd) := mG (rdE (l := [(31, pT dM, sp dM fun m => iv (checkM m)), (53, pG, sG)]) (eg_cons m31 (eg_cons m53 eg_nil)) (fn := Try.f19) (k := 3) (by kernel_rfl) (by kernel_rfl) (of_decide_eq_true (by kernel_rfl)) (by kernel_rfl)) (fun _ _ => hMII) (fun _ => ⟨rfl, Nat.le_refl _⟩)
  fun ⟨⟨w, h, l⟩, x, y⟩ _ => (t19 checkM w h l x y).trans (read_eq w h l x y)
/-! ### Crop -/
def cropV (m : Mk) (r : Q) (x y : Int) : Int := getM m (W (r.1 + x)) (W (r.2.1 + y))
def cropM (m : Mk) (r : Q) : Mk × Int := if checkM m ≠ 0 then errM (checkM m) else if valid r = false then errM 2 else if r.2.2.1 > 256 ∨ r.2.2.2 > 256 then errM 15 else if m.1 = 0 ∨ empty r = true then errM 0 else ((r.2.2.1, r.2.2.2, rowsG (cropV m r) r.2.2.1.toNat r.2.2.2.toNat 0), 0)
theorem t49 (x y a b c d e f : Int) (l : List Int) : evalF (EG [(50, pG, sG)]) Try.f49 (nKmq (x, y, (a, b, l), (c, d, e, f))) = bif okSize (a, b, l) then oi (getM (a, b, l) (W (c + x)) (W (d + y))) else none := by kernel_rfl
abbrev pKmq : List AV → Bool := ps dKmq fun a => okSize a.2.2.1
abbrev sKmq : Spec := sp dKmq fun a => iv (cropV a.2.2.1 a.2.2.2 a.1 a.2.1)
theorem m49 : Meets Try.prog 49 (gate pKmq sKmq) := mG (rdE (eg_cons m50 eg_nil) (fn := Try.f49) (k := 4) (by kernel_rfl) (by kernel_rfl) (of_decide_eq_true (by kernel_rfl)) (by kernel_rfl)) (fun _ _ => hKmq) (fun _ => ⟨rfl, Nat.le_refl _⟩)
  fun ⟨x, y, ⟨a, b, l⟩, c, d, e, f⟩ hp => by
    have hp : okSize (a, b, l) = true := hp
    refine (t49 x y a b c d e f l).trans ?_
    rw [hp]; rfl
def L14 (ck : Mk → Int) : List Entry := [(30, pT dM, sp dM fun m => iv (ck m)), (46, pT dQ, sp dQ fun a => bw (valid a)), (47, pT dQ, sp dQ fun a => bw (empty a)), (48, pF, sF), (49, pKmq, sKmq)]
@[reducible] def F49 (ck : Mk → Int) (m : Mk) (r : Q) : Fn2 := closure ((EG (L14 ck)).ctx #[]) 49 [cm m.1 m.2.1 m.2.2, cq r.1 r.2.1 r.2.2.1 r.2.2.2]
theorem t14 (ck : Mk → Int) (w h : Int) (l : List Int) (a b c d : Int) : evalF (EG (L14 ck)) Try.f14 [mk3 w h l, q4 a b c d] = bif ck (w, h, l) != 0 then omv (errM (ck (w, h, l))) else bif !valid (a, b, c, d) then omv (errM 2) else
    bif decide (c > 256) then omv (errM 15) else bif decide (d > 256) then omv (errM 15) else bif w == 0 then omv (errM 0) else bif empty (a, b, c, d) then omv (errM 0) else
    bif decide (0 ≤ c ∧ c ≤ 256 ∧ d ≤ 256) && okRs (F49 ck (w, h, l) (a, b, c, d)) c.toNat d.toNat 0 then omv ((c, d, rowsG (fI (F49 ck (w, h, l) (a, b, c, d))) c.toNat d.toNat 0), 0) else none := by kernel_rfl
theorem F49_eq {ck : Mk → Int} {m : Mk} {r : Q} (ho : okSize m = true) (x y : Int) : F49 ck m r [.int .i64 x, .int .i64 y] = some (.int .i64 (cropV m r x y)) := by
  have : F49 ck m r [.int .i64 x, .int .i64 y] = (match (bif okSize m then some (iv (cropV m r x y), []) else none : Option (AV × List AV)) with
    | some (.rv r, _) => toV r
    | _ => none) := rfl
  rw [this, ho]
  rfl
theorem rowG_congr {g g' : Int → Int → Int} (h : ∀ x y, g x y = g' x y) : ∀ (k : Nat) (y x : Int), rowG g y k x = rowG g' y k x
  | 0, _, _ => rfl
  | k + 1, y, x => by rw [rowG, rowG, h, rowG_congr h k]
theorem rowsG_congr {g g' : Int → Int → Int} (h : ∀ x y, g x y = g' x y) (w : Nat) : ∀ (k : Nat) (y : Int), rowsG g w k y = rowsG g' w k y
  | 0, _ => rfl
  | k + 1, y => by rw [rowsG, rowsG, rowG_congr h, rowsG_congr h w k]
def tail14 (w : Int) (a b c d : Int) (z : Option (AV × List AV)) : Option (AV × List AV) := bif !valid (a, b, c, d) then omv (errM 2) else
    bif decide (c > 256) then omv (errM 15) else bif decide (d > 256) then omv (errM 15) else bif w == 0 then omv (errM 0) else bif empty (a, b, c, d) then omv (errM 0) else z
theorem crop_eq (w h : Int) (l : List Int) (a b c d : Int) (z : Option (AV × List AV)) (hz : checkM (w, h, l) = 0 → empty (a, b, c, d) = false → c ≤ 256 → d ≤ 256 → z = omv ((c, d, rowsG (cropV (w, h, l) (a, b, c, d)) c.toNat d.toNat 0), 0)) :
    (bif checkM (w, h, l) != 0 then omv (errM (checkM (w, h, l))) else tail14 w a b c d z) = omv (cropM (w, h, l) (a, b, c, d)) := by
  unfold cropM tail14
  by_cases hc : checkM (w, h, l) = 0
  · rw [if_neg (fun h => h hc), bne_eq_false_iff_eq.mpr hc]
    cases hv : valid (a, b, c, d)
    · rw [if_pos rfl]; rfl
    · rw [if_neg (by decide)]
      by_cases h1 : c > 256
      · rw [if_pos (.inl h1), decide_eq_true h1]; rfl
      by_cases h2 : d > 256
      · rw [if_pos (.inr h2), decide_eq_false h1, decide_eq_true h2]; rfl
      rw [if_neg (by simp only; omega), decide_eq_false h1, decide_eq_false h2]
      by_cases h3 : w = 0
      · rw [if_pos (.inl h3), beq_iff_eq.mpr h3]; rfl
      cases h4 : empty (a, b, c, d)
      · rw [if_neg (by simp only [Bool.false_eq_true, or_false]; exact h3), beq_eq_false_iff_ne.mpr h3]
        exact hz hc h4 (by omega) (by omega)
      · rw [if_pos (.inr rfl), beq_eq_false_iff_ne.mpr h3]; rfl
  · rw [if_pos hc, bne_iff_ne.mpr hc]; rfl
theorem m14 : Meets Try.prog 14 (gate (pT dMQ) (sp dMQ fun a => mev (cropM a.1 a.2))) := mG (rdE (l := L14 checkM) (eg_cons m30 (eg_cons m46 (eg_cons m47 (eg_cons m48 (eg_cons m49 eg_nil))))) (fn := Try.f14) (k := 2) (by kernel_rfl) (by kernel_rfl) (of_decide_eq_true (by kernel_rfl)) (by kernel_rfl)) (fun _ _ => hMQ) (fun _ => ⟨rfl, Nat.le_refl _⟩)
  fun ⟨⟨w, h, l⟩, a, b, c, d⟩ _ => (t14 checkM w h l a b c d).trans (crop_eq w h l a b c d _ fun hc he h1 h2 => by
    have ho := (check_ok hc).1
    have hn := (nonempty_iff a b c d).mp he
    rw [decide_eq_true (by omega), okRs_of _ c.toNat d.toNat (fun x y _ _ _ _ => by rw [F49_eq ho]; rfl) d.toNat 0 (Int.le_refl _) (by omega), rowsG_congr (g' := cropV (w, h, l) (a, b, c, d)) fun x y => by unfold fI; rw [F49_eq ho]; rfl]
    rfl)
/-! ### Crop, the reference's -/
def lp15o (st : St) (R : Type) (K : Ex → St → Option R) : Option R := req (decide (st.length = 70)) (gM st 2 fun m => gQ st 3 fun r => gB st 4 fun z => gB st 7 fun t => gI st 8 fun y =>
  req (decide (y = 0) && decide (t.2.2.length = 0) && decide (0 ≤ r.2.2.1 ∧ r.2.2.1 ≤ 256 ∧ r.2.2.2 ≤ 256) && okSize m) (K (.exit 0) (mk 70 [(4, bB z), (7, bB (t.1, t.2.1, rowsG (cropV m r) r.2.2.1.toNat r.2.2.2.toNat 0))])))
def lp15i (st : St) (R : Type) (K : Ex → St → Option R) : Option R := req (decide (st.length = 70)) (gM st 2 fun m => gQ st 3 fun r => gB st 4 fun z => gB st 7 fun t => gI st 8 fun y => gI st 9 fun x =>
  req (decide (x = 0) && decide (t.2.2.length ≤ 65536) && decide (r.2.2.1 ≤ 256) && okSize m) (K (.exit 2) (mk 70 [(2, bM m), (3, bQ r), (4, bB z), (7, bB (t.1, t.2.1, t.2.2 ++ rowG (cropV m r) y r.2.2.1.toNat 0)), (8, iv y)])))
def L15 (ck : Mk → Int) : List Entry := [(31, pT dM, sp dM fun m => iv (ck m)), (51, pT dQ, sp dQ fun a => bw (valid a)), (52, pT dQ, sp dQ fun a => bw (empty a)), (53, pG, sG)]
def E15 (ck : Mk → Int) : Env := { EG (L15 ck) with lv := fun id => match id with | 0 => [2, 3, 4, 7, 8] | _ => [2, 3, 4, 7, 8, 9], lx := fun id => match id with | 0 => [4, 7] | _ => [2, 3, 4, 7, 8], lp := fun id => match id with | 0 => lp15o | _ => lp15i }
def st15o (m : Mk) (r : Q) (z t : Mk) (y : Int) : St := mk 70 [(2, bM m), (3, bQ r), (4, bB z), (7, bB t), (8, iv y)]
def st15i (m : Mk) (r : Q) (z t : Mk) (y x : Int) : St := mk 70 [(2, bM m), (3, bQ r), (4, bB z), (7, bB t), (8, iv y), (9, iv x)]
theorem b15i (ck : Mk → Int) (m : Mk) (r : Q) (z t : Mk) (y x : Int) : evalCode (E15 ck) (loopAt Try.f15 1) 2 (st15i m r z t y x) (kp (E15 ck) 2) = bif decide (x < r.2.2.1) then bif okSize m then
    bif decide (0 < [cropV m r x y].length) && decide ((t.2.2 ++ [cropV m r x y]).length * 8 ≤ 140737488355328) then some (.normal, st15i m r z (t.1, t.2.1, t.2.2 ++ [cropV m r x y]) y (W (x + 1))) else none else none
    else some (.exit 2, st15o m r z t y) := by kernel_rfl
theorem b15o (ck : Mk → Int) (m : Mk) (r : Q) (z t : Mk) (y : Int) : evalCode (E15 ck) (loopAt Try.f15 0) 0 (st15o m r z t y) (kp (E15 ck) 0) = bif decide (y < r.2.2.2) then
    bif decide ((0 : Int) = 0) && decide (t.2.2.length ≤ 65536) && decide (r.2.2.1 ≤ 256) && okSize m then some (.normal, st15o m r z (t.1, t.2.1, t.2.2 ++ rowG (cropV m r) y r.2.2.1.toNat 0) (W (y + 1))) else none
    else some (.exit 0, mk 70 [(4, bB z), (7, bB t)]) := by kernel_rfl
theorem t15 (ck : Mk → Int) (w h : Int) (l : List Int) (a b c d : Int) : evalF (E15 ck) Try.f15 [mk3 w h l, q4 a b c d] = bif ck (w, h, l) != 0 then omv (errM (ck (w, h, l))) else tail14 w a b c d
    (bif decide ((0 : Int) = 0) && decide ([].length (α := Int) = 0) && decide (0 ≤ c ∧ c ≤ 256 ∧ d ≤ 256) && okSize (w, h, l) then omv ((c, d, rowsG (cropV (w, h, l) (a, b, c, d)) c.toNat d.toNat 0), 0) else none) := by kernel_rfl
theorem runs15i (ck : Mk → Int) (m : Mk) (r : Q) (z : Mk) (p q y : Int) (hw : r.2.2.1 ≤ 256) (ho : okSize m = true) : ∀ (k : Nat) (x : Int) (l : List Int), x + k = r.2.2.1 ∨ (k = 0 ∧ r.2.2.1 ≤ x) → 0 ≤ x → l.length + k ≤ 131072 →
    Runs (E15 ck) 2 (loopAt Try.f15 1) (st15i m r z (p, q, l) y x) (.exit 2) (st15o m r z (p, q, l ++ rowG (cropV m r) y k x) y) := by
  intro k
  induction k with
  | zero =>
    intro x l hx _ _
    refine .stop ?_ (by simp)
    rw [b15i, decide_eq_false (by omega), rowG, List.append_nil]
    rfl
  | succ k ih =>
    intro x l hx h0 hl
    have hbd := b15i ck m r z (p, q, l) y x
    have hlen : (l ++ [cropV m r x y]).length * 8 ≤ 140737488355328 := by rw [List.length_append, List.length_singleton]; omega
    rw [decide_eq_true (by omega : x < r.2.2.1), ho, decide_eq_true hlen, W_small (n := x + 1) (by omega) (by omega)] at hbd
    have := ih (x + 1) (l ++ [cropV m r x y]) (by omega) (by omega) (by rw [List.length_append, List.length_singleton]; omega)
    rw [List.append_assoc] at this
    exact .step hbd this
theorem runs15o (ck : Mk → Int) (m : Mk) (r : Q) (z : Mk) (p q : Int) (hr : 0 ≤ r.2.2.1 ∧ r.2.2.1 ≤ 256 ∧ r.2.2.2 ≤ 256) (ho : okSize m = true) : ∀ (k : Nat) (y : Int) (l : List Int), y + k = r.2.2.2 ∨ (k = 0 ∧ r.2.2.2 ≤ y) → 0 ≤ y → l.length + 256 * k ≤ 65536 →
    Runs (E15 ck) 0 (loopAt Try.f15 0) (st15o m r z (p, q, l) y) (.exit 0) (mk 70 [(4, bB z), (7, bB (p, q, l ++ rowsG (cropV m r) r.2.2.1.toNat k y))]) := by
  intro k
  induction k with
  | zero =>
    intro y l hx _ _
    refine .stop ?_ (by simp)
    rw [b15o, decide_eq_false (by omega), rowsG, List.append_nil]
    rfl
  | succ k ih =>
    intro y l hx h0 hl
    have hbd := b15o ck m r z (p, q, l) y
    rw [decide_eq_true (by omega : y < r.2.2.2), decide_eq_true (by simp only; omega : (p, q, l).2.2.length ≤ 65536), decide_eq_true hr.2.1, ho, W_small (n := y + 1) (by omega) (by omega)] at hbd
    have hl2 : (rowG (cropV m r) y r.2.2.1.toNat 0).length ≤ 256 := by rw [rowG_len]; omega
    have := ih (y + 1) (l ++ rowG (cropV m r) y r.2.2.1.toNat 0) (by omega) (by omega) (by rw [List.length_append]; omega)
    rw [List.append_assoc] at this
    exact .step hbd this
theorem loop15i (ck : Mk → Int) : LoopOk (E15 ck) 2 (loopAt Try.f15 1) := by
  intro st R K z h
  obtain ⟨hn, h⟩ := req_some h
  obtain ⟨m, e0, h⟩ := gM_some h
  obtain ⟨r, e1, h⟩ := gQ_some h
  obtain ⟨z0, e2, h⟩ := gB_some h
  obtain ⟨t, e3, h⟩ := gB_some h
  obtain ⟨y, e4, h⟩ := gI_some h
  obtain ⟨x, e5, h⟩ := gI_some h
  obtain ⟨hc, h⟩ := req_some h
  simp only [Bool.and_eq_true, decide_eq_true_eq] at hc
  obtain ⟨⟨⟨h1, h2⟩, h3⟩, h4⟩ := hc
  rw [keep_mk (of_decide_eq_true hn)]
  have e := runs15i ck m r z0 t.1 t.2.1 y h3 h4 r.2.2.1.toNat 0 t.2.2 (by omega) (Int.le_refl _) (by omega)
  have es : mk 70 (((E15 ck).lv 2).map fun i => (i, getS (keep ((E15 ck).lv 2) st) i)) = st15i m r z0 (t.1, t.2.1, t.2.2) y 0 := by
    show mk 70 [(2, getS (keep ((E15 ck).lv 2) st) 2), (3, getS (keep ((E15 ck).lv 2) st) 3), (4, getS (keep ((E15 ck).lv 2) st) 4), (7, getS (keep ((E15 ck).lv 2) st) 7), (8, getS (keep ((E15 ck).lv 2) st) 8), (9, getS (keep ((E15 ck).lv 2) st) 9)] = _
    rw [e0, e1, e2, e3, e4, e5, h1]
    rfl
  rw [es]
  exact ⟨_, _, e, h⟩
theorem loop15o (ck : Mk → Int) : LoopOk (E15 ck) 0 (loopAt Try.f15 0) := by
  intro st R K z h
  obtain ⟨hn, h⟩ := req_some h
  obtain ⟨m, e0, h⟩ := gM_some h
  obtain ⟨r, e1, h⟩ := gQ_some h
  obtain ⟨z0, e2, h⟩ := gB_some h
  obtain ⟨t, e3, h⟩ := gB_some h
  obtain ⟨y, e4, h⟩ := gI_some h
  obtain ⟨hc, h⟩ := req_some h
  simp only [Bool.and_eq_true, decide_eq_true_eq] at hc
  obtain ⟨⟨⟨h1, h2⟩, h3⟩, h4⟩ := hc
  rw [keep_mk (of_decide_eq_true hn)]
  have e := runs15o ck m r z0 t.1 t.2.1 h3 h4 r.2.2.2.toNat 0 [] (by omega) (Int.le_refl _) (by rw [List.length_nil]; omega)
  have es : mk 70 (((E15 ck).lv 0).map fun i => (i, getS (keep ((E15 ck).lv 0) st) i)) = st15o m r z0 (t.1, t.2.1, []) 0 := by
    show mk 70 [(2, getS (keep ((E15 ck).lv 0) st) 2), (3, getS (keep ((E15 ck).lv 0) st) 3), (4, getS (keep ((E15 ck).lv 0) st) 4), (7, getS (keep ((E15 ck).lv 0) st) 7), (8, getS (keep ((E15 ck).lv 0) st) 8)] = _
    rw [e0, e1, e2, e3, e4, h1, ← List.length_eq_zero_iff.mp h2]
    rfl
  rw [es]
  exact ⟨_, _, e, h⟩
theorem loops15 : loopsOf Try.f15 = [(0, loopAt Try.f15 0), (2, loopAt Try.f15 1)] := by kernel_rfl
theorem m15 : Meets Try.prog 15 (gate (pT dMQ) (sp dMQ fun a => mev (cropM a.1 a.2))) := mG (rdL (e := E15 checkM) rfl (eg_cons m31 (eg_cons m51 (eg_cons m52 (eg_cons m53 eg_nil)))) (fn := Try.f15) (k := 2) (by kernel_rfl) (by kernel_rfl) (of_decide_eq_true (by kernel_rfl)) loops15 (fun p hp => by
  rcases List.mem_cons.mp hp with h | h
  · cases h; exact loop15o checkM
  · cases List.mem_singleton.mp h; exact loop15i checkM)) (fun _ _ => hMQ) (fun _ => ⟨rfl, Nat.le_refl _⟩)
  fun ⟨⟨w, h, l⟩, a, b, c, d⟩ _ => (t15 checkM w h l a b c d).trans (crop_eq w h l a b c d _ fun hc he h1 h2 => by
    have ho := (check_ok hc).1
    have hn := (nonempty_iff a b c d).mp he
    rw [ho, decide_eq_true (by omega : 0 ≤ c ∧ c ≤ 256 ∧ d ≤ 256)]
    rfl)
end Go.Proofs.Ytkeildnpemiacaa.Ev

