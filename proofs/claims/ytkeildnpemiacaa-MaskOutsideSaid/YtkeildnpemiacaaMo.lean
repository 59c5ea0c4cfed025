/- New masks and masks of rectangles, the program's own and the reference's. Conditions: none. Printed by gen.py of this session. -/
import Derived.Test.YtkeildnpemiacaaMh
namespace Go.Proofs.Ytkeildnpemiacaa.Ev
open Go.Proofs
set_option linter.unusedVariables false
set_option linter.unusedSimpArgs false
set_option maxRecDepth 100000
set_option maxHeartbeats 1000000

theorem sizeE_iff (w h : Int) : sizeE w h = 0 ↔ 1 ≤ w ∧ w ≤ 256 ∧ 1 ≤ h ∧ h ≤ 256 := by
  unfold sizeE
  split
  · exact ⟨fun _ => ‹_›, fun _ => rfl⟩
  · exact ⟨fun h => (nomatch h), fun h => absurd h ‹_›⟩
theorem sizeE_no {w h : Int} (hn : ¬ sizeE w h = 0) : sizeE w h = 15 := by
  unfold sizeE at hn ⊢
  split
  · rename_i hh; rw [if_pos hh] at hn; exact absurd rfl hn
  · rfl
abbrev pS : List AV → Bool := pT dII
abbrev sS : Spec := sp dII fun a => iv (sizeE a.1 a.2)
abbrev sS2 : Spec := sp dII fun a => bw (sizeE a.1 a.2 == 0)
/-! ### New -/
def newM (w h v : Int) : Mk × Int := if sizeE w h ≠ 0 then errM 15 else if v < 0 ∨ v > 65535 then errM 2 else ((w, h, seqL (fun _ => v) (w.toNat * h.toNat) 0), 0)
theorem t60 (x y v : Int) : evalF (EG []) Try.f60 (nKi (x, y, v)) = oi v := by kernel_rfl
theorem m60 : Meets Try.prog 60 (gate (pT dKi) (sp dKi fun a => iv a.2.2)) := mG (rdE eg_nil (fn := Try.f60) (k := 3) (by kernel_rfl) (by kernel_rfl) (of_decide_eq_true (by kernel_rfl)) (by kernel_rfl)) (fun _ _ => hKi) (fun _ => ⟨rfl, Nat.le_refl _⟩)
  fun ⟨x, y, v⟩ _ => t60 x y v
def L24 : List Entry := [(56, pS, sS), (48, pF, sF), (60, pT dKi, sp dKi fun a => iv a.2.2)]
@[reducible] def F60 (v : Int) : Fn2 := closure ((EG L24).ctx #[]) 60 [ci v]
theorem t24 (w h v : Int) : evalF (EG L24) Try.f24 [iv w, iv h, iv v] = bif sizeE w h != 0 then omv (errM (sizeE w h)) else bif decide (v < 0) then omv (errM 2) else bif decide (v > 65535) then omv (errM 2) else
    bif decide (0 ≤ w ∧ w ≤ 256 ∧ h ≤ 256) && okRs (F60 v) w.toNat h.toNat 0 then omv ((w, h, rowsG (fI (F60 v)) w.toNat h.toNat 0), 0) else none := by kernel_rfl
def tail24 (v : Int) (z : Option (AV × List AV)) : Option (AV × List AV) := bif decide (v < 0) then omv (errM 2) else bif decide (v > 65535) then omv (errM 2) else z
theorem new_eq (w h v : Int) (z : Option (AV × List AV)) (hz : sizeE w h = 0 → z = omv ((w, h, seqL (fun _ => v) (w.toNat * h.toNat) 0), 0)) : (bif sizeE w h != 0 then omv (errM 15) else tail24 v z) = omv (newM w h v) := by
  unfold newM tail24
  by_cases hc : sizeE w h = 0
  · rw [if_neg (fun h => h hc), bne_eq_false_iff_eq.mpr hc]
    by_cases h1 : v < 0
    · rw [if_pos (.inl h1), decide_eq_true h1]; rfl
    by_cases h2 : v > 65535
    · rw [if_pos (.inr h2), decide_eq_false h1, decide_eq_true h2]; rfl
    rw [if_neg (by omega), decide_eq_false h1, decide_eq_false h2]
    exact hz hc
  · rw [if_pos hc, bne_iff_ne.mpr hc]; rfl
theorem err15 (w h : Int) (z : Option (AV × List AV)) : (bif sizeE w h != 0 then omv (errM (sizeE w h)) else z) = (bif sizeE w h != 0 then omv (errM 15) else z) := by
  by_cases hc : sizeE w h = 0
  · rw [bne_eq_false_iff_eq.mpr hc]; rfl
  · rw [sizeE_no hc]
theorem err15b (w h : Int) (z : Option (AV × List AV)) : (bif !(sizeE w h == 0) then omv (errM 15) else z) = (bif sizeE w h != 0 then omv (errM 15) else z) := rfl
theorem F60_eq (v x y : Int) : F60 v [.int .i64 x, .int .i64 y] = some (.int .i64 v) := rfl
abbrev sNw : Spec := sp dIII fun a => mev (newM a.1 a.2.1 a.2.2)
theorem m24 : Meets Try.prog 24 (gate (pT dIII) sNw) := mG (rdE (l := L24) (eg_cons m56 (eg_cons m48 (eg_cons m60 eg_nil))) (fn := Try.f24) (k := 3) (by kernel_rfl) (by kernel_rfl) (of_decide_eq_true (by kernel_rfl)) (by kernel_rfl)) (fun _ _ => hIII) (fun _ => ⟨rfl, Nat.le_refl _⟩)
  fun ⟨w, h, v⟩ _ => (t24 w h v).trans ((err15 w h _).trans (new_eq w h v _ fun hc => by
    have hs := (sizeE_iff w h).mp hc
    rw [decide_eq_true (by omega), okRs_of _ w.toNat h.toNat (fun x y _ _ _ _ => rfl) h.toNat 0 (Int.le_refl _) (by omega)]
    have := rowsG_seq (fun _ => v) (fI (F60 v)) w.toNat h.toNat (fun x y _ _ => rfl) h.toNat 0 (by omega)
    rw [Nat.zero_mul, show ((0 : Nat) : Int) = 0 from rfl] at this
    rw [this]
    rfl))
def lp25 (st : St) (R : Type) (K : Ex → St → Option R) : Option R := req (decide (st.length = 39)) (gI st 0 fun w => gI st 1 fun h => gI st 2 fun v => gB st 6 fun z => gB st 8 fun t => gI st 9 fun k =>
  req (decide (k = 0) && decide (t.2.2.length = 0) && decide (0 ≤ w ∧ w ≤ 256 ∧ 0 ≤ h ∧ h ≤ 256)) (K (.exit 0) (mk 39 [(6, bB z), (8, bB (t.1, t.2.1, seqL (fun _ => v) (w.toNat * h.toNat) 0))])))
def E25 : Env := { EG [(58, pS, sS2)] with lv := fun _ => [0, 1, 2, 6, 8, 9], lx := fun _ => [6, 8], lp := fun _ => lp25 }
def st25 (w h v : Int) (z t : Mk) (k : Int) : St := mk 39 [(0, iv w), (1, iv h), (2, iv v), (6, bB z), (8, bB t), (9, iv k)]
theorem b25 (w h v : Int) (z t : Mk) (k : Int) : evalCode E25 (loopAt Try.f25 0) 0 (st25 w h v z t k) (kp E25 0) = bif decide (k < W (w * h)) then
    bif decide (0 < [v].length) && decide ((t.2.2 ++ [v]).length * 8 ≤ 140737488355328) then some (.normal, st25 w h v z (t.1, t.2.1, t.2.2 ++ [v]) (W (k + 1))) else none else some (.exit 0, mk 39 [(6, bB z), (8, bB t)]) := by kernel_rfl
theorem t25 (w h v : Int) : evalF E25 Try.f25 [iv w, iv h, iv v] = bif !(sizeE w h == 0) then omv (errM 15) else tail24 v
    (bif decide ((0 : Int) = 0) && decide ([].length (α := Int) = 0) && decide (0 ≤ w ∧ w ≤ 256 ∧ 0 ≤ h ∧ h ≤ 256) then omv ((w, h, seqL (fun _ => v) (w.toNat * h.toNat) 0), 0) else none) := by kernel_rfl
theorem runs25 (w h v : Int) (z : Mk) (p q : Int) (n : Nat) (hp : 0 ≤ w ∧ w ≤ 256 ∧ 0 ≤ h ∧ h ≤ 256) (hn : w.toNat * h.toNat = n) : ∀ (k i : Nat) (l : List Int), i + k = n → l.length ≤ i →
    Runs E25 0 (loopAt Try.f25 0) (st25 w h v z (p, q, l) i) (.exit 0) (mk 39 [(6, bB z), (8, bB (p, q, l ++ seqL (fun _ => v) k i))]) := by
  have hsz := size_le hp.1 hp.2.1 hp.2.2.1 hp.2.2.2
  have hW : W (w * h) = n := by rw [← hsz.2, hn, W_small (by omega) (by omega)]
  intro k
  induction k with
  | zero =>
    intro i l hi _
    refine .stop ?_ (by simp)
    rw [b25, hW, decide_eq_false (by omega), seqL, List.append_nil]
    rfl
  | succ k ih =>
    intro i l hi hl
    have hbd := b25 w h v z (p, q, l) i
    have hlen : (l ++ [v]).length * 8 ≤ 140737488355328 := by rw [List.length_append, List.length_singleton]; omega
    rw [hW, decide_eq_true (by omega : (i : Int) < n), decide_eq_true hlen, W_small (n := (i : Int) + 1) (by omega) (by omega)] at hbd
    have := ih (i + 1) (l ++ [v]) (by omega) (by rw [List.length_append, List.length_singleton]; omega)
    rw [List.append_assoc] at this
    exact .step hbd this
theorem loop25 : LoopOk E25 0 (loopAt Try.f25 0) := by
  intro st R K z h
  obtain ⟨hn, h⟩ := req_some h
  obtain ⟨w, e0, h⟩ := gI_some h
  obtain ⟨hh, e1, h⟩ := gI_some h
  obtain ⟨v, e2, h⟩ := gI_some h
  obtain ⟨z0, e3, h⟩ := gB_some h
  obtain ⟨t, e4, h⟩ := gB_some h
  obtain ⟨k, e5, h⟩ := gI_some h
  obtain ⟨hc, h⟩ := req_some h
  simp only [Bool.and_eq_true, decide_eq_true_eq] at hc
  obtain ⟨⟨h1, h2⟩, h3⟩ := hc
  rw [keep_mk (of_decide_eq_true hn)]
  have e := runs25 w hh v z0 t.1 t.2.1 _ h3 rfl (w.toNat * hh.toNat) 0 [] (by omega) (Nat.le_refl _)
  have es : mk 39 ((E25.lv 0).map fun i => (i, getS (keep (E25.lv 0) st) i)) = st25 w hh v z0 (t.1, t.2.1, []) (0 : Nat) := by
    show mk 39 [(0, getS (keep (E25.lv 0) st) 0), (1, getS (keep (E25.lv 0) st) 1), (2, getS (keep (E25.lv 0) st) 2), (6, getS (keep (E25.lv 0) st) 6), (8, getS (keep (E25.lv 0) st) 8), (9, getS (keep (E25.lv 0) st) 9)] = _
    rw [e0, e1, e2, e3, e4, e5, h1, ← List.length_eq_zero_iff.mp h2]
    rfl
  rw [es]
  exact ⟨_, _, e, h⟩
theorem m25 : Meets Try.prog 25 (gate (pT dIII) sNw) := mG (rdL (e := E25) rfl (eg_cons m58 eg_nil) (fn := Try.f25) (k := 3) (by kernel_rfl) (by kernel_rfl) (of_decide_eq_true (by kernel_rfl)) (show loopsOf Try.f25 = [(0, loopAt Try.f25 0)] by kernel_rfl) (fun p hp => by cases List.mem_singleton.mp hp; exact loop25)) (fun _ _ => hIII) (fun _ => ⟨rfl, Nat.le_refl _⟩)
  fun ⟨w, h, v⟩ _ => (t25 w h v).trans ((err15b w h _).trans (new_eq w h v _ fun hc => by
    have hs := (sizeE_iff w h).mp hc
    rw [decide_eq_true (by omega : 0 ≤ w ∧ w ≤ 256 ∧ 0 ≤ h ∧ h ≤ 256)]
    rfl))
/-! ### Rect -/
def recV (r : Q) (x y : Int) : Int := bif has r (x, y) then 65535 else 0
def recM (w h : Int) (r : Q) : Mk × Int := if sizeE w h ≠ 0 then errM 15 else if valid r = false then errM 2 else ((w, h, rowsG (recV r) w.toNat h.toNat 0), 0)
theorem t61 (x y a b c d : Int) : evalF (EG [(62, pT dQP, sp dQP fun a => bw (has a.1 a.2))]) Try.f61 (nKq (x, y, (a, b, c, d))) = bif has (a, b, c, d) (x, y) then oi 65535 else oi 0 := by kernel_rfl
abbrev sKq : Spec := sp dKq fun a => iv (recV a.2.2 a.1 a.2.1)
theorem m61 : Meets Try.prog 61 (gate (pT dKq) sKq) := mG (rdE (l := [(62, pT dQP, sp dQP fun a => bw (has a.1 a.2))]) (eg_cons m62 eg_nil) (fn := Try.f61) (k := 3) (by kernel_rfl) (by kernel_rfl) (of_decide_eq_true (by kernel_rfl)) (by kernel_rfl)) (fun _ _ => hKq) (fun _ => ⟨rfl, Nat.le_refl _⟩)
  fun ⟨x, y, a, b, c, d⟩ _ => by
    refine (t61 x y a b c d).trans ?_
    show _ = oi (recV (a, b, c, d) x y)
    unfold recV
    cases has (a, b, c, d) (x, y) <;> rfl
def L26 : List Entry := [(56, pS, sS), (46, pT dQ, sp dQ fun a => bw (valid a)), (48, pF, sF), (61, pT dKq, sKq)]
@[reducible] def F61 (r : Q) : Fn2 := closure ((EG L26).ctx #[]) 61 [cq r.1 r.2.1 r.2.2.1 r.2.2.2]
theorem F61_eq (r : Q) (x y : Int) : F61 r [.int .i64 x, .int .i64 y] = some (.int .i64 (recV r x y)) := rfl
theorem t26 (w h a b c d : Int) : evalF (EG L26) Try.f26 [iv w, iv h, q4 a b c d] = bif sizeE w h != 0 then omv (errM (sizeE w h)) else bif !valid (a, b, c, d) then omv (errM 2) else
    bif decide (0 ≤ w ∧ w ≤ 256 ∧ h ≤ 256) && okRs (F61 (a, b, c, d)) w.toNat h.toNat 0 then omv ((w, h, rowsG (fI (F61 (a, b, c, d))) w.toNat h.toNat 0), 0) else none := by kernel_rfl
theorem rec_eq (w h : Int) (r : Q) (z : Option (AV × List AV)) (hz : sizeE w h = 0 → z = omv ((w, h, rowsG (recV r) w.toNat h.toNat 0), 0)) : (bif sizeE w h != 0 then omv (errM 15) else bif !valid r then omv (errM 2) else z) = omv (recM w h r) := by
  unfold recM
  by_cases hc : sizeE w h = 0
  · rw [if_neg (fun h => h hc), bne_eq_false_iff_eq.mpr hc]
    cases hv : valid r
    · rw [if_pos rfl]; rfl
    · rw [if_neg (by decide)]; exact hz hc
  · rw [if_pos hc, bne_iff_ne.mpr hc]; rfl
abbrev sRc : Spec := sp dIIQ fun a => mev (recM a.1 a.2.1 a.2.2)
theorem m26 : Meets Try.prog 26 (gate (pT dIIQ) sRc) := mG (rdE (l := L26) (eg_cons m56 (eg_cons m46 (eg_cons m48 (eg_cons m61 eg_nil)))) (fn := Try.f26) (k := 3) (by kernel_rfl) (by kernel_rfl) (of_decide_eq_true (by kernel_rfl)) (by kernel_rfl)) (fun _ _ => hIIQ) (fun _ => ⟨rfl, Nat.le_refl _⟩)
  fun ⟨w, h, a, b, c, d⟩ _ => (t26 w h a b c d).trans ((err15 w h _).trans (rec_eq w h (a, b, c, d) _ fun hc => by
    have hs := (sizeE_iff w h).mp hc
    rw [decide_eq_true (by omega), okRs_of _ w.toNat h.toNat (fun x y _ _ _ _ => rfl) h.toNat 0 (Int.le_refl _) (by omega)]
    rfl))
def lp27o (st : St) (R : Type) (K : Ex → St → Option R) : Option R := req (decide (st.length = 46)) (gI st 0 fun w => gI st 1 fun h => gQ st 5 fun r => gB st 6 fun z => gB st 8 fun t => gI st 9 fun y =>
  req (decide (y = 0) && decide (t.2.2.length = 0) && decide (0 ≤ w ∧ w ≤ 256 ∧ h ≤ 256)) (K (.exit 0) (mk 46 [(6, bB z), (8, bB (t.1, t.2.1, rowsG (recV r) w.toNat h.toNat 0))])))
def lp27i (st : St) (R : Type) (K : Ex → St → Option R) : Option R := req (decide (st.length = 46)) (gI st 0 fun w => gI st 1 fun h => gQ st 5 fun r => gB st 6 fun z => gB st 8 fun t => gI st 9 fun y => gI st 10 fun x =>
  req (decide (x = 0) && decide (t.2.2.length ≤ 65536) && decide (w ≤ 256)) (K (.exit 2) (mk 46 [(0, iv w), (1, iv h), (5, bQ r), (6, bB z), (8, bB (t.1, t.2.1, t.2.2 ++ rowG (recV r) y w.toNat 0)), (9, iv y)])))
def E27 : Env := { EG [(58, pS, sS2), (51, pT dQ, sp dQ fun a => bw (valid a)), (63, pT dQP, sp dQP fun a => bw (has a.1 a.2))] with lv := fun id => match id with | 0 => [0, 1, 5, 6, 8, 9] | _ => [0, 1, 5, 6, 8, 9, 10], lx := fun id => match id with | 0 => [6, 8] | _ => [0, 1, 5, 6, 8, 9], lp := fun id => match id with | 0 => lp27o | _ => lp27i }
def st27o (w h : Int) (r : Q) (z t : Mk) (y : Int) : St := mk 46 [(0, iv w), (1, iv h), (5, bQ r), (6, bB z), (8, bB t), (9, iv y)]
def st27i (w h : Int) (r : Q) (z t : Mk) (y x : Int) : St := mk 46 [(0, iv w), (1, iv h), (5, bQ r), (6, bB z), (8, bB t), (9, iv y), (10, iv x)]
def nx27 (w h : Int) (r : Q) (z t : Mk) (y x v : Int) : Option (Ex × St) := bif decide (0 < [v].length) && decide ((t.2.2 ++ [v]).length * 8 ≤ 140737488355328) then some (.normal, st27i w h r z (t.1, t.2.1, t.2.2 ++ [v]) y (W (x + 1))) else none
theorem b27i (w h : Int) (r : Q) (z t : Mk) (y x : Int) : evalCode E27 (loopAt Try.f27 1) 2 (st27i w h r z t y x) (kp E27 2) = bif decide (x < w) then bif has r (x, y) then nx27 w h r z t y x 65535 else nx27 w h r z t y x 0
    else some (.exit 2, st27o w h r z t y) := by kernel_rfl
theorem b27o (w h : Int) (r : Q) (z t : Mk) (y : Int) : evalCode E27 (loopAt Try.f27 0) 0 (st27o w h r z t y) (kp E27 0) = bif decide (y < h) then
    bif decide ((0 : Int) = 0) && decide (t.2.2.length ≤ 65536) && decide (w ≤ 256) then some (.normal, st27o w h r z (t.1, t.2.1, t.2.2 ++ rowG (recV r) y w.toNat 0) (W (y + 1))) else none
    else some (.exit 0, mk 46 [(6, bB z), (8, bB t)]) := by kernel_rfl
theorem t27 (w h a b c d : Int) : evalF E27 Try.f27 [iv w, iv h, q4 a b c d] = bif !(sizeE w h == 0) then omv (errM 15) else bif !valid (a, b, c, d) then omv (errM 2) else
    bif decide ((0 : Int) = 0) && decide ([].length (α := Int) = 0) && decide (0 ≤ w ∧ w ≤ 256 ∧ h ≤ 256) then omv ((w, h, rowsG (recV (a, b, c, d)) w.toNat h.toNat 0), 0) else none := by kernel_rfl
theorem runs27i (w h : Int) (r : Q) (z : Mk) (p q y : Int) (hw : w ≤ 256) : ∀ (k : Nat) (x : Int) (l : List Int), x + k = w ∨ (k = 0 ∧ w ≤ x) → 0 ≤ x → l.length + k ≤ 131072 →
    Runs E27 2 (loopAt Try.f27 1) (st27i w h r z (p, q, l) y x) (.exit 2) (st27o w h r z (p, q, l ++ rowG (recV r) y k x) y) := by
  intro k
  induction k with
  | zero =>
    intro x l hx _ _
    refine .stop ?_ (by simp)
    rw [b27i, decide_eq_false (by omega), rowG, List.append_nil]
    rfl
  | succ k ih =>
    intro x l hx h0 hl
    have hbd := b27i w h r z (p, q, l) y x
    have hn : ∀ v, nx27 w h r z (p, q, l) y x v = some (.normal, st27i w h r z (p, q, l ++ [v]) y (x + 1)) := by
      intro v
      have hlen : (l ++ [v]).length * 8 ≤ 140737488355328 := by rw [List.length_append, List.length_singleton]; omega
      unfold nx27
      rw [decide_eq_true hlen, W_small (n := x + 1) (by omega) (by omega)]
      rfl
    rw [decide_eq_true (by omega : x < w), hn, hn] at hbd
    have := ih (x + 1) (l ++ [recV r x y]) (by omega) (by omega) (by rw [List.length_append, List.length_singleton]; omega)
    rw [List.append_assoc] at this
    refine .step ?_ this
    rw [hbd]
    unfold recV
    cases has r (x, y) <;> rfl
theorem runs27o (w h : Int) (r : Q) (z : Mk) (p q : Int) (hr : 0 ≤ w ∧ w ≤ 256 ∧ h ≤ 256) : ∀ (k : Nat) (y : Int) (l : List Int), y + k = h ∨ (k = 0 ∧ h ≤ y) → 0 ≤ y → l.length + 256 * k ≤ 65536 →
    Runs E27 0 (loopAt Try.f27 0) (st27o w h r z (p, q, l) y) (.exit 0) (mk 46 [(6, bB z), (8, bB (p, q, l ++ rowsG (recV r) w.toNat k y))]) := by
  intro k
  induction k with
  | zero =>
    intro y l hx _ _
    refine .stop ?_ (by simp)
    rw [b27o, decide_eq_false (by omega), rowsG, List.append_nil]
    rfl
  | succ k ih =>
    intro y l hx h0 hl
    have hbd := b27o w h r z (p, q, l) y
    rw [decide_eq_true (by omega : y < h), decide_eq_true (by simp only; omega : (p, q, l).2.2.length ≤ 65536), decide_eq_true hr.2.1, W_small (n := y + 1) (by omega) (by omega)] at hbd
    have hl2 : (rowG (recV r) y w.toNat 0).length ≤ 256 := by rw [rowG_len]; omega
    have := ih (y + 1) (l ++ rowG (recV r) y w.toNat 0) (by omega) (by omega) (by rw [List.length_append]; omega)
    rw [List.append_assoc] at this
    exact .step hbd this
theorem loop27i : LoopOk E27 2 (loopAt Try.f27 1) := by
  intro st R K z h
  obtain ⟨hn, h⟩ := req_some h
  obtain ⟨w, e0, h⟩ := gI_some h
  obtain ⟨hh, e1, h⟩ := gI_some h
  obtain ⟨r, e2, h⟩ := gQ_some h
  obtain ⟨z0, e3, h⟩ := gB_some h
  obtain ⟨t, e4, h⟩ := gB_some h
  obtain ⟨y, e5, h⟩ := gI_some h
  obtain ⟨x, e6, h⟩ := gI_some h
  obtain ⟨hc, h⟩ := req_some h
  simp only [Bool.and_eq_true, decide_eq_true_eq] at hc
  obtain ⟨⟨h1, h2⟩, h3⟩ := hc
  rw [keep_mk (of_decide_eq_true hn)]
  have e := runs27i w hh r z0 t.1 t.2.1 y h3 w.toNat 0 t.2.2 (by omega) (Int.le_refl _) (by omega)
  have es : mk 46 ((E27.lv 2).map fun i => (i, getS (keep (E27.lv 2) st) i)) = st27i w hh r z0 (t.1, t.2.1, t.2.2) y 0 := by
    show mk 46 [(0, getS (keep (E27.lv 2) st) 0), (1, getS (keep (E27.lv 2) st) 1), (5, getS (keep (E27.lv 2) st) 5), (6, getS (keep (E27.lv 2) st) 6), (8, getS (keep (E27.lv 2) st) 8), (9, getS (keep (E27.lv 2) st) 9), (10, getS (keep (E27.lv 2) st) 10)] = _
    rw [e0, e1, e2, e3, e4, e5, e6, h1]
    rfl
  rw [es]
  exact ⟨_, _, e, h⟩
theorem loop27o : LoopOk E27 0 (loopAt Try.f27 0) := by
  intro st R K z h
  obtain ⟨hn, h⟩ := req_some h
  obtain ⟨w, e0, h⟩ := gI_some h
  obtain ⟨hh, e1, h⟩ := gI_some h
  obtain ⟨r, e2, h⟩ := gQ_some h
  obtain ⟨z0, e3, h⟩ := gB_some h
  obtain ⟨t, e4, h⟩ := gB_some h
  obtain ⟨y, e5, h⟩ := gI_some h
  obtain ⟨hc, h⟩ := req_some h
  simp only [Bool.and_eq_true, decide_eq_true_eq] at hc
  obtain ⟨⟨h1, h2⟩, h3⟩ := hc
  rw [keep_mk (of_decide_eq_true hn)]
  have e := runs27o w hh r z0 t.1 t.2.1 h3 hh.toNat 0 [] (by omega) (Int.le_refl _) (by rw [List.length_nil]; omega)
  have es : mk 46 ((E27.lv 0).map fun i => (i, getS (keep (E27.lv 0) st) i)) = st27o w hh r z0 (t.1, t.2.1, []) 0 := by
    show mk 46 [(0, getS (keep (E27.lv 0) st) 0), (1, getS (keep (E27.lv 0) st) 1), (5, getS (keep (E27.lv 0) st) 5), (6, getS (keep (E27.lv 0) st) 6), (8, getS (keep (E27.lv 0) st) 8), (9, getS (keep (E27.lv 0) st) 9)] = _
    rw [e0, e1, e2, e3, e4, e5, h1, ← List.length_eq_zero_iff.mp h2]
    rfl
  rw [es]
  exact ⟨_, _, e, h⟩
theorem loops27 : loopsOf Try.f27 = [(0, loopAt Try.f27 0), (2, loopAt Try.f27 1)] := by kernel_rfl
theorem m27 : Meets Try.prog 27 (gate (pT dIIQ) sRc) := mG (rdL (e := E27) rfl (eg_cons m58 (eg_cons m51 (eg_cons m63 eg_nil))) (fn := Try.f27) (k := 3) (by kernel_rfl) (by kernel_rfl) (of_decide_eq_true (by kernel_rfl)) loops27 (fun p hp => by
  rcases List.mem_cons.mp hp with h | h
  · cases h; exact loop27o
  · cases List.mem_singleton.mp h; exact loop27i)) (fun _ _ => hIIQ) (fun _ => ⟨rfl, Nat.le_refl _⟩)
  fun ⟨w, h, a, b, c, d⟩ _ => (t27 w h a b c d).trans ((err15b w h _).trans (rec_eq w h (a, b, c, d) _ fun hc => by
    have hs := (sizeE_iff w h).mp hc
    rw [decide_eq_true (by omega : 0 ≤ w ∧ w ≤ 256 ∧ h ≤ 256)]
    rfl))
end Go.Proofs.Ytkeildnpemiacaa.Ev

