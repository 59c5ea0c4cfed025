/- Combining and inverting masks, the program's own. Conditions: none. -/
import Derived.Test.YtkeildnpemiacaaMe
namespace Go.Proofs.Ytkeildnpemiacaa.Ev
open Go.Proofs
set_option linter.unusedVariables false
set_option linter.unusedSimpArgs false
set_option maxRecDepth 100000
set_option maxHeartbeats 1000000

/-! ### Rows of values -/
def seqL (v : Nat → Int) : Nat → Nat → List Int
  | 0, _ => []
  | k + 1, i => v i :: seqL v k (i + 1)
theorem seqL_len (v : Nat → Int) : ∀ (k i : Nat), (seqL v k i).length = k
  | 0, _ => rfl
  | k + 1, i => by rw [seqL, List.length_cons, seqL_len v k]
theorem seqL_append (v : Nat → Int) : ∀ (a b i : Nat), seqL v (a + b) i = seqL v a i ++ seqL v b (i + a)
  | 0, b, i => by rw [Nat.zero_add]; rfl
  | a + 1, b, i => by rw [Nat.succ_add, seqL, seqL, seqL_append v a b (i + 1), List.cons_append, Nat.add_assoc i 1 a, Nat.add_comm 1 a]
theorem seqL_congr {v v' : Nat → Int} : ∀ (k i : Nat), (∀ j, i ≤ j → j < i + k → v j = v' j) → seqL v k i = seqL v' k i
  | 0, _, _ => rfl
  | k + 1, i, h => by rw [seqL, seqL, h i (Nat.le_refl _) (by omega), seqL_congr k (i + 1) fun j h1 h2 => h j (by omega) (by omega)]
theorem seqL_get (v : Nat → Int) : ∀ (k i j : Nat), j < k → (seqL v k i).getD j 0 = v (i + j)
  | 0, _, _, h => absurd h (by omega)
  | k + 1, i, 0, _ => rfl
  | k + 1, i, j + 1, h => by
    rw [seqL]
    have := seqL_get v k (i + 1) j (by omega)
    rw [show i + (j + 1) = i + 1 + j by omega, ← this]
    rfl
theorem seqL_id : ∀ (l : List Int) (p : List Int), seqL (fun k => (p ++ l).getD k 0) l.length p.length = l
  | [], _ => rfl
  | a :: l, p => by
    rw [List.length_cons, seqL]
    have h1 : (p ++ a :: l).getD p.length 0 = a := by rw [List.getD_eq_getElem?_getD, List.getElem?_append_right (Nat.le_refl _), Nat.sub_self]; rfl
    have h2 := seqL_id l (p ++ [a])
    rw [List.append_assoc, List.length_append] at h2
    rw [h1]
    exact congrArg (a :: ·) h2
theorem rowG_seq (v : Nat → Int) (g : Int → Int → Int) (w y : Nat) (hg : ∀ x : Nat, x < w → g x y = v (y * w + x)) : ∀ (k x : Nat), x + k = w → rowG g y k x = seqL v k (y * w + x)
  | 0, _, _ => rfl
  | k + 1, x, h => by
    rw [rowG, seqL, hg x (by omega)]
    have := rowG_seq v g w y hg k (x + 1) (by omega)
    rw [show ((x : Int) + 1) = ((x + 1 : Nat) : Int) by omega, this]
    rfl
theorem rowsG_seq (v : Nat → Int) (g : Int → Int → Int) (w h : Nat) (hg : ∀ x y : Nat, x < w → y < h → g x y = v (y * w + x)) : ∀ (k y : Nat), y + k = h → rowsG g w k y = seqL v (w * k) (y * w)
  | 0, _, _ => rfl
  | k + 1, y, hh => by
    have h1 := rowG_seq v g w y (fun x hx => hg x y hx (by omega)) w 0 (by omega)
    have h2 := rowsG_seq v g w h hg k (y + 1) (by omega)
    rw [rowsG, show ((0 : Int)) = ((0 : Nat) : Int) from rfl, h1, show ((y : Int) + 1) = ((y + 1 : Nat) : Int) by omega, h2, Nat.mul_succ, Nat.add_comm (w * k), seqL_append, Nat.succ_mul]
    rfl
theorem okR_of (F : Fn2) (y : Int) (w : Nat) (h : ∀ x : Int, 0 ≤ x → x < w → okInt .i64 (F [.int .i64 x, .int .i64 y]) = true) : ∀ (k : Nat) (x : Int), 0 ≤ x → x + k ≤ w → okR F y k x = true
  | 0, _, _, _ => rfl
  | k + 1, x, h0, h1 => by rw [okR, h x h0 (by omega), okR_of F y w h k (x + 1) (by omega) (by omega)]; rfl
theorem okRs_of (F : Fn2) (w h : Nat) (hF : ∀ x y : Int, 0 ≤ x → x < w → 0 ≤ y → y < h → okInt .i64 (F [.int .i64 x, .int .i64 y]) = true) : ∀ (k : Nat) (y : Int), 0 ≤ y → y + k ≤ h → okRs F w k y = true
  | 0, _, _, _ => rfl
  | k + 1, y, h0, h1 => by rw [okRs, okR_of F y w (fun x a b => hF x y a b h0 (by omega)) w 0 (Int.le_refl _) (by omega), okRs_of F w h hF k (y + 1) (by omega) (by omega)]; rfl
def mx (a b : Int) : Int := if b > a then b else a
def mn (a b : Int) : Int := if b < a then b else a
def valP (m : Mk) (x y : Int) : Int := if m.1 = 0 then 65535 else m.2.2.getD (W (W (y * m.1) + x)).toNat 0
abbrev pV : List AV → Bool := ps dMII fun a => decide (a.1.1 = 0 ∨ 0 ≤ W (W (a.2.2 * a.1.1) + a.2.1) ∧ W (W (a.2.2 * a.1.1) + a.2.1) < (a.1.2.2.length : Int))
abbrev sV : Spec := sp dMII fun a => iv (valP a.1 a.2.1 a.2.2)
def combV (how p q : Int) : Int := if how = 1 then mx p q else if how = 2 then mn p (W (65535 - q)) else if how = 3 then mn p q else if how = 4 then mx (W (p - q)) (W (q - p)) else q
@[reducible] def nKc (m : Int × Int × Mk × Mk × Int) : List AV := [iv m.1, iv m.2.1, .cbox 32 [.fnc 81], cm m.2.2.1.1 m.2.2.1.2.1 m.2.2.1.2.2, cm m.2.2.2.1.1 m.2.2.2.1.2.1 m.2.2.2.1.2.2, ci m.2.2.2.2]
def dKc : List AV → Option (Int × Int × Mk × Mk × Int)
  | [.rv (.sc (.int .i64 x)), .rv (.sc (.int .i64 y)), .cbox 32 [.fnc 81], .cbox 24 [.int .i64 a, .int .i64 b, .sl none (.ints l)], .cbox 24 [.int .i64 a', .int .i64 b', .sl none (.ints l')], .cbox 3 [.int .i64 h]] => some (x, y, (a, b, l), (a', b', l'), h)
  | _ => none
theorem hKc {us : List AV} {a} (h : dKc us = some a) : us = nKc a := by unfold dKc at h; split at h <;> cases h; rfl
def L82 : List Entry := [(81, pV, sV)]
theorem t81 (w h : Int) (l : List Int) (x y : Int) : evalF (EG []) Try.f81 [mk3 w h l, iv x, iv y] = bif w == 0 then oi 65535 else bif decide (0 ≤ W (W (y * w) + x)) && decide (W (W (y * w) + x) < (l.length : Int)) then oi (l.getD (W (W (y * w) + x)).toNat 0) else none := by kernel_rfl
theorem m81 : Meets Try.prog 81 (gate pV sV) := mG (rdE eg_nil (fn := Try.f81) (k := 3) (by kernel_rfl) (by kernel_rfl) (of_decide_eq_true (by kernel_rfl)) (by kernel_rfl)) (fun _ _ => hMII) (fun _ => ⟨rfl, Nat.le_refl _⟩)
  fun ⟨⟨w, h, l⟩, x, y⟩ hp => by
    have hp := of_decide_eq_true hp
    simp only at hp
    refine (t81 w h l x y).trans ?_
    unfold valP
    simp only
    by_cases c : w = 0
    · rw [if_pos c, beq_iff_eq.mpr c]; rfl
    · rw [if_neg c, beq_eq_false_iff_ne.mpr c, decide_eq_true (hp.resolve_left c).1, decide_eq_true (hp.resolve_left c).2]; rfl
theorem g82 : ∀ f, Meets Try.prog f ((EG L82).sp f) := eg_cons m81 eg_nil
def okV (m : Mk) (x y : Int) : Bool := decide (m.1 = 0 ∨ 0 ≤ W (W (y * m.1) + x) ∧ W (W (y * m.1) + x) < (m.2.2.length : Int))
theorem t82 (x y : Int) (a b a' b' : Int) (l l' : List Int) (h : Int) : evalF (EG L82) Try.f82 (nKc (x, y, (a, b, l), (a', b', l'), h)) =
    bif okV (a, b, l) x y then bif okV (a', b', l') x y then
      bif h == 1 then oi (mx (valP (a, b, l) x y) (valP (a', b', l') x y)) else bif h == 2 then oi (mn (valP (a, b, l) x y) (W (65535 - valP (a', b', l') x y))) else bif h == 3 then oi (mn (valP (a, b, l) x y) (valP (a', b', l') x y)) else
      bif h == 4 then oi (mx (W (valP (a, b, l) x y - valP (a', b', l') x y)) (W (valP (a', b', l') x y - valP (a, b, l) x y))) else oi (valP (a', b', l') x y)
    else none else none := by kernel_rfl
abbrev pKc : List AV → Bool := ps dKc fun a => okV a.2.2.1 a.1 a.2.1 && okV a.2.2.2.1 a.1 a.2.1
abbrev sKc : Spec := sp dKc fun a => iv (combV a.2.2.2.2 (valP a.2.2.1 a.1 a.2.1) (valP a.2.2.2.1 a.1 a.2.1))
theorem m82 : Meets Try.prog 82 (gate pKc sKc) := mG (rdE g82 (fn := Try.f82) (k := 6) (by kernel_rfl) (by kernel_rfl) (of_decide_eq_true (by kernel_rfl)) (by kernel_rfl)) (fun _ _ => hKc) (fun _ => ⟨rfl, Nat.le_refl _⟩)
  fun ⟨x, y, ⟨a, b, l⟩, ⟨a', b', l'⟩, h⟩ hp => by
    have hp : (okV (a, b, l) x y && okV (a', b', l') x y) = true := hp
    rw [Bool.and_eq_true] at hp
    refine (t82 x y a b a' b' l l' h).trans ?_
    rw [hp.1, hp.2]
    simp only [cond_true, combV, cond_eq_ite, beq_iff_eq]
    repeat' split
    all_goals first | rfl | exact absurd trivial ‹¬True›
def errM (e : Int) : Mk × Int := ((0, 0, []), e)
def clashS (a b : Mk) : Bool := decide (a.1 ≠ 0 ∧ b.1 ≠ 0 ∧ (a.1 ≠ b.1 ∨ a.2.1 ≠ b.2.1))
@[reducible] def omv (x : Mk × Int) : Option (AV × List AV) := some (mev x, [])
def L42 (ck : Mk → Int) : List Entry := [(30, pT dM, sp dM fun m => iv (ck m)), (48, pF, sF), (82, pKc, sKc)]
@[reducible] def F82 (ck : Mk → Int) (a b : Mk) (h : Int) : Fn2 := closure ((EG (L42 ck)).ctx #[]) 82 [.cbox 32 [.fnc 81], cm a.1 a.2.1 a.2.2, cm b.1 b.2.1 b.2.2, ci h]
theorem t42 (ck : Mk → Int) (a b a' b' : Int) (l l' : List Int) (h : Int) : evalF (EG (L42 ck)) Try.f42 [mk3 a b l, mk3 a' b' l', iv h] =
    bif ck (a, b, l) != 0 then omv (errM (ck (a, b, l))) else bif ck (a', b', l') != 0 then omv (errM (ck (a', b', l'))) else bif decide (h < 0) then omv (errM 8) else bif decide (h > 4) then omv (errM 8) else
    bif a != 0 then bif a' != 0 then bif a != a' then omv (errM 15) else bif b != b' then omv (errM 15) else
        bif decide (0 ≤ mx a a' ∧ mx a a' ≤ 256 ∧ mx b b' ≤ 256) && okRs (F82 ck (a, b, l) (a', b', l') h) (mx a a').toNat (mx b b').toNat 0 then omv ((mx a a', mx b b', rowsG (fI (F82 ck (a, b, l) (a', b', l') h)) (mx a a').toNat (mx b b').toNat 0), 0) else none
      else bif decide (0 ≤ mx a a' ∧ mx a a' ≤ 256 ∧ mx b b' ≤ 256) && okRs (F82 ck (a, b, l) (a', b', l') h) (mx a a').toNat (mx b b').toNat 0 then omv ((mx a a', mx b b', rowsG (fI (F82 ck (a, b, l) (a', b', l') h)) (mx a a').toNat (mx b b').toNat 0), 0) else none
    else bif decide (0 ≤ mx a a' ∧ mx a a' ≤ 256 ∧ mx b b' ≤ 256) && okRs (F82 ck (a, b, l) (a', b', l') h) (mx a a').toNat (mx b b').toNat 0 then omv ((mx a a', mx b b', rowsG (fI (F82 ck (a, b, l) (a', b', l') h)) (mx a a').toNat (mx b b').toNat 0), 0) else none := by kernel_rfl
theorem t83 (x y a b : Int) (l : List Int) : evalF (EG [(50, pG, sG)]) Try.f83 (nKm (x, y, a, b, l)) = bif okSize (a, b, l) then oi (W (65535 - getM (a, b, l) x y)) else none := by kernel_rfl
theorem m83 : Meets Try.prog 83 (gate (ps dKm fun a => okSize a.2.2) (sp dKm fun a => iv (W (65535 - getM a.2.2 a.1 a.2.1)))) := mG (rdE (eg_cons m50 eg_nil) (fn := Try.f83) (k := 3) (by kernel_rfl) (by kernel_rfl) (of_decide_eq_true (by kernel_rfl)) (by kernel_rfl)) (fun _ _ => hKm) (fun _ => ⟨rfl, Nat.le_refl _⟩)
  fun ⟨x, y, a, b, l⟩ hp => by
    have hp : okSize (a, b, l) = true := hp
    refine (t83 x y a b l).trans ?_
    rw [hp]; rfl
def L44 (ck : Mk → Int) : List Entry := [(30, pT dM, sp dM fun m => iv (ck m)), (48, pF, sF), (83, ps dKm fun a => okSize a.2.2, sp dKm fun a => iv (W (65535 - getM a.2.2 a.1 a.2.1)))]
@[reducible] def F83 (ck : Mk → Int) (a : Mk) : Fn2 := closure ((EG (L44 ck)).ctx #[]) 83 [cm a.1 a.2.1 a.2.2]
theorem t44 (ck : Mk → Int) (a b : Int) (l : List Int) : evalF (EG (L44 ck)) Try.f44 [mk3 a b l] = bif ck (a, b, l) != 0 then omv (errM (ck (a, b, l))) else
    bif decide (0 ≤ a ∧ a ≤ 256 ∧ b ≤ 256) && okRs (F83 ck (a, b, l)) a.toNat b.toNat 0 then omv ((a, b, rowsG (fI (F83 ck (a, b, l))) a.toNat b.toNat 0), 0) else none := by kernel_rfl
end Go.Proofs.Ytkeildnpemiacaa.Ev
