/- Pixels: limits, fading and mixing, the program's own and the reference's. Conditions: none. -/
import Derived.Test.YtbgfgadekmemeaaDb
namespace Go.Proofs.Ytbgfgadekmemeaa.Ev
open Go.Proofs
set_option linter.unusedVariables false
set_option linter.unusedSimpArgs false
set_option maxRecDepth 100000
set_option maxHeartbeats 1000000

def mx (a b : Int) : Int := if b > a then b else a
def mn (a b : Int) : Int := if b < a then b else a
/-! ### Unit values -/
abbrev sClm : Spec := sp dIII fun a => iv (mn a.2.2 (mx a.1 a.2.1))
theorem t66' (a b c : Int) : evalF (EG []) Try.f66 [iv a, iv b, iv c] = oi (mn c (mx a b)) := by kernel_rfl
theorem m66' : Meets Try.prog 66 (gate (pT dIII) sClm) := mG (rdE eg_nil (fn := Try.f66) (k := 3) (by kernel_rfl) (by kernel_rfl) (of_decide_eq_true (by kernel_rfl)) (by kernel_rfl)) (fun _ _ => hIII) (fun _ => ⟨rfl, Nat.le_refl _⟩)
  fun ⟨a, b, c⟩ _ => t66' a b c
theorem t65 (a b c : Int) : evalF (EG []) Try.f65 [iv a, iv b, iv c] = oi (mn c (mx a b)) := by kernel_rfl
theorem m65 : Meets Try.prog 65 (gate (pT dIII) sClm) := mG (rdE eg_nil (fn := Try.f65) (k := 3) (by kernel_rfl) (by kernel_rfl) (of_decide_eq_true (by kernel_rfl)) (by kernel_rfl)) (fun _ _ => hIII) (fun _ => ⟨rfl, Nat.le_refl _⟩)
  fun ⟨a, b, c⟩ _ => t65 a b c
def un (x : Int) : Int := mn 65535 (mx x 0)
def lim (p : Q) : Q := (un p.1, un p.2.1, un p.2.2.1, un p.2.2.2)
abbrev sU : Spec := sp dI fun x => iv (un x)
abbrev sLi : Spec := sp dQ fun p => qv (lim p)
theorem un_ok (x : Int) : 0 ≤ un x ∧ un x ≤ 65535 := by unfold un mn mx; split <;> split <;> omega
theorem un_id {x : Int} (h : 0 ≤ x ∧ x ≤ 65535) : un x = x := by unfold un mn mx; split <;> split <;> omega
theorem t63 (x : Int) : evalF (EG [(66, pT dIII, sClm)]) Try.f63 [iv x] = oi (un x) := by kernel_rfl
theorem m63 : Meets Try.prog 63 (gate (pT dI) sU) := mG (rdE (eg_cons m66' eg_nil) (fn := Try.f63) (k := 1) (by kernel_rfl) (by kernel_rfl) (of_decide_eq_true (by kernel_rfl)) (by kernel_rfl)) (fun _ _ => hI) (fun _ => ⟨rfl, Nat.le_refl _⟩)
  fun x _ => t63 x
theorem t64 (x : Int) : evalF (EG []) Try.f64 [iv x] = oi (un x) := by kernel_rfl
theorem m64 : Meets Try.prog 64 (gate (pT dI) sU) := mG (rdE eg_nil (fn := Try.f64) (k := 1) (by kernel_rfl) (by kernel_rfl) (of_decide_eq_true (by kernel_rfl)) (by kernel_rfl)) (fun _ _ => hI) (fun _ => ⟨rfl, Nat.le_refl _⟩)
  fun x _ => t64 x
theorem t56 (x : Int) : evalF (EG [(65, pT dIII, sClm)]) Try.f56 [iv x] = oi (un x) := by kernel_rfl
theorem m56 : Meets Try.prog 56 (gate (pT dI) sU) := mG (rdE (eg_cons m65 eg_nil) (fn := Try.f56) (k := 1) (by kernel_rfl) (by kernel_rfl) (of_decide_eq_true (by kernel_rfl)) (by kernel_rfl)) (fun _ _ => hI) (fun _ => ⟨rfl, Nat.le_refl _⟩)
  fun x _ => t56 x
theorem t53 (a b c d : Int) : evalF (EG [(63, pT dI, sU)]) Try.f53 [q4 a b c d] = some (qv (lim (a, b, c, d)), []) := by kernel_rfl
theorem m53 : Meets Try.prog 53 (gate (pT dQ) sLi) := mG (rdE (eg_cons m63 eg_nil) (fn := Try.f53) (k := 1) (by kernel_rfl) (by kernel_rfl) (of_decide_eq_true (by kernel_rfl)) (by kernel_rfl)) (fun _ _ => hQ) (fun _ => ⟨rfl, Nat.le_refl _⟩)
  fun ⟨a, b, c, d⟩ _ => t53 a b c d
theorem t55 (a b c d : Int) : evalF (EG [(56, pT dI, sU)]) Try.f55 [q4 a b c d] = some (qv (lim (a, b, c, d)), []) := by kernel_rfl
theorem m55 : Meets Try.prog 55 (gate (pT dQ) sLi) := mG (rdE (eg_cons m56 eg_nil) (fn := Try.f55) (k := 1) (by kernel_rfl) (by kernel_rfl) (of_decide_eq_true (by kernel_rfl)) (by kernel_rfl)) (fun _ _ => hQ) (fun _ => ⟨rfl, Nat.le_refl _⟩)
  fun ⟨a, b, c, d⟩ _ => t55 a b c d
/-- A pixel is valid. -/
def pxv (p : Q) : Bool := p.1 == un p.1 && (p.2.1 == un p.2.1 && (p.2.2.1 == un p.2.2.1 && (p.2.2.2 == un p.2.2.2 && true)))
abbrev sPx : Spec := sp dQ fun p => bw (pxv p)
theorem t40 (a b c d : Int) : evalF (EG [(53, pT dQ, sLi)]) Try.f40 [q4 a b c d] = ob (pxv (a, b, c, d)) := by kernel_rfl
theorem m40 : Meets Try.prog 40 (gate (pT dQ) sPx) := mG (rdE (eg_cons m53 eg_nil) (fn := Try.f40) (k := 1) (by kernel_rfl) (by kernel_rfl) (of_decide_eq_true (by kernel_rfl)) (by kernel_rfl)) (fun _ _ => hQ) (fun _ => ⟨rfl, Nat.le_refl _⟩)
  fun ⟨a, b, c, d⟩ _ => t40 a b c d
theorem beq_comm' (a b : Int) : (a == b) = (b == a) := by
  by_cases h : a = b
  · subst h; rfl
  · rw [beq_eq_false_iff_ne.mpr h, beq_eq_false_iff_ne.mpr fun e => h e.symm]
theorem t42 (a b c d : Int) : evalF (EG [(55, pT dQ, sLi)]) Try.f42 [q4 a b c d] = ob (un a == a && (un b == b && (un c == c && (un d == d && true)))) := by kernel_rfl
theorem m42 : Meets Try.prog 42 (gate (pT dQ) sPx) := mG (rdE (eg_cons m55 eg_nil) (fn := Try.f42) (k := 1) (by kernel_rfl) (by kernel_rfl) (of_decide_eq_true (by kernel_rfl)) (by kernel_rfl)) (fun _ _ => hQ) (fun _ => ⟨rfl, Nat.le_refl _⟩)
  fun ⟨a, b, c, d⟩ _ => by
    refine (t42 a b c d).trans ?_
    rw [beq_comm' (un a), beq_comm' (un b), beq_comm' (un c), beq_comm' (un d)]
    rfl
/-! ### Fading -/
def okDv (a b : Int) : Bool := decide (0 ≤ a ∧ a ≤ 4503599627370496 ∧ 1 ≤ b ∧ b ≤ 1099511627776)
def mulU (a b : Int) : Int := divP (un a * un b) 65535
theorem mul_le {a b A B : Int} (ha : 0 ≤ a ∧ a ≤ A) (hb : 0 ≤ b ∧ b ≤ B) : 0 ≤ a * b ∧ a * b ≤ A * B := ⟨Int.mul_nonneg ha.1 hb.1, Int.mul_le_mul ha.2 hb.2 hb.1 (by omega)⟩
theorem t54 (a b : Int) : evalF (EG [(64, pT dI, sU)]) Try.f54 [iv a, iv b] = oi (W ((W (W (W (2 * un a) * un b) + 65535)).tdiv 131070)) := by kernel_rfl
theorem m54 : Meets Try.prog 54 (gate (pT dII) (sp dII fun a => iv (mulU a.1 a.2))) := mG (rdE (eg_cons m64 eg_nil) (fn := Try.f54) (k := 2) (by kernel_rfl) (by kernel_rfl) (of_decide_eq_true (by kernel_rfl)) (by kernel_rfl)) (fun _ _ => hII) (fun _ => ⟨rfl, Nat.le_refl _⟩)
  fun ⟨a, b⟩ _ => by
    refine (t54 a b).trans ?_
    have p := mul_le (un_ok a) (un_ok b)
    have e : 2 * un a * un b = 2 * (un a * un b) := Int.mul_assoc _ _ _
    rw [W_small (n := 2 * un a) (by have := un_ok a; omega) (by have := un_ok a; omega), e, W_small (n := 2 * (un a * un b)) (by omega) (by omega), W_small (n := 2 * (un a * un b) + 65535) (by omega) (by omega),
      Int.tdiv_eq_ediv_of_nonneg (by omega), W_small (n := (2 * (un a * un b) + 65535) / 131070) (by omega) (by omega)]
    rfl
def fadeP (p : Q) (x : Int) : Q := if mulU (un p.2.2.2) x = 0 then (0, 0, 0, 0) else (un p.1, un p.2.1, un p.2.2.1, mulU (un p.2.2.2) x)
@[reducible] def nPx (a : Q × Int) : List AV := [qv a.1, iv a.2]
def dPx : List AV → Option (Q × Int)
  | [.rv (.agg [.int .i64 a, .int .i64 b, .int .i64 c, .int .i64 d]), .rv (.sc (.int .i64 x))] => some ((a, b, c, d), x)
  | _ => none
theorem hPx {us : List AV} {a} (h : dPx us = some a) : us = nPx a := by unfold dPx at h; split at h <;> cases h; rfl
abbrev sFd : Spec := sp dPx fun a => qv (fadeP a.1 a.2)
theorem t41 (a b c d x : Int) : evalF (EG [(53, pT dQ, sLi), (54, pT dII, sp dII fun a => iv (mulU a.1 a.2))]) Try.f41 [q4 a b c d, iv x] = bif mulU (un d) x == 0 then some (q4 0 0 0 0, []) else some (q4 (un a) (un b) (un c) (mulU (un d) x), []) := by kernel_rfl
theorem m41 : Meets Try.prog 41 (gate (pT dPx) sFd) := mG (rdE (eg_cons m53 (eg_cons m54 eg_nil)) (fn := Try.f41) (k := 2) (by kernel_rfl) (by kernel_rfl) (of_decide_eq_true (by kernel_rfl)) (by kernel_rfl)) (fun _ _ => hPx) (fun _ => ⟨rfl, Nat.le_refl _⟩)
  fun ⟨⟨a, b, c, d⟩, x⟩ _ => by
    refine (t41 a b c d x).trans ?_
    show _ = some (qv (fadeP (a, b, c, d) x), [])
    unfold fadeP
    by_cases h : mulU (un d) x = 0
    · rw [if_pos h, beq_iff_eq.mpr h]; rfl
    · rw [if_neg h, beq_eq_false_iff_ne.mpr h]; rfl
theorem t43 (a b c d x : Int) : evalF (EG [(55, pT dQ, sLi), (56, pT dI, sU), (52, pD, sp dII fun a => iv (divP a.1 a.2))]) Try.f43 [q4 a b c d, iv x] = bif okDv (W (un d * un x)) 65535 then
    bif divP (W (un d * un x)) 65535 == 0 then some (q4 0 0 0 0, []) else some (q4 (un a) (un b) (un c) (divP (W (un d * un x)) 65535), []) else none := by kernel_rfl
theorem m43 : Meets Try.prog 43 (gate (pT dPx) sFd) := mG (rdE (eg_cons m55 (eg_cons m56 (eg_cons mRDiv eg_nil))) (fn := Try.f43) (k := 2) (by kernel_rfl) (by kernel_rfl) (of_decide_eq_true (by kernel_rfl)) (by kernel_rfl)) (fun _ _ => hPx) (fun _ => ⟨rfl, Nat.le_refl _⟩)
  fun ⟨⟨a, b, c, d⟩, x⟩ _ => by
    refine (t43 a b c d x).trans ?_
    have p := mul_le (un_ok d) (un_ok x)
    have e : divP (un d * un x) 65535 = mulU (un d) x := by unfold mulU; rw [un_id (un_ok d)]
    show _ = some (qv (fadeP (a, b, c, d) x), [])
    rw [W_small (n := un d * un x) (by omega) (by omega), e, show okDv (un d * un x) 65535 = true from decide_eq_true (by omega)]
    unfold fadeP
    simp only [cond_true]
    by_cases h : mulU (un d) x = 0
    · rw [if_pos h, beq_iff_eq.mpr h]; rfl
    · rw [if_neg h, beq_eq_false_iff_ne.mpr h]; rfl
@[reducible] def bIm (m : Im) : AV := .box 43 [.int .i64 m.1, .int .i64 m.2.1, .sl none (.quads m.2.2)]
@[reducible] def bIB (m : Im) : AV := .box 43 [.int .i64 m.1, .int .i64 m.2.1, .sl (some 40) (.quads m.2.2)]
@[reducible] def qsv (l : List Q) : AV := .rv (.sc (.sl none (.quads l)))
def gIm (st : St) (t : Nat) {R : Type} (K : Im → Option R) : Option R := match getS st t with
  | .box 43 [.int .i64 a, .int .i64 b, .sl none (.quads l)] => K (a, b, l)
  | _ => none
def gIB (st : St) (t : Nat) {R : Type} (K : Im → Option R) : Option R := match getS st t with
  | .box 43 [.int .i64 a, .int .i64 b, .sl (some 40) (.quads l)] => K (a, b, l)
  | _ => none
def gQs (st : St) (t : Nat) {R : Type} (K : List Q → Option R) : Option R := match getS st t with
  | .rv (.sc (.sl none (.quads l))) => K l
  | _ => none
section
variable {st : St} {t : Nat} {R : Type} {r : R}
theorem gIm_some {K : Im → Option R} (h : gIm st t K = some r) : ∃ n, getS st t = bIm n ∧ K n = some r := by
  unfold gIm at h
  split at h
  · exact ⟨(_, _, _), ‹_›, h⟩
  · cases h
theorem gIB_some {K : Im → Option R} (h : gIB st t K = some r) : ∃ n, getS st t = bIB n ∧ K n = some r := by
  unfold gIB at h
  split at h
  · exact ⟨(_, _, _), ‹_›, h⟩
  · cases h
theorem gQs_some {K : List Q → Option R} (h : gQs st t K = some r) : ∃ n, getS st t = qsv n ∧ K n = some r := by
  unfold gQs at h
  split at h
  · exact ⟨_, ‹_›, h⟩
  · cases h
end

end Go.Proofs.Ytbgfgadekmemeaa.Ev
