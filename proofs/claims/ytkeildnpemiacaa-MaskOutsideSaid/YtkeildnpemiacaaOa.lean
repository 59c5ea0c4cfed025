/- Pixels: limits, fading and mixing, the program's own and the reference's. Conditions: none. -/
import Derived.Test.YtkeildnpemiacaaMp2
namespace Go.Proofs.Ytkeildnpemiacaa.Ev
open Go.Proofs
set_option linter.unusedVariables false
set_option linter.unusedSimpArgs false
set_option maxRecDepth 100000
set_option maxHeartbeats 1000000

/-! ### Unit values -/
abbrev sClm : Spec := sp dIII fun a => iv (mn a.2.2 (mx a.1 a.2.1))
theorem t71' (a b c : Int) : evalF (EG []) Try.f71 [iv a, iv b, iv c] = oi (mn c (mx a b)) := by kernel_rfl
theorem m71' : Meets Try.prog 71 (gate (pT dIII) sClm) := mG (rdE eg_nil (fn := Try.f71) (k := 3) (by kernel_rfl) (by kernel_rfl) (of_decide_eq_true (by kernel_rfl)) (by kernel_rfl)) (fun _ _ => hIII) (fun _ => ⟨rfl, Nat.le_refl _⟩)
  fun ⟨a, b, c⟩ _ => t71' a b c
theorem t108 (a b c : Int) : evalF (EG []) Try.f108 [iv a, iv b, iv c] = oi (mn c (mx a b)) := by kernel_rfl
theorem m108 : Meets Try.prog 108 (gate (pT dIII) sClm) := mG (rdE eg_nil (fn := Try.f108) (k := 3) (by kernel_rfl) (by kernel_rfl) (of_decide_eq_true (by kernel_rfl)) (by kernel_rfl)) (fun _ _ => hIII) (fun _ => ⟨rfl, Nat.le_refl _⟩)
  fun ⟨a, b, c⟩ _ => t108 a b c
def un (x : Int) : Int := mn 65535 (mx x 0)
def lim (p : Q) : Q := (un p.1, un p.2.1, un p.2.2.1, un p.2.2.2)
abbrev sU : Spec := sp dI fun x => iv (un x)
abbrev sLi : Spec := sp dQ fun p => qv (lim p)
theorem un_ok (x : Int) : 0 ≤ un x ∧ un x ≤ 65535 := by unfold un mn mx; split <;> split <;> omega
theorem un_id {x : Int} (h : 0 ≤ x ∧ x ≤ 65535) : un x = x := by unfold un mn mx; split <;> split <;> omega
theorem t103 (x : Int) : evalF (EG [(71, pT dIII, sClm)]) Try.f103 [iv x] = oi (un x) := by kernel_rfl
theorem m103 : Meets Try.prog 103 (gate (pT dI) sU) := mG (rdE (eg_cons m71' eg_nil) (fn := Try.f103) (k := 1) (by kernel_rfl) (by kernel_rfl) (of_decide_eq_true (by kernel_rfl)) (by kernel_rfl)) (fun _ _ => hI) (fun _ => ⟨rfl, Nat.le_refl _⟩)
  fun x _ => t103 x
theorem t107 (x : Int) : evalF (EG []) Try.f107 [iv x] = oi (un x) := by kernel_rfl
theorem m107 : Meets Try.prog 107 (gate (pT dI) sU) := mG (rdE eg_nil (fn := Try.f107) (k := 1) (by kernel_rfl) (by kernel_rfl) (of_decide_eq_true (by kernel_rfl)) (by kernel_rfl)) (fun _ _ => hI) (fun _ => ⟨rfl, Nat.le_refl _⟩)
  fun x _ => t107 x
theorem t102 (x : Int) : evalF (EG [(108, pT dIII, sClm)]) Try.f102 [iv x] = oi (un x) := by kernel_rfl
theorem m102 : Meets Try.prog 102 (gate (pT dI) sU) := mG (rdE (eg_cons m108 eg_nil) (fn := Try.f102) (k := 1) (by kernel_rfl) (by kernel_rfl) (of_decide_eq_true (by kernel_rfl)) (by kernel_rfl)) (fun _ _ => hI) (fun _ => ⟨rfl, Nat.le_refl _⟩)
  fun x _ => t102 x
theorem t98 (a b c d : Int) : evalF (EG [(103, pT dI, sU)]) Try.f98 [q4 a b c d] = some (qv (lim (a, b, c, d)), []) := by kernel_rfl
theorem m98 : Meets Try.prog 98 (gate (pT dQ) sLi) := mG (rdE (eg_cons m103 eg_nil) (fn := Try.f98) (k := 1) (by kernel_rfl) (by kernel_rfl) (of_decide_eq_true (by kernel_rfl)) (by kernel_rfl)) (fun _ _ => hQ) (fun _ => ⟨rfl, Nat.le_refl _⟩)
  fun ⟨a, b, c, d⟩ _ => t98 a b c d
theorem t101 (a b c d : Int) : evalF (EG [(102, pT dI, sU)]) Try.f101 [q4 a b c d] = some (qv (lim (a, b, c, d)), []) := by kernel_rfl
theorem m101 : Meets Try.prog 101 (gate (pT dQ) sLi) := mG (rdE (eg_cons m102 eg_nil) (fn := Try.f101) (k := 1) (by kernel_rfl) (by kernel_rfl) (of_decide_eq_true (by kernel_rfl)) (by kernel_rfl)) (fun _ _ => hQ) (fun _ => ⟨rfl, Nat.le_refl _⟩)
  fun ⟨a, b, c, d⟩ _ => t101 a b c d
/-- A pixel is valid. -/
def pxv (p : Q) : Bool := p.1 == un p.1 && (p.2.1 == un p.2.1 && (p.2.2.1 == un p.2.2.1 && (p.2.2.2 == un p.2.2.2 && true)))
abbrev sPx : Spec := sp dQ fun p => bw (pxv p)
theorem t97 (a b c d : Int) : evalF (EG [(98, pT dQ, sLi)]) Try.f97 [q4 a b c d] = ob (pxv (a, b, c, d)) := by kernel_rfl
theorem m97 : Meets Try.prog 97 (gate (pT dQ) sPx) := mG (rdE (eg_cons m98 eg_nil) (fn := Try.f97) (k := 1) (by kernel_rfl) (by kernel_rfl) (of_decide_eq_true (by kernel_rfl)) (by kernel_rfl)) (fun _ _ => hQ) (fun _ => ⟨rfl, Nat.le_refl _⟩)
  fun ⟨a, b, c, d⟩ _ => t97 a b c d
theorem beq_comm' (a b : Int) : (a == b) = (b == a) := by
  by_cases h : a = b
  · subst h; rfl
  · rw [beq_eq_false_iff_ne.mpr h, beq_eq_false_iff_ne.mpr fun e => h e.symm]
theorem t100 (a b c d : Int) : evalF (EG [(101, pT dQ, sLi)]) Try.f100 [q4 a b c d] = ob (un a == a && (un b == b && (un c == c && (un d == d && true)))) := by kernel_rfl
theorem m100 : Meets Try.prog 100 (gate (pT dQ) sPx) := mG (rdE (eg_cons m101 eg_nil) (fn := Try.f100) (k := 1) (by kernel_rfl) (by kernel_rfl) (of_decide_eq_true (by kernel_rfl)) (by kernel_rfl)) (fun _ _ => hQ) (fun _ => ⟨rfl, Nat.le_refl _⟩)
  fun ⟨a, b, c, d⟩ _ => by
    refine (t100 a b c d).trans ?_
    rw [beq_comm' (un a), beq_comm' (un b), beq_comm' (un c), beq_comm' (un d)]
    rfl
/-! ### Fading -/
def okDv (a b : Int) : Bool := decide (0 ≤ a ∧ a ≤ 4503599627370496 ∧ 1 ≤ b ∧ b ≤ 1099511627776)
def mulU (a b : Int) : Int := divP (un a * un b) 65535
theorem mul_le {a b A B : Int} (ha : 0 ≤ a ∧ a ≤ A) (hb : 0 ≤ b ∧ b ≤ B) : 0 ≤ a * b ∧ a * b ≤ A * B := ⟨Int.mul_nonneg ha.1 hb.1, Int.mul_le_mul ha.2 hb.2 hb.1 (by omega)⟩
theorem t99 (a b : Int) : evalF (EG [(107, pT dI, sU)]) Try.f99 [iv a, iv b] = oi (W ((W (W (W (2 * un a) * un b) + 65535)).tdiv 131070)) := by kernel_rfl
theorem m99 : Meets Try.prog 99 (gate (pT dII) (sp dII fun a => iv (mulU a.1 a.2))) := mG (rdE (eg_cons m107 eg_nil) (fn := Try.f99) (k := 2) (by kernel_rfl) (by kernel_rfl) (of_decide_eq_true (by kernel_rfl)) (by kernel_rfl)) (fun _ _ => hII) (fun _ => ⟨rfl, Nat.le_refl _⟩)
  fun ⟨a, b⟩ _ => by
    refine (t99 a b).trans ?_
    have p := mul_le (un_ok a) (un_ok b)
    have e : 2 * un a * un b = 2 * (un a * un b) := Int.mul_assoc _ _ _
    rw [W_small (n := 2 * un a) (by have := un_ok a; omega) (by have := un_ok a; omega), e, W_small (n := 2 * (un a * un b)) (by omega) (by omega), W_small (n := 2 * (un a * un b) + 65535) (by omega) (by omega),
      Int.tdiv_eq_ediv_of_nonneg (by omega), W_small (n := (2 * (un a * un b) + 65535) / 131070) (by omega) (by omega)]
    rfl
def fadeP (p : Q) (x : Int) : Q := if mulU (un p.2.2.2) x = 0 then (0, 0, 0, 0) else (un p.1, un p.2.1, un p.2.2.1, mulU (un p.2.2.2) x)
@[reducible] def nPx (a : Q × Int) : List AV := [qv a.1, iv a.2]
def dPx : List AV → Option (Q × Int)
  | [.rv (.agg [.int .i64 a, .int .i64 b, .int .i64 c, .int .i64 d]), .rv (.sc (.int .i64 x))] => some ((a, b, c, d), x)
  | _ => none
theorem hPx {us : List AV} {a} (h : dPx us = some a) : us = nPx a := by unfold dPx at h; split at h <;> cases h; rfl
abbrev sFd : Spec := sp dPx fun a => qv (fadeP a.1 a.2)
theorem t76 (a b c d x : Int) : evalF (EG [(98, pT dQ, sLi), (99, pT dII, sp dII fun a => iv (mulU a.1 a.2))]) Try.f76 [q4 a b c d, iv x] = bif mulU (un d) x == 0 then some (q4 0 0 0 0, []) else some (q4 (un a) (un b) (un c) (mulU (un d) x), []) := by kernel_rfl
theorem m76 : Meets Try.prog 76 (gate (pT dPx) sFd) := mG (rdE (eg_cons m98 (eg_cons m99 eg_nil)) (fn := Try.f76) (k := 2) (by kernel_rfl) (by kernel_rfl) (of_decide_eq_true (by kernel_rfl)) (by kernel_rfl)) (fun _ _ => hPx) (fun _ => ⟨rfl, Nat.le_refl _⟩)
  fun ⟨⟨a, b, c, d⟩, x⟩ _ => by
    refine (t76 a b c d x).trans ?_
    show _ = some (qv (fadeP (a, b, c, d) x), [])
    unfold fadeP
    by_cases h : mulU (un d) x = 0
    · rw [if_pos h, beq_iff_eq.mpr h]; rfl
    · rw [if_neg h, beq_eq_false_iff_ne.mpr h]; rfl
theorem t78 (a b c d x : Int) : evalF (EG [(101, pT dQ, sLi), (102, pT dI, sU), (68, pD, sp dII fun a => iv (divP a.1 a.2))]) Try.f78 [q4 a b c d, iv x] = bif okDv (W (un d * un x)) 65535 then
    bif divP (W (un d * un x)) 65535 == 0 then some (q4 0 0 0 0, []) else some (q4 (un a) (un b) (un c) (divP (W (un d * un x)) 65535), []) else none := by kernel_rfl
theorem m78 : Meets Try.prog 78 (gate (pT dPx) sFd) := mG (rdE (eg_cons m101 (eg_cons m102 (eg_cons m68 eg_nil))) (fn := Try.f78) (k := 2) (by kernel_rfl) (by kernel_rfl) (of_decide_eq_true (by kernel_rfl)) (by kernel_rfl)) (fun _ _ => hPx) (fun _ => ⟨rfl, Nat.le_refl _⟩)
  fun ⟨⟨a, b, c, d⟩, x⟩ _ => by
    refine (t78 a b c d x).trans ?_
    have p := mul_le (un_ok d) (un_ok x)
    have e : divP (un d * un x) 65535 = mulU (un d) x := by unfold mulU; rw [un_id (un_ok d)]
    show _ = some (qv (fadeP (a, b, c, d) x), [])
    rw [W_small (n := un d * un x) (by omega) (by omega), e, show okDv (un d * un x) 65535 = true from decide_eq_true (by omega)]
    unfold fadeP
    simp only [cond_true]
    by_cases h : mulU (un d) x = 0
    · rw [if_pos h, beq_iff_eq.mpr h]; rfl
    · rw [if_neg h, beq_eq_false_iff_ne.mpr h]; rfl
/-! ### Mixing -/
@[reducible] def nKb (a : Int × Int × Int × Int × Int) : List AV := [iv a.1, iv a.2.1, ci a.2.2.1, ci a.2.2.2.1, ci a.2.2.2.2]
def dKb : List AV → Option (Int × Int × Int × Int × Int)
  | [.rv (.sc (.int .i64 x)), .rv (.sc (.int .i64 y)), .cbox 3 [.int .i64 p], .cbox 3 [.int .i64 q], .cbox 3 [.int .i64 d]] => some (x, y, p, q, d)
  | _ => none
theorem hKb {us : List AV} {a} (h : dKb us = some a) : us = nKb a := by unfold dKb at h; split at h <;> cases h; rfl
def btw (x y p q d : Int) : Int := divP (W (W (x * p) + W (y * q))) d
def okBt (x y p q d : Int) : Bool := okDv (W (W (x * p) + W (y * q))) d
abbrev pBt : List AV → Bool := ps dKb fun a => okBt a.1 a.2.1 a.2.2.1 a.2.2.2.1 a.2.2.2.2
abbrev sBt : Spec := sp dKb fun a => iv (btw a.1 a.2.1 a.2.2.1 a.2.2.2.1 a.2.2.2.2)
theorem t104 (x y p q d : Int) : evalF (EG [(66, pD, sp dII fun a => iv (divP a.1 a.2))]) Try.f104 [iv x, iv y, ci p, ci q, ci d] = bif okBt x y p q d then oi (btw x y p q d) else none := by kernel_rfl
theorem m104 : Meets Try.prog 104 (gate pBt sBt) := mG (rdE (eg_cons m66 eg_nil) (fn := Try.f104) (k := 5) (by kernel_rfl) (by kernel_rfl) (of_decide_eq_true (by kernel_rfl)) (by kernel_rfl)) (fun _ _ => hKb) (fun _ => ⟨rfl, Nat.le_refl _⟩)
  fun ⟨x, y, p, q, d⟩ hp => by
    refine (t104 x y p q d).trans ?_
    have hp : okBt x y p q d = true := hp
    rw [hp]
    rfl
def L79 : List Entry := [(103, pT dI, sU), (98, pT dQ, sLi), (66, pD, sp dII fun a => iv (divP a.1 a.2)), (104, pBt, sBt)]
@[reducible] def F104 (p q d : Int) : Fn2 := closure ((EG L79).ctx #[]) 104 [ci p, ci q, ci d]
def cl (F : Fn2) (x y : Int) : Option Value := F [.int .i64 x, .int .i64 y]
def tree79 (F : Int → Int → Int → Fn2) (a b c d a' b' c' d' p q : Int) : Option (AV × List AV) :=
  bif okDv (W (p + q)) 65535 then bif divP (W (p + q)) 65535 == 0 then some (q4 0 0 0 0, []) else
    bif okInt .i64 (cl (F p q (W (p + q))) (un a) (un a')) then bif okInt .i64 (cl (F p q (W (p + q))) (un b) (un b')) then bif okInt .i64 (cl (F p q (W (p + q))) (un c) (un c')) then
      some (q4 (valInt (cl (F p q (W (p + q))) (un a) (un a'))) (valInt (cl (F p q (W (p + q))) (un b) (un b'))) (valInt (cl (F p q (W (p + q))) (un c) (un c'))) (divP (W (p + q)) 65535), [])
    else none else none else none else none
theorem t79 (a b c d a' b' c' d' x : Int) : evalF (EG L79) Try.f79 [q4 a b c d, q4 a' b' c' d', iv x] = tree79 F104 a b c d a' b' c' d' (W (un d * W (65535 - un x))) (W (un d' * un x)) := by kernel_rfl
theorem cl104 {p q d x y : Int} (h : okBt x y p q d = true) : cl (F104 p q d) x y = some (.int .i64 (btw x y p q d)) := by
  have : cl (F104 p q d) x y = (match (bif okBt x y p q d then some (iv (btw x y p q d), []) else none : Option (AV × List AV)) with
    | some (.rv r, _) => toV r
    | _ => none) := by kernel_rfl
  rw [this, h]
  rfl
def mixP (a b : Q) (x : Int) : Q :=
  let p := un a.2.2.2 * (65535 - un x); let q := un b.2.2.2 * un x
  if divP (p + q) 65535 = 0 then (0, 0, 0, 0) else (divP (un a.1 * p + un b.1 * q) (p + q), divP (un a.2.1 * p + un b.2.1 * q) (p + q), divP (un a.2.2.1 * p + un b.2.2.1 * q) (p + q), divP (p + q) 65535)
theorem pq_ok (d d' x : Int) : (0 ≤ un d * (65535 - un x) ∧ un d * (65535 - un x) ≤ 65535 * (65535 - un x)) ∧ (0 ≤ un d' * un x ∧ un d' * un x ≤ 65535 * un x) := by
  have h := un_ok x
  exact ⟨⟨Int.mul_nonneg (un_ok d).1 (by omega), Int.mul_le_mul_of_nonneg_right (un_ok d).2 (by omega)⟩, Int.mul_nonneg (un_ok d').1 h.1, Int.mul_le_mul_of_nonneg_right (un_ok d').2 h.1⟩
theorem btw_ok {p q : Int} (hp : 0 ≤ p) (hq : 0 ≤ q) (h : p + q ≤ 4294836225) (hd : divP (p + q) 65535 ≠ 0) (a a' : Int) :
    W (W (un a * p) + W (un a' * q)) = un a * p + un a' * q ∧ okDv (un a * p + un a' * q) (p + q) = true := by
  have k := un_ok a
  have k' := un_ok a'
  have m1 := mul_le (A := 65535) (B := p) k ⟨hp, Int.le_refl _⟩
  have m2 := mul_le (A := 65535) (B := q) k' ⟨hq, Int.le_refl _⟩
  have hd : 1 ≤ p + q := by
    by_cases h0 : p + q = 0
    · rw [h0] at hd; exact absurd (by decide) hd
    · omega
  refine ⟨?_, decide_eq_true (by omega)⟩
  rw [W_small (n := un a * p) (by omega) (by omega), W_small (n := un a' * q) (by omega) (by omega), W_small (by omega) (by omega)]
@[reducible] def nQQI (a : Q × Q × Int) : List AV := [qv a.1, qv a.2.1, iv a.2.2]
def dQQI : List AV → Option (Q × Q × Int)
  | [.rv (.agg [.int .i64 a, .int .i64 b, .int .i64 c, .int .i64 d]), .rv (.agg [.int .i64 a', .int .i64 b', .int .i64 c', .int .i64 d']), .rv (.sc (.int .i64 x))] => some ((a, b, c, d), (a', b', c', d'), x)
  | _ => none
theorem hQQI {us : List AV} {a} (h : dQQI us = some a) : us = nQQI a := by unfold dQQI at h; split at h <;> cases h; rfl
abbrev sMx : Spec := sp dQQI fun a => qv (mixP a.1 a.2.1 a.2.2)
theorem m79 : Meets Try.prog 79 (gate (pT dQQI) sMx) := mG (rdE (l := L79) (eg_cons m103 (eg_cons m98 (eg_cons m66 (eg_cons m104 eg_nil)))) (fn := Try.f79) (k := 3) (by kernel_rfl) (by kernel_rfl) (of_decide_eq_true (by kernel_rfl)) (by kernel_rfl)) (fun _ _ => hQQI) (fun _ => ⟨rfl, Nat.le_refl _⟩)
  fun ⟨⟨a, b, c, d⟩, ⟨a', b', c', d'⟩, x⟩ _ => by
    refine (t79 a b c d a' b' c' d' x).trans ?_
    have k := un_ok x
    obtain ⟨h1, h2⟩ := pq_ok d d' x
    show _ = some (qv (mixP (a, b, c, d) (a', b', c', d') x), [])
    unfold tree79 mixP
    simp only
    rw [W_small (n := 65535 - un x) (by omega) (by omega), W_small (n := un d * (65535 - un x)) (by omega) (by omega), W_small (n := un d' * un x) (by omega) (by omega)]
    generalize un d * (65535 - un x) = p at h1 ⊢
    generalize un d' * un x = q at h2 ⊢
    rw [W_small (n := p + q) (by omega) (by omega), show okDv (p + q) 65535 = true from decide_eq_true (by omega)]
    by_cases h : divP (p + q) 65535 = 0
    · rw [if_pos h, beq_iff_eq.mpr h]; rfl
    · have g := fun u v => btw_ok h1.1 h2.1 (by omega) h u v
      have ok : ∀ u v, okBt (un u) (un v) p q (p + q) = true := fun u v => by unfold okBt; rw [(g u v).1]; exact (g u v).2
      have vb : ∀ u v, btw (un u) (un v) p q (p + q) = divP (un u * p + un v * q) (p + q) := fun u v => by unfold btw; rw [(g u v).1]
      rw [if_neg h, beq_eq_false_iff_ne.mpr h, cl104 (ok a a'), cl104 (ok b b'), cl104 (ok c c'), vb, vb, vb]
      rfl
def tree80 (a b c a' b' c' p q : Int) : Option (AV × List AV) :=
  bif okDv (W (p + q)) 65535 then bif divP (W (p + q)) 65535 == 0 then some (q4 0 0 0 0, []) else
    bif okDv (W (W (un a * p) + W (un a' * q))) (W (p + q)) then bif okDv (W (W (un b * p) + W (un b' * q))) (W (p + q)) then bif okDv (W (W (un c * p) + W (un c' * q))) (W (p + q)) then
      some (q4 (divP (W (W (un a * p) + W (un a' * q))) (W (p + q))) (divP (W (W (un b * p) + W (un b' * q))) (W (p + q))) (divP (W (W (un c * p) + W (un c' * q))) (W (p + q))) (divP (W (p + q)) 65535), [])
    else none else none else none else none
theorem t80 (a b c d a' b' c' d' x : Int) : evalF (EG [(101, pT dQ, sLi), (102, pT dI, sU), (68, pD, sp dII fun a => iv (divP a.1 a.2))]) Try.f80 [q4 a b c d, q4 a' b' c' d', iv x] = tree80 a b c a' b' c' (W (un d * W (65535 - un x))) (W (un d' * un x)) := by kernel_rfl
theorem m80 : Meets Try.prog 80 (gate (pT dQQI) sMx) := mG (rdE (eg_cons m101 (eg_cons m102 (eg_cons m68 eg_nil))) (fn := Try.f80) (k := 3) (by kernel_rfl) (by kernel_rfl) (of_decide_eq_true (by kernel_rfl)) (by kernel_rfl)) (fun _ _ => hQQI) (fun _ => ⟨rfl, Nat.le_refl _⟩)
  fun ⟨⟨a, b, c, d⟩, ⟨a', b', c', d'⟩, x⟩ _ => by
    refine (t80 a b c d a' b' c' d' x).trans ?_
    have k := un_ok x
    obtain ⟨h1, h2⟩ := pq_ok d d' x
    show _ = some (qv (mixP (a, b, c, d) (a', b', c', d') x), [])
    unfold tree80 mixP
    simp only
    rw [W_small (n := 65535 - un x) (by omega) (by omega), W_small (n := un d * (65535 - un x)) (by omega) (by omega), W_small (n := un d' * un x) (by omega) (by omega)]
    generalize un d * (65535 - un x) = p at h1 ⊢
    generalize un d' * un x = q at h2 ⊢
    rw [W_small (n := p + q) (by omega) (by omega), show okDv (p + q) 65535 = true from decide_eq_true (by omega)]
    by_cases h : divP (p + q) 65535 = 0
    · rw [if_pos h, beq_iff_eq.mpr h]; rfl
    · have g := fun u v => btw_ok h1.1 h2.1 (by omega) h u v
      rw [if_neg h, beq_eq_false_iff_ne.mpr h, (g a a').1, (g b b').1, (g c c').1, (g a a').2, (g b b').2, (g c c').2]
      rfl
end Go.Proofs.Ytkeildnpemiacaa.Ev
