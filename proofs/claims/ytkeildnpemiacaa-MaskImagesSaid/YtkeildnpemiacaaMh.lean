/- What combining and inverting come to, the program's own. Conditions: none. -/
import Derived.Test.YtkeildnpemiacaaMg
namespace Go.Proofs.Ytkeildnpemiacaa.Ev
open Go.Proofs
set_option linter.unusedVariables false
set_option linter.unusedSimpArgs false
set_option maxRecDepth 100000
set_option maxHeartbeats 1000000

def atV (m : Mk) (k : Nat) : Int := if m.1 = 0 then 65535 else m.2.2.getD k 0
def combL (how : Int) (a b : Mk) : List Int := seqL (fun k => combV how (atV a k) (atV b k)) ((mx a.1 b.1).toNat * (mx a.2.1 b.2.1).toNat) 0
def combM (a b : Mk) (how : Int) : Mk × Int := if checkM a ≠ 0 then errM (checkM a) else if checkM b ≠ 0 then errM (checkM b) else if how < 0 ∨ how > 4 then errM 8 else if clashS a b = true then errM 15 else ((mx a.1 b.1, mx a.2.1 b.2.1, combL how a b), 0)
def invL (m : Mk) : List Int := seqL (fun k => W (65535 - m.2.2.getD k 0)) (m.1.toNat * m.2.1.toNat) 0
def invM (m : Mk) : Mk × Int := if checkM m ≠ 0 then errM (checkM m) else ((m.1, m.2.1, invL m), 0)
theorem check_ok {m : Mk} (h : checkM m = 0) : okSize m = true ∧ (m.1 = 0 ↔ m.2.1 = 0) ∧ allU m.2.2 = true := by
  unfold checkM at h
  split at h
  · rename_i hh
    split at h
    · exact ⟨hh.1, hh.2, ‹_›⟩
    · cases h
  · cases h
theorem size_le {w h : Int} (h1 : 0 ≤ w) (h2 : w ≤ 256) (h3 : 0 ≤ h) (h4 : h ≤ 256) : w.toNat * h.toNat ≤ 65536 ∧ ((w.toNat * h.toNat : Nat) : Int) = w * h := by
  have := Nat.mul_le_mul (show w.toNat ≤ 256 by omega) (show h.toNat ≤ 256 by omega)
  refine ⟨this, ?_⟩
  rw [Int.natCast_mul, Int.toNat_of_nonneg h1, Int.toNat_of_nonneg h3]
theorem idx_nat {x y w h : Nat} (hx : x < w) (hy : y < h) : y * w + x < w * h := by
  have := Nat.mul_le_mul_right w (show y + 1 ≤ h by omega)
  rw [Nat.succ_mul, Nat.mul_comm h w] at this
  omega
theorem getM_at {m : Mk} (ho : okSize m = true) {x y : Nat} (hx : x < m.1.toNat) (hy : y < m.2.1.toNat) : getM m x y = m.2.2.getD (y * m.1.toNat + x) 0 := by
  obtain ⟨w, h, l⟩ := m
  have hs := (okSize_iff w h l).mp ho
  unfold getM inM
  simp only at hx hy ⊢
  rw [if_pos (decide_eq_true (by omega))]
  congr 1
  have : (y : Int) * w + x = ((y * w.toNat + x : Nat) : Int) := by
    rw [Int.natCast_add, Int.natCast_mul, Int.toNat_of_nonneg hs.1]
  rw [this, Int.toNat_natCast]
theorem F83_eq {ck : Mk → Int} {a : Mk} (ho : okSize a = true) (x y : Int) : F83 ck a [.int .i64 x, .int .i64 y] = some (.int .i64 (W (65535 - getM a x y))) := by
  have : F83 ck a [.int .i64 x, .int .i64 y] = (match (bif okSize a then some (iv (W (65535 - getM a x y)), []) else none : Option (AV × List AV)) with
    | some (.rv r, _) => toV r
    | _ => none) := rfl
  rw [this, ho]
  rfl
theorem e44 (a b : Int) (l : List Int) : evalF (EG (L44 checkM)) Try.f44 [mk3 a b l] = omv (invM (a, b, l)) := by
  rw [t44]
  unfold invM
  by_cases hc : checkM (a, b, l) = 0
  · obtain ⟨ho, hz, hu⟩ := check_ok hc
    have hs := (okSize_iff a b l).mp ho
    rw [if_neg (fun h => h hc), bne_eq_false_iff_eq.mpr hc, decide_eq_true (by omega), okRs_of _ a.toNat b.toNat (fun x y _ _ _ _ => by rw [F83_eq ho]; rfl) b.toNat 0 (Int.le_refl _) (by omega)]
    have := rowsG_seq (fun k => W (65535 - l.getD k 0)) (fI (F83 checkM (a, b, l))) a.toNat b.toNat (fun x y hx hy => by
      unfold fI
      rw [F83_eq ho, getM_at (m := (a, b, l)) ho hx hy]
      rfl) b.toNat 0 (by omega)
    rw [Nat.zero_mul] at this
    rw [show ((0 : Nat) : Int) = 0 from rfl] at this
    rw [this]
    rfl
  · rw [if_pos hc, bne_iff_ne.mpr hc]
    rfl
theorem val_at {m : Mk} {w h : Nat} (ho : okSize m = true) (hm : m.1 = 0 ∨ m.1 = w ∧ m.2.1 = h) (hw : w ≤ 256) (hh : h ≤ 256) {x y : Nat} (hx : x < w) (hy : y < h) : okV m x y = true ∧ valP m x y = atV m (y * w + x) := by
  obtain ⟨w', h', l⟩ := m
  have hs := (okSize_iff w' h' l).mp ho
  have hi := idx_nat hx hy
  have hsz := Nat.mul_le_mul hw hh
  unfold okV valP atV
  simp only at hm ⊢
  rcases hm with hm | ⟨rfl, rfl⟩
  · rw [if_pos hm, if_pos hm]
    exact ⟨decide_eq_true (.inl hm), rfl⟩
  · have h0 : ¬ (w : Int) = 0 := by omega
    have e1 : (y : Int) * w = ((y * w : Nat) : Int) := (Int.natCast_mul ..).symm
    have e2 : W ((y : Int) * w) = ((y * w : Nat) : Int) := by rw [e1]; exact W_small (by omega) (by omega)
    have e3 : W (((y * w : Nat) : Int) + x) = ((y * w + x : Nat) : Int) := by rw [W_small (by omega) (by omega)]; omega
    have hl : l.length = w * h := by
      have := hs.2.2.2.2
      rw [← Int.natCast_mul] at this
      omega
    rw [if_neg h0, if_neg h0, e2, e3, Int.toNat_natCast]
    exact ⟨decide_eq_true (.inr ⟨by omega, by omega⟩), rfl⟩
theorem F82_eq {ck : Mk → Int} {a b : Mk} {h x y : Int} (ha : okV a x y = true) (hb : okV b x y = true) : F82 ck a b h [.int .i64 x, .int .i64 y] = some (.int .i64 (combV h (valP a x y) (valP b x y))) := by
  have : F82 ck a b h [.int .i64 x, .int .i64 y] = (match (bif okV a x y && okV b x y then some (iv (combV h (valP a x y) (valP b x y)), []) else none : Option (AV × List AV)) with
    | some (.rv r, _) => toV r
    | _ => none) := rfl
  rw [this, ha, hb]
  rfl
theorem sides {a a' b b' : Int} (ha : 0 ≤ a ∧ a ≤ 256 ∧ 0 ≤ b ∧ b ≤ 256) (ha' : 0 ≤ a' ∧ a' ≤ 256 ∧ 0 ≤ b' ∧ b' ≤ 256) (hz : a = 0 ↔ b = 0) (hz' : a' = 0 ↔ b' = 0) (hc : ¬ (a ≠ 0 ∧ a' ≠ 0 ∧ (a ≠ a' ∨ b ≠ b'))) :
    0 ≤ mx a a' ∧ mx a a' ≤ 256 ∧ 0 ≤ mx b b' ∧ mx b b' ≤ 256 ∧ (a = 0 ∨ a = mx a a' ∧ b = mx b b') ∧ (a' = 0 ∨ a' = mx a a' ∧ b' = mx b b') := by
  unfold mx
  split <;> split <;> omega
theorem e42 (a b a' b' : Int) (l l' : List Int) (h : Int) : evalF (EG (L42 checkM)) Try.f42 [mk3 a b l, mk3 a' b' l', iv h] = omv (combM (a, b, l) (a', b', l') h) := by
  rw [t42]
  unfold combM
  by_cases hc : checkM (a, b, l) = 0
  · by_cases hc' : checkM (a', b', l') = 0
    · rw [if_neg (fun h => h hc), bne_eq_false_iff_eq.mpr hc, if_neg (fun h => h hc'), bne_eq_false_iff_eq.mpr hc']
      by_cases hh : h < 0 ∨ h > 4
      · rw [if_pos hh]
        rcases hh with hh | hh
        · rw [decide_eq_true hh]; rfl
        · rw [decide_eq_true hh]; cases decide (h < 0) <;> rfl
      · rw [if_neg hh, decide_eq_false (by omega : ¬ h < 0), decide_eq_false (by omega : ¬ h > 4)]
        obtain ⟨ho, hz, hu⟩ := check_ok hc
        obtain ⟨ho', hz', hu'⟩ := check_ok hc'
        have hs := (okSize_iff a b l).mp ho
        have hs' := (okSize_iff a' b' l').mp ho'
        simp only at hz hz'
        by_cases hq : a ≠ 0 ∧ a' ≠ 0 ∧ (a ≠ a' ∨ b ≠ b')
        · have : clashS (a, b, l) (a', b', l') = true := decide_eq_true hq
          rw [if_pos this, bne_iff_ne.mpr hq.1, bne_iff_ne.mpr hq.2.1]
          rcases hq.2.2 with q | q
          · rw [bne_iff_ne.mpr q]; rfl
          · rw [bne_iff_ne.mpr q]; cases a != a' <;> rfl
        · have : clashS (a, b, l) (a', b', l') = false := decide_eq_false hq
          obtain ⟨s1, s2, s3, s4, s5, s6⟩ := sides (by omega) (by omega) hz hz' hq
          rw [if_neg (by rw [this]; decide)]
          have hval : ∀ x y : Nat, x < (mx a a').toNat → y < (mx b b').toNat → F82 checkM (a, b, l) (a', b', l') h [.int .i64 x, .int .i64 y] = some (.int .i64 (combV h (atV (a, b, l) (y * (mx a a').toNat + x)) (atV (a', b', l') (y * (mx a a').toNat + x)))) := by
            intro x y hx hy
            have v1 := val_at (m := (a, b, l)) (w := (mx a a').toNat) (h := (mx b b').toNat) ho (by simp only; omega) (by omega) (by omega) hx hy
            have v2 := val_at (m := (a', b', l')) (w := (mx a a').toNat) (h := (mx b b').toNat) ho' (by simp only; omega) (by omega) (by omega) hx hy
            rw [F82_eq v1.1 v2.1, v1.2, v2.2]
          have hok := okRs_of (F82 checkM (a, b, l) (a', b', l') h) (mx a a').toNat (mx b b').toNat (fun x y x0 x1 y0 y1 => by
            have := hval x.toNat y.toNat (by omega) (by omega)
            rw [Int.toNat_of_nonneg x0, Int.toNat_of_nonneg y0] at this
            rw [this]; rfl) (mx b b').toNat 0 (Int.le_refl _) (by omega)
          have hrow := rowsG_seq (fun k => combV h (atV (a, b, l) k) (atV (a', b', l') k)) (fI (F82 checkM (a, b, l) (a', b', l') h)) (mx a a').toNat (mx b b').toNat (fun x y hx hy => by
            unfold fI
            rw [hval x y hx hy]
            rfl) (mx b b').toNat 0 (by omega)
          rw [Nat.zero_mul, show ((0 : Nat) : Int) = 0 from rfl] at hrow
          rw [hok, hrow, decide_eq_true (by omega)]
          have key : ∀ (z : Option (AV × List AV)), (bif a != 0 then bif a' != 0 then bif a != a' then omv (errM 15) else bif b != b' then omv (errM 15) else z else z else z) = z := by
            intro z
            by_cases q1 : a = 0
            · rw [bne_eq_false_iff_eq.mpr q1]; rfl
            · by_cases q2 : a' = 0
              · rw [bne_eq_false_iff_eq.mpr q2]; cases a != 0 <;> rfl
              · rw [bne_eq_false_iff_eq.mpr (show a = a' by omega), bne_eq_false_iff_eq.mpr (show b = b' by omega)]
                cases a != 0 <;> cases a' != 0 <;> rfl
          exact key _
    · rw [if_neg (fun h => h hc), bne_eq_false_iff_eq.mpr hc, if_pos hc', bne_iff_ne.mpr hc']
      rfl
  · rw [if_pos hc, bne_iff_ne.mpr hc]
    rfl
abbrev pT3 : List AV → Bool := pT dMMI
theorem m42 : Meets Try.prog 42 (gate (pT dMMI) (sp dMMI fun a => mev (combM a.1 a.2.1 a.2.2))) := mG (rdE (l := L42 checkM) (eg_cons m30 (eg_cons m48 (eg_cons m82 eg_nil))) (fn := Try.f42) (k := 3) (by kernel_rfl) (by kernel_rfl) (of_decide_eq_true (by kernel_rfl)) (by kernel_rfl)) (fun _ _ => hMMI) (fun _ => ⟨rfl, Nat.le_refl _⟩)
  fun ⟨⟨a, b, l⟩, ⟨a', b', l'⟩, h⟩ _ => e42 a b a' b' l l' h
theorem m44 : Meets Try.prog 44 (gate (pT dM) (sp dM fun a => mev (invM a))) := mG (rdE (l := L44 checkM) (eg_cons m30 (eg_cons m48 (eg_cons m83 eg_nil))) (fn := Try.f44) (k := 1) (by kernel_rfl) (by kernel_rfl) (of_decide_eq_true (by kernel_rfl)) (by kernel_rfl)) (fun _ _ => hhM) (fun _ => ⟨rfl, Nat.le_refl _⟩)
  fun ⟨a, b, l⟩ _ => e44 a b l
end Go.Proofs.Ytkeildnpemiacaa.Ev
