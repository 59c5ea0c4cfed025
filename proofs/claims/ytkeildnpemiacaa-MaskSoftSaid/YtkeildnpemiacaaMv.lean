/- That the law of plain masks answers true. Conditions: none. -/
import Derived.Test.YtkeildnpemiacaaMu
import Derived.Test.YtkeildnpemiacaaMo
namespace Go.Proofs.Ytkeildnpemiacaa.Ev
open Go.Proofs
set_option linter.unusedVariables false
set_option linter.unusedSimpArgs false
set_option maxRecDepth 100000
set_option maxHeartbeats 1000000

theorem clamp_in {h r y i : Int} (hh : 1 ≤ h ∧ h ≤ 256) : 0 ≤ mn (W (h - 1)) (mx (W (W (y + i) - r)) 0) ∧ mn (W (h - 1)) (mx (W (W (y + i) - r)) 0) < h := by
  rw [W_small (n := h - 1) (by omega) (by omega)]
  unfold mn mx
  constructor <;> split <;> split <;> omega
theorem divP_mul {v p : Int} (hp : 1 ≤ p) : divP (v * p) p = v := by
  rw [divP_eq hp, Int.mul_emod_left, Int.mul_ediv_cancel _ (by omega), if_neg (by omega)]
/-! ### A mask of one value -/
theorem good_const {w h v : Int} (hw : 1 ≤ w ∧ w ≤ 256) (hh : 1 ≤ h ∧ h ≤ 256) (hv : 0 ≤ v ∧ v ≤ 65535) : Good w h (seqL (fun _ => v) (w.toNat * h.toNat) 0) (w.toNat * h.toNat) :=
  ⟨by omega, rfl, seqL_len .., allU_seq _ _ _ fun _ _ _ => hv⟩
theorem get_const {w h : Int} {l : List Int} (ho : okSize (w, h, l) = true) {v : Int} (hl : ∀ k, k < w.toNat * h.toNat → l.getD k 0 = v) {x y : Int} (hx : 0 ≤ x ∧ x < w) (hy : 0 ≤ y ∧ y < h) : getM (w, h, l) x y = v := by
  have e := getM_at (m := (w, h, l)) ho (x := x.toNat) (y := y.toNat) (by simp only; omega) (by simp only; omega)
  rw [Int.toNat_of_nonneg hx.1, Int.toNat_of_nonneg hy.1] at e
  rw [e]
  exact hl _ (idx_nat (by omega) (by omega))
theorem rowsG_const {g : Int → Int → Int} {v : Int} (w h : Nat) (hg : ∀ x y : Int, 0 ≤ x → x < w → 0 ≤ y → y < h → g x y = v) : rowsG g w h 0 = seqL (fun _ => v) (w * h) 0 := by
  have := rowsG_seq (fun _ => v) g w h (fun x y hx hy => hg x y (by omega) (by omega) (by omega) (by omega)) h 0 (by omega)
  rw [Nat.zero_mul] at this
  exact this
theorem feat_const {w h v r : Int} (hw : 1 ≤ w ∧ w ≤ 256) (hh : 1 ≤ h ∧ h ≤ 256) (hv : 0 ≤ v ∧ v ≤ 65535) (hr : 0 ≤ r ∧ r ≤ 7) : featM (w, h, seqL (fun _ => v) (w.toNat * h.toNat) 0) r = ((w, h, seqL (fun _ => v) (w.toNat * h.toNat) 0), 0) := by
  have g := good_const hw hh hv
  have b := bin_ok hr
  generalize hl : seqL (fun _ => v) (w.toNat * h.toNat) 0 = l at g
  have hget : ∀ k, k < w.toNat * h.toNat → l.getD k 0 = v := fun k hk => by rw [← hl, seqL_get _ _ 0 k hk]
  have hconv : ∀ x y : Int, 0 ≤ y → y < h → convV (w, h, l) r x y = p4 r * v := fun x y y0 y1 => by
    rw [(g.conv hr x y).1, dot_const (v := cX (w, h, l) r x y) (c := v) _ _ _ (fun j => get_const (check_ok g.check).1 hget (clamp_in hw) ⟨y0, y1⟩), b.sum]
  have hrow : rowsQ (w, h, l) r = (w, h, seqL (fun _ => p4 r * v) (w.toNat * h.toNat) 0) := by
    unfold rowsQ
    simp only
    rw [rowsG_const (v := p4 r * v) _ _ fun x y x0 x1 y0 y1 => hconv x y y0 (by omega)]
  have hfeat : ∀ x y : Int, 0 ≤ x → x < w → 0 ≤ y → y < h → featV (w, h, l) r x y = v := fun x y x0 x1 y0 y1 => by
    unfold featV
    simp only
    rw [(g.sumYOk hr x y).1, dot_const (v := cY (rowsQ (w, h, l) r) h r x y) (c := p4 r * v) _ _ _ (fun j => by
      show getM (rowsQ (w, h, l) r) x _ = _
      rw [hrow]
      have := g.rowsOk (convV (w, h, l) r)
      have hq : (w, h, rowsG (convV (w, h, l) r) w.toNat h.toNat 0) = rowsQ (w, h, l) r := rfl
      rw [hq, hrow] at this
      exact get_const this (fun k hk => by rw [seqL_get _ _ 0 k hk]) ⟨x0, x1⟩ (clamp_in hh)), b.sum, b.sh, show p4 r * (p4 r * v) = v * (p4 r * p4 r) by rw [← Int.mul_assoc, Int.mul_comm]]
    exact divP_mul (by have q := Int.mul_le_mul b.le.1 b.le.1 (by decide) (by have := b.le; omega); omega)
  unfold featM
  rw [if_neg (fun h => h g.check), if_neg (by omega)]
  simp only
  rw [rowsG_const (v := v) _ _ fun x y x0 x1 y0 y1 => hfeat x y x0 (by omega) y0 (by omega), hl]
theorem upd_same (n v : Int) : upd n v v = v := by unfold upd; split <;> rfl
theorem rowW_const {m : Mk} {v n x y j : Int} (hm : ∀ x y : Int, 0 ≤ x → x < m.1 → 0 ≤ y → y < m.2.1 → getM m x y = v) (hj : 0 ≤ y + j ∧ y + j < m.2.1) : ∀ (k : Nat) (i : Int), 0 ≤ x + i → x + i + k ≤ m.1 → rowW m n x y j k i v = v
  | 0, _, _, _ => rfl
  | k + 1, i, h0, h1 => by
    have e : stepW m n x y j i v = v := by
      unfold stepW
      split
      · rfl
      · rw [hm (x + i) (y + j) (by omega) (by omega) hj.1 hj.2, upd_same]
    rw [rowW, e]
    exact rowW_const hm hj k (i + 1) (by omega) (by omega)
theorem rowsW_const {m : Mk} {v n r x y : Int} (hm : ∀ x y : Int, 0 ≤ x → x < m.1 → 0 ≤ y → y < m.2.1 → getM m x y = v) (hr : 0 ≤ r) (hx : 0 ≤ x ∧ x < m.1) : ∀ (k : Nat) (j : Int), 0 ≤ y + j → y + j + k ≤ m.2.1 → rowsW m n r x y k j v = v
  | 0, _, _, _ => rfl
  | k + 1, j, h0, h1 => by
    have l := lo_ge r x
    have h := hi_le r m.1 x
    have q := lo_hi1 hr hx
    rw [rowsW, rowW_const hm (by omega) (cnt (iLo r x) (iHi r m.1 x)) (iLo r x) (by omega) (by unfold cnt; omega)]
    exact rowsW_const hm hr hx k (j + 1) (by omega) (by omega)
theorem grow_const {w h v n : Int} (hw : 1 ≤ w ∧ w ≤ 256) (hh : 1 ≤ h ∧ h ≤ 256) (hv : 0 ≤ v ∧ v ≤ 65535) (hn : -16 ≤ n ∧ n ≤ 16) : growM (w, h, seqL (fun _ => v) (w.toNat * h.toNat) 0) n = ((w, h, seqL (fun _ => v) (w.toNat * h.toNat) 0), 0) := by
  have g := good_const hw hh hv
  generalize hl : seqL (fun _ => v) (w.toNat * h.toNat) 0 = l at g
  have hget : ∀ k, k < w.toNat * h.toNat → l.getD k 0 = v := fun k hk => by rw [← hl, seqL_get _ _ 0 k hk]
  have hr : 0 ≤ mx n (0 - n) := by unfold mx; split <;> omega
  have hm : ∀ x y : Int, 0 ≤ x → x < (w, h, l).1 → 0 ≤ y → y < (w, h, l).2.1 → getM (w, h, l) x y = v := fun x y x0 x1 y0 y1 => get_const (check_ok g.check).1 hget ⟨x0, x1⟩ ⟨y0, y1⟩
  unfold growM
  rw [if_neg (fun h => h g.check), if_neg (by omega)]
  simp only
  rw [rowsG_const (v := v) _ _ fun x y x0 x1 y0 y1 => by
    have l' := lo_ge (mx n (0 - n)) y
    have h' := hi_le (mx n (0 - n)) h y
    have q := lo_hi1 (w := h) hr (x := y) (by omega)
    unfold growV
    rw [hm x y x0 (by simp only; omega) y0 (by simp only; omega)]
    exact rowsW_const hm hr (by simp only; omega) (cnt (iLo (mx n (0 - n)) y) (iHi (mx n (0 - n)) h y)) (iLo (mx n (0 - n)) y) (by omega) (by unfold cnt; simp only; omega), hl]
/-! ### Nothing to do -/
theorem Good.rows_id {w h : Int} {l : List Int} {N : Nat} (g : Good w h l N) {f : Int → Int → Int} (hf : ∀ x y : Int, 0 ≤ x → x < w → 0 ≤ y → y < h → f x y = getM (w, h, l) x y) : rowsG f w.toNat h.toNat 0 = l := by
  have := rowsG_seq (fun k => l.getD k 0) f w.toNat h.toNat (fun x y hx hy => by
    rw [hf x y (by omega) (by omega) (by omega) (by omega)]
    exact getM_at (m := (w, h, l)) (check_ok g.check).1 hx hy) h.toNat 0 (by omega)
  rw [Nat.zero_mul, g.num, show ((0 : Nat) : Int) = 0 from rfl, g.self] at this
  exact this
theorem clamp_id {w x : Int} (hx : 0 ≤ x ∧ x < w) (hw : w ≤ 256) : mn (W (w - 1)) (mx (W (W (x + 0) - 0)) 0) = x := by
  rw [W_small (n := w - 1) (by omega) (by omega), W_small (n := x + 0) (by omega) (by omega), W_small (n := x + 0 - 0) (by omega) (by omega)]
  unfold mn mx
  split <;> split <;> omega
theorem feat_zero {w h : Int} {l : List Int} {N : Nat} (g : Good w h l N) : featM (w, h, l) 0 = ((w, h, l), 0) := by
  have hr : (0 : Int) ≤ 0 ∧ (0 : Int) ≤ 7 := by decide
  have hb : binL (2 * 0) = [1] := rfl
  have hconv : ∀ x y : Int, 0 ≤ x → x < w → convV (w, h, l) 0 x y = getM (w, h, l) x y := fun x y x0 x1 => by
    rw [(g.conv hr x y).1, hb]
    show 1 * getM (w, h, l) (mn (W (w - 1)) (mx (W (W (x + ((0 : Nat) : Int)) - 0)) 0)) y + 0 = _
    rw [show ((0 : Nat) : Int) = 0 from rfl, clamp_id ⟨x0, x1⟩ g.size.2.1, Int.one_mul, Int.add_zero]
  have hrow : rowsQ (w, h, l) 0 = (w, h, l) := by
    unfold rowsQ
    simp only
    rw [g.rows_id fun x y x0 x1 _ _ => hconv x y x0 x1]
  have hfeat : ∀ x y : Int, 0 ≤ y → y < h → featV (w, h, l) 0 x y = getM (w, h, l) x y := fun x y y0 y1 => by
    unfold featV
    simp only
    rw [(g.sumYOk hr x y).1, hb, hrow]
    show divP (1 * getM (w, h, l) x (mn (W (h - 1)) (mx (W (W (y + ((0 : Nat) : Int)) - 0)) 0)) + 0) (sh4 0) = _
    rw [show ((0 : Nat) : Int) = 0 from rfl, clamp_id ⟨y0, y1⟩ g.size.2.2.2.1, Int.one_mul, Int.add_zero, show sh4 0 = 1 by decide +kernel]
    have := divP_mul (v := getM (w, h, l) x y) (p := 1) (by decide)
    rw [Int.mul_one] at this
    exact this
  unfold featM
  rw [if_neg (fun h => h g.check), if_neg (by decide)]
  simp only
  rw [g.rows_id fun x y _ _ y0 y1 => hfeat x y y0 y1]
theorem rowW_zero {m : Mk} {x y j : Int} : ∀ (k : Nat) (i b : Int), rowW m 0 x y j k i b = b
  | 0, _, _ => rfl
  | k + 1, i, b => by
    have e : stepW m 0 x y j i b = b := by
      unfold stepW
      split
      · rfl
      · unfold upd; rw [if_neg (by omega)]
    rw [rowW, e]
    exact rowW_zero k (i + 1) b
theorem rowsW_zero {m : Mk} {r x y : Int} : ∀ (k : Nat) (j b : Int), rowsW m 0 r x y k j b = b
  | 0, _, _ => rfl
  | k + 1, j, b => by rw [rowsW, rowW_zero]; exact rowsW_zero k (j + 1) b
theorem grow_zero {w h : Int} {l : List Int} {N : Nat} (g : Good w h l N) : growM (w, h, l) 0 = ((w, h, l), 0) := by
  unfold growM
  rw [if_neg (fun h => h g.check), if_neg (by decide)]
  simp only
  rw [g.rows_id fun x y _ _ _ _ => by unfold growV; exact rowsW_zero _ _ _]
/-! ### The law -/
def L8 (nw : Int → Int → Int → Mk × Int) (fe gr : Mk → Int → Mk × Int) (ck : Mk → Int) (iz : Mk → Int → Mk → Bool) : List Entry := [(24, pT dIII, sp dIII fun a => mev (nw a.1 a.2.1 a.2.2)), (32, pT dMI, sp dMI fun a => mev (fe a.1 a.2)), (34, pT dMI, sp dMI fun a => mev (gr a.1 a.2)), (16, pT d0, sp d0 fun _ => bw true), (30, pT dM, sp dM fun m => iv (ck m)), (41, p41, sp dMIM fun a => bw (iz a.1 a.2.1 a.2.2))]
theorem g8 : ∀ f, Meets Try.prog f ((EG (L8 newM featM growM checkM isM)).sp f) := eg_cons m24 (eg_cons m32 (eg_cons m34 (eg_cons m16 (eg_cons m30 (eg_cons m41 eg_nil)))))
def tree8 (nw : Int → Int → Int → Mk × Int) (fe gr : Mk → Int → Mk × Int) (ck : Mk → Int) (iz : Mk → Int → Mk → Bool) (w h v r n : Int) (m : Mk) : Option (AV × List AV) :=
  bif (nw w h v).2 != 0 then ob false else gl (fe (nw w h v).1 r).1 (bif !iz (fe (nw w h v).1 r).1 (fe (nw w h v).1 r).2 (nw w h v).1 then ob false else gl (gr (nw w h v).1 n).1 (bif !iz (gr (nw w h v).1 n).1 (gr (nw w h v).1 n).2 (nw w h v).1 then ob false else
    bif ck m != 0 then ob true else gl (fe m 0).1 (bif iz (fe m 0).1 (fe m 0).2 m then gl (gr m 0).1 (ob (iz (gr m 0).1 (gr m 0).2 m)) else ob false)))
@[reducible] def nPl (a : Int × Int × Int × Int × Int × Mk) : List AV := [iw .u8 a.1, iw .u8 a.2.1, iw .u16 a.2.2.1, iw .u8 a.2.2.2.1, iw .u8 a.2.2.2.2.1, mv a.2.2.2.2.2]
def dPl : List AV → Option (Int × Int × Int × Int × Int × Mk)
  | [.rv (.sc (.int .u8 a)), .rv (.sc (.int .u8 b)), .rv (.sc (.int .u16 c)), .rv (.sc (.int .u8 d)), .rv (.sc (.int .u8 e)), .rv (.agg [.int .i64 p, .int .i64 q, .sl none (.ints l)])] => some (a, b, c, d, e, (p, q, l))
  | _ => none
theorem hPl {us : List AV} {a} (h : dPl us = some a) : us = nPl a := by unfold dPl at h; split at h <;> cases h; rfl
theorem t8 (nw : Int → Int → Int → Mk × Int) (fe gr : Mk → Int → Mk × Int) (ck : Mk → Int) (iz : Mk → Int → Mk → Bool) (a b c d e p q : Int) (l : List Int) : evalF (EG (L8 nw fe gr ck iz)) Try.f8 (nPl (a, b, c, d, e, (p, q, l))) =
    tree8 nw fe gr ck iz (W (1 + (W a).tmod 16)) (W (1 + (W b).tmod 16)) (W c) ((W d).tmod 8) (W ((W e).tmod 33 - 16)) (p, q, l) := by kernel_rfl
theorem tree8_true {w h v r n : Int} (hw : 1 ≤ w ∧ w ≤ 256) (hh : 1 ≤ h ∧ h ≤ 256) (hv : 0 ≤ v ∧ v ≤ 65535) (hr : 0 ≤ r ∧ r ≤ 7) (hn : -16 ≤ n ∧ n ≤ 16) (m : Mk) : tree8 newM featM growM checkM isM w h v r n m = ob true := by
  obtain ⟨p, q, l⟩ := m
  have hnew : newM w h v = ((w, h, seqL (fun _ => v) (w.toNat * h.toNat) 0), 0) := by
    unfold newM
    rw [if_neg (fun hc => hc ((sizeE_iff w h).mpr (by omega))), if_neg (by omega)]
  have hle : (seqL (fun _ => v) (w.toNat * h.toNat) 0).length ≤ 65536 := by rw [seqL_len]; exact (good_const hw hh hv).le
  unfold tree8
  rw [hnew]
  simp only
  rw [feat_const hw hh hv hr, grow_const hw hh hv hn, gl_ok hle, gl_ok hle, isM_self]
  by_cases c1 : checkM (p, q, l) = 0
  · have g := good_of c1
    have hl : l.length ≤ 65536 := by rw [g.len]; exact g.le
    rw [c1, feat_zero g, grow_zero g, gl_ok hl, gl_ok hl, isM_self]
    rfl
  · rw [bne_iff_ne.mpr c1]; rfl
def okPl (a : Int × Int × Int × Int × Int × Mk) : Bool := decide (0 ≤ a.1 ∧ a.1 ≤ 255 ∧ 0 ≤ a.2.1 ∧ a.2.1 ≤ 255 ∧ 0 ≤ a.2.2.1 ∧ a.2.2.1 ≤ 65535 ∧ 0 ≤ a.2.2.2.1 ∧ a.2.2.2.1 ≤ 255 ∧ 0 ≤ a.2.2.2.2.1 ∧ a.2.2.2.2.1 ≤ 255)
theorem tm {a b : Int} (ha : 0 ≤ a) (hb : 0 < b) : 0 ≤ a.tmod b ∧ a.tmod b < b := ⟨Int.tmod_nonneg _ ha, Int.tmod_lt_of_pos a hb⟩
theorem m8 : Meets Try.prog 8 (gate (ps dPl okPl) (sp dPl fun _ => bw true)) := mG (rdE g8 (fn := Try.f8) (k := 6) (by kernel_rfl) (by kernel_rfl) (of_decide_eq_true (by kernel_rfl)) (by kernel_rfl)) (fun _ _ => hPl) (fun _ => ⟨rfl, Nat.le_refl _⟩)
  fun ⟨a, b, c, d, e, ⟨p, q, l⟩⟩ hp => by
    have hp := of_decide_eq_true hp
    simp only at hp
    refine (t8 newM featM growM checkM isM a b c d e p q l).trans ?_
    rw [W_small (n := a) (by omega) (by omega), W_small (n := b) (by omega) (by omega), W_small (n := c) (by omega) (by omega), W_small (n := d) (by omega) (by omega), W_small (n := e) (by omega) (by omega)]
    have h1 := tm (a := a) (b := 16) (by omega) (by decide)
    have h2 := tm (a := b) (b := 16) (by omega) (by decide)
    have h3 := tm (a := d) (b := 8) (by omega) (by decide)
    have h4 := tm (a := e) (b := 33) (by omega) (by decide)
    rw [W_small (n := 1 + a.tmod 16) (by omega) (by omega), W_small (n := 1 + b.tmod 16) (by omega) (by omega), W_small (n := e.tmod 33 - 16) (by omega) (by omega)]
    exact tree8_true (by omega) (by omega) (by omega) (by omega) (by omega) _
theorem hS8 {a b c d e p q : Int} {l : List Int} (ha : (Lit.int .u8 a).wf = true) (hb : (Lit.int .u8 b).wf = true) (hc : (Lit.int .u16 c).wf = true) (hd : (Lit.int .u8 d).wf = true) (he : (Lit.int .u8 e).wf = true) :
    gate (ps dPl okPl) (sp dPl fun _ => bw true) [iw .u8 a, iw .u8 b, iw .u16 c, iw .u8 d, iw .u8 e, mk3 p q l] = some (bw true, []) := by
  have k8 : ∀ {u : Int}, (Lit.int .u8 u).wf = true → 0 ≤ u ∧ u ≤ 255 := fun {u} h => by
    have h' : (decide (IntKind.u8.min ≤ u) && decide (u ≤ IntKind.u8.max)) = true := h
    simp only [Bool.and_eq_true, decide_eq_true_eq] at h'
    exact h'
  have k16 : 0 ≤ c ∧ c ≤ 65535 := by
    have h' : (decide (IntKind.u16.min ≤ c) && decide (c ≤ IntKind.u16.max)) = true := hc
    simp only [Bool.and_eq_true, decide_eq_true_eq] at h'
    exact h'
  have ha := k8 ha
  have hb := k8 hb
  have hd := k8 hd
  have he := k8 he
  show (bif okPl (a, b, c, d, e, (p, q, l)) then some (bw true, []) else none) = _
  rw [show okPl (a, b, c, d, e, (p, q, l)) = true from decide_eq_true (by simp only; omega)]
  rfl
end Go.Proofs.Ytkeildnpemiacaa.Ev
