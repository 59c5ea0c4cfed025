/- What feathering comes to. Conditions: none. -/
import Derived.Test.YtkeildnpemiacaaMs
import Derived.Test.YtkeildnpemiacaaMt
namespace Go.Proofs.Ytkeildnpemiacaa.Ev
open Go.Proofs
set_option linter.unusedVariables false
set_option linter.unusedSimpArgs false
set_option maxRecDepth 100000
set_option maxHeartbeats 1000000

/-! ### Weighted sums without wrapping -/
def dot (l : List Int) (v : Int → Int) : Nat → Nat → Int
  | 0, _ => 0
  | k + 1, i => l.getD i 0 * v i + dot l v k (i + 1)
def sumL (l : List Int) : Nat → Nat → Int
  | 0, _ => 0
  | k + 1, i => l.getD i 0 + sumL l k (i + 1)
theorem runS_dot {l : List Int} {v : Int → Int} {V : Int} (hl : ∀ j, 0 ≤ l.getD j 0) (hV : 0 ≤ V) (hv : ∀ i, 0 ≤ v i ∧ v i ≤ V) : ∀ (k i : Nat) (s : Int), 0 ≤ s → s + sumL l k i * V ≤ 1152921504606846976 →
    runS l v k i s = s + dot l v k i ∧ 0 ≤ dot l v k i ∧ dot l v k i ≤ sumL l k i * V ∧ 0 ≤ sumL l k i * V
  | 0, _, s, _, _ => by
    rw [runS, dot, sumL, Int.zero_mul]
    omega
  | k + 1, i, s, h0, hs => by
    have a := hl i
    have b := hv i
    have p0 : 0 ≤ l.getD i 0 * v i := Int.mul_nonneg a b.1
    have p1 : l.getD i 0 * v i ≤ l.getD i 0 * V := Int.mul_le_mul_of_nonneg_left b.2 a
    have tail : 0 ≤ sumL l k (i + 1) * V := by
      have : ∀ (k i : Nat), 0 ≤ sumL l k i := by
        intro k
        induction k with
        | zero => intro i; exact Int.le_refl _
        | succ k ih => intro i; have := ih (i + 1); have := hl i; rw [sumL]; omega
      exact Int.mul_nonneg (this k (i + 1)) hV
    rw [sumL, Int.add_mul] at hs ⊢
    have ih := runS_dot hl hV hv k (i + 1) (s + l.getD i 0 * v i) (by omega) (by omega)
    rw [runS, dot, W_small (n := l.getD i 0 * v i) (by omega) (by omega), W_small (n := s + l.getD i 0 * v i) (by omega) (by omega), ih.1]
    omega
theorem dot_const (l : List Int) {v : Int → Int} {c : Int} : ∀ (k i : Nat), (∀ j : Int, v j = c) → dot l v k i = sumL l k i * c
  | 0, _, _ => by rw [dot, sumL, Int.zero_mul]
  | k + 1, i, h => by rw [dot, sumL, Int.add_mul, h, dot_const l k (i + 1) h]
def p4 (r : Int) : Int := (4 : Int) ^ r.toNat
structure BinOk (r : Int) : Prop where
  pos : ∀ j, 0 ≤ (binL (2 * r)).getD j 0
  sum : sumL (binL (2 * r)) (binL (2 * r)).length 0 = p4 r
  len : (binL (2 * r)).length ≤ 1000
  le : 1 ≤ p4 r ∧ p4 r ≤ 16384
  sh : sh4 r = p4 r * p4 r
theorem getD_pos {l : List Int} (h : l.all (fun x => decide (0 ≤ x)) = true) (j : Nat) : 0 ≤ l.getD j 0 := by
  rw [List.getD_eq_getElem?_getD]
  cases hj : l[j]? with
  | none => exact Int.le_refl _
  | some x => exact of_decide_eq_true (List.all_eq_true.mp h x (List.mem_of_getElem? hj))
theorem bin_ok {r : Int} (h : 0 ≤ r ∧ r ≤ 7) : BinOk r := by
  rcases (show r = 0 ∨ r = 1 ∨ r = 2 ∨ r = 3 ∨ r = 4 ∨ r = 5 ∨ r = 6 ∨ r = 7 by omega) with h | h | h | h | h | h | h | h <;> subst h <;>
    exact ⟨fun j => getD_pos (by decide +kernel) j, by decide +kernel, by decide +kernel, by decide +kernel, by decide +kernel⟩
theorem okSize_le' {m : Mk} (h : okSize m = true) : 0 ≤ m.1 ∧ m.1 ≤ 256 ∧ 0 ≤ m.2.1 ∧ m.2.1 ≤ 256 := by
  obtain ⟨w, h', l⟩ := m
  have := (okSize_iff _ _ _).mp h
  simp only
  omega
theorem get_or {m : Mk} (ho : okSize m = true) (x y : Int) : getM m x y = 0 ∨ ∃ k, k < m.1.toNat * m.2.1.toNat ∧ getM m x y = m.2.2.getD k 0 := by
  unfold getM
  by_cases hi : inM m x y = true
  · rw [if_pos hi]
    have hs := okSize_le' ho
    have hi := of_decide_eq_true hi
    have := idx_nat (x := x.toNat) (y := y.toNat) (w := m.1.toNat) (h := m.2.1.toNat) (by omega) (by omega)
    refine .inr ⟨_, this, ?_⟩
    congr 1
    have : y * m.1 + x = ((y.toNat * m.1.toNat + x.toNat : Nat) : Int) := by rw [Int.natCast_add, Int.natCast_mul, Int.toNat_of_nonneg hi.2.2.1, Int.toNat_of_nonneg hs.1, Int.toNat_of_nonneg hi.1]
    rw [this, Int.toNat_natCast]
  · rw [if_neg hi]; exact .inl rfl
/-- A row of values, told by the numbers of the places. -/
def gv (g : Int → Int → Int) (w : Nat) (k : Nat) : Int := g ((k % w : Nat)) ((k / w : Nat))
theorem rowsG_gv (g : Int → Int → Int) (w h : Nat) : rowsG g w h 0 = seqL (gv g w) (w * h) 0 := by
  have := rowsG_seq (gv g w) g w h (fun x y hx hy => by
    unfold gv
    rw [show (y * w + x) % w = x by rw [Nat.mul_comm, Nat.mul_add_mod, Nat.mod_eq_of_lt hx], show (y * w + x) / w = y by rw [Nat.mul_comm, Nat.mul_add_div (by omega), Nat.div_eq_of_lt hx, Nat.add_zero]]) h 0 (by omega)
  rw [Nat.zero_mul] at this
  exact this
def convV (m : Mk) (r x y : Int) : Int := runS (binL (2 * r)) (cX m r x y) (binL (2 * r)).length 0 0
def rowsQ (m : Mk) (r : Int) : Mk := (m.1, m.2.1, rowsG (convV m r) m.1.toNat m.2.1.toNat 0)
def featV (m : Mk) (r x y : Int) : Int := divP (sumY (binL (2 * r)) (rowsQ m r) m.2.1 r x y) (sh4 r)
def featM (m : Mk) (r : Int) : Mk × Int := if checkM m ≠ 0 then errM (checkM m) else if r < 0 ∨ r > 7 then errM 2 else ((m.1, m.2.1, rowsG (featV m r) m.1.toNat m.2.1.toNat 0), 0)
theorem Good.rowsOk {w h : Int} {l : List Int} {N : Nat} (g : Good w h l N) (g' : Int → Int → Int) : okSize (w, h, rowsG g' w.toNat h.toNat 0) = true := by
  have hs := size_le g.size.1 g.size.2.1 g.size.2.2.1 g.size.2.2.2.1
  refine (okSize_iff _ _ _).mpr ⟨g.size.1, g.size.2.1, g.size.2.2.1, g.size.2.2.2.1, ?_⟩
  rw [rowsG_len]
  omega
theorem Good.conv {w h : Int} {l : List Int} {N : Nat} (g : Good w h l N) {r : Int} (hr : 0 ≤ r ∧ r ≤ 7) (x y : Int) : convV (w, h, l) r x y = dot (binL (2 * r)) (cX (w, h, l) r x y) (binL (2 * r)).length 0 ∧ 0 ≤ convV (w, h, l) r x y ∧ convV (w, h, l) r x y ≤ p4 r * 65535 := by
  have b := bin_ok hr
  have := runS_dot (l := binL (2 * r)) (v := cX (w, h, l) r x y) (V := 65535) b.pos (by decide) (fun i => g.getU _ _) (binL (2 * r)).length 0 0 (Int.le_refl _) (by rw [b.sum]; have := b.le; omega)
  rw [b.sum] at this
  unfold convV
  rw [this.1]
  omega
theorem Good.rowsGet {w h : Int} {l : List Int} {N : Nat} (g : Good w h l N) {r : Int} (hr : 0 ≤ r ∧ r ≤ 7) (x y : Int) : 0 ≤ getM (rowsQ (w, h, l) r) x y ∧ getM (rowsQ (w, h, l) r) x y ≤ p4 r * 65535 := by
  have b := bin_ok hr
  rcases get_or (m := rowsQ (w, h, l) r) (g.rowsOk _) x y with e | ⟨k, hk, e⟩
  · rw [e]; have := b.le; omega
  · rw [e]
    show 0 ≤ (rowsG (convV (w, h, l) r) w.toNat h.toNat 0).getD k 0 ∧ _
    unfold rowsQ
    simp only
    have hk : k < w.toNat * h.toNat := hk
    rw [rowsG_gv, seqL_get _ _ 0 k hk]
    exact (g.conv hr _ _).2
theorem Good.sumYOk {w h : Int} {l : List Int} {N : Nat} (g : Good w h l N) {r : Int} (hr : 0 ≤ r ∧ r ≤ 7) (x y : Int) : sumY (binL (2 * r)) (rowsQ (w, h, l) r) h r x y = dot (binL (2 * r)) (cY (rowsQ (w, h, l) r) h r x y) (binL (2 * r)).length 0 ∧
    okD (sumY (binL (2 * r)) (rowsQ (w, h, l) r) h r x y) (sh4 r) = true := by
  have b := bin_ok hr
  have q : p4 r * (p4 r * 65535) ≤ 16384 * (16384 * 65535) := Int.mul_le_mul b.le.2 (by have := b.le; omega) (by have := b.le; omega) (by decide)
  have q2 : p4 r * p4 r ≤ 16384 * 16384 := Int.mul_le_mul b.le.2 b.le.2 (by have := b.le; omega) (by decide)
  have q3 : 1 * 1 ≤ p4 r * p4 r := Int.mul_le_mul b.le.1 b.le.1 (by decide) (by have := b.le; omega)
  have := runS_dot (l := binL (2 * r)) (v := cY (rowsQ (w, h, l) r) h r x y) (V := p4 r * 65535) b.pos (by have := b.le; omega) (fun i => g.rowsGet hr _ _) (binL (2 * r)).length 0 0 (Int.le_refl _) (by rw [b.sum]; omega)
  rw [b.sum] at this
  unfold sumY
  rw [this.1]
  refine ⟨by omega, decide_eq_true ?_⟩
  rw [b.sh]
  omega
theorem F70_eq {ck : Mk → Int} {l : List Int} {m : Mk} {r x y : Int} (hl : l.length ≤ 1000) (ho : okSize m = true) : F70 ck l m r [.int .i64 x, .int .i64 y] = some (.int .i64 (runS l (cX m r x y) l.length 0 0)) := by
  have : F70 ck l m r [.int .i64 x, .int .i64 y] = (match (bif decide (l.length ≤ 1000) && okSize m then some (iv (runS l (cX m r x y) l.length 0 0), []) else none : Option (AV × List AV)) with
    | some (.rv r, _) => toV r
    | _ => none) := by kernel_rfl
  rw [this, decide_eq_true hl, ho]
  rfl
theorem F72_eq {ck : Mk → Int} {l : List Int} {q m : Mk} {r x y : Int} (hk : okKy l q r m.2.1 x y = true) : F72 ck l q r m [.int .i64 x, .int .i64 y] = some (.int .i64 (divP (sumY l q m.2.1 r x y) (sh4 r))) := by
  have : F72 ck l q r m [.int .i64 x, .int .i64 y] = (match (bif okKy l q r m.2.1 x y then some (iv (divP (sumY l q m.2.1 r x y) (sh4 r)), []) else none : Option (AV × List AV)) with
    | some (.rv r, _) => toV r
    | _ => none) := by kernel_rfl
  rw [this, hk]
  rfl
theorem e32 (a b : Int) (l : List Int) (r : Int) : evalF (EG (L32 checkM)) Try.f32 [mk3 a b l, iv r] = omv (featM (a, b, l) r) := by
  rw [t32]
  unfold featM
  by_cases hc : checkM (a, b, l) = 0
  · have g := good_of hc
    have ho := (check_ok hc).1
    rw [if_neg (fun h => h hc), bne_eq_false_iff_eq.mpr hc]
    by_cases h1 : r < 0
    · rw [if_pos (.inl h1), decide_eq_true h1]; rfl
    by_cases h2 : r > 7
    · rw [if_pos (.inr h2), decide_eq_false h1, decide_eq_true h2]; rfl
    rw [if_neg (by omega), decide_eq_false h1, decide_eq_false h2]
    have hr : 0 ≤ r ∧ r ≤ 7 := by omega
    have bo := bin_ok hr
    have hW : W (2 * r) = 2 * r := W_small (by omega) (by omega)
    have hE : even14 (2 * r) = true := decide_eq_true (by omega)
    have hR : rowsF checkM (a, b, l) r = rowsQ (a, b, l) r := by
      unfold rowsF rowsQ
      simp only
      rw [hW, rowsG_congrR (g' := convV (a, b, l) r) a.toNat b.toNat (fun x y _ _ _ _ => by unfold fI; rw [F70_eq bo.len ho]; rfl) b.toNat 0 (Int.le_refl _) (by omega)]
    have hK : ∀ x y : Int, okKy (binL (2 * r)) (rowsQ (a, b, l) r) r b x y = true := fun x y => by
      unfold okKy
      rw [decide_eq_true bo.len, decide_eq_true hr, (g.sumYOk hr x y).2, show okSize (rowsQ (a, b, l) r) = true from g.rowsOk _]
      rfl
    have hsz := g.size
    rw [hR, hW, hE, decide_eq_true (by omega : 0 ≤ a ∧ a ≤ 256 ∧ b ≤ 256), okRs_of _ a.toNat b.toNat (fun x y _ _ _ _ => by rw [F70_eq bo.len ho]; rfl) b.toNat 0 (Int.le_refl _) (by omega),
      okRs_of (F72 checkM (binL (2 * r)) (rowsQ (a, b, l) r) r (a, b, l)) a.toNat b.toNat (fun x y _ _ _ _ => by rw [F72_eq (m := (a, b, l)) (hK x y)]; rfl) b.toNat 0 (Int.le_refl _) (by omega),
      rowsG_congrR (g := fI (F72 checkM (binL (2 * r)) (rowsQ (a, b, l) r) r (a, b, l))) (g' := featV (a, b, l) r) a.toNat b.toNat (fun x y _ _ _ _ => by unfold fI; rw [F72_eq (m := (a, b, l)) (hK x y)]; rfl) b.toNat 0 (Int.le_refl _) (by omega)]
    rfl
  · rw [if_pos hc, bne_iff_ne.mpr hc]
    rfl
theorem m32 : Meets Try.prog 32 (gate (pT dMI) (sp dMI fun a => mev (featM a.1 a.2))) := mG (rdE (l := L32 checkM) (eg_cons m30 (eg_cons m48 (eg_cons m69 (eg_cons m70 (eg_cons m72 eg_nil))))) (fn := Try.f32) (k := 2) (by kernel_rfl) (by kernel_rfl) (of_decide_eq_true (by kernel_rfl)) (by kernel_rfl)) (fun _ _ => hMI) (fun _ => ⟨rfl, Nat.le_refl _⟩)
  fun ⟨⟨a, b, l⟩, r⟩ _ => e32 a b l r
end Go.Proofs.Ytkeildnpemiacaa.Ev
