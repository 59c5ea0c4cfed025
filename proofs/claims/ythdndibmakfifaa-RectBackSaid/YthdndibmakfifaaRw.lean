/- That the law of going back answers true. Conditions: none. -/
import Derived.Test.YthdndibmakfifaaRn
namespace Go.Proofs.Ythdndibmakfifaa.Ev
open Go.Proofs
set_option linter.unusedVariables false
set_option maxRecDepth 100000
set_option maxHeartbeats 0

def G11 (mo : Q → Pt → Q) (g : Q → Int → Q) (ar : Q → Int) : List (FuncId × Spec) := [(12, s0 (bw true)), (27, sRP fun r p => qv (mo r p)), (29, sRI fun r p => qv (g r p)), (19, sR fun r => iv (ar r))]
theorem g11 : ∀ f, Meets Try.prog f (specsOf (G11 move grow area) f) := specs_cons m12 (specs_cons m27 (specs_cons m29 (specs_cons m19 specs_nil)))
def tree11 (mo : Q → Pt → Q) (g : Q → Int → Q) (ar : Q → Int) (A : Q) (P : Pt) (k : Int) : Option (AV × List AV) :=
  bif sq (mo (mo A P) (W (0 - P.1), W (0 - P.2))) A then bif sq (g (g A k) (W (0 - k))) A then ob (ar (mo A P) == ar A) else ob false else ob false
theorem t11 (mo : Q → Pt → Q) (g : Q → Int → Q) (ar : Q → Int) (a b c d x y n : Int) : evalF (E (G11 mo g ar)) Try.f11 [q4 a b c d, p2 x y, iw .u8 n] =
    bif decide (c < 1) then ob true else bif decide (c > 1000) then ob true else bif decide (d < 1) then ob true else bif decide (d > 1000) then ob true else
    tree11 mo g ar (a.tmod 1000, b.tmod 1000, c, d) (x.tmod 1000, y.tmod 1000) (W n) := by kernel_rfl
theorem meet_world {a b c d : Int} (h1 : -1048576 ≤ a) (h2 : a + c ≤ 1048576) (h3 : -1048576 ≤ b) (h4 : b + d ≤ 1048576) (hc : 0 < c) (hd : 0 < d) : meet (a, b, c, d) worldQ = (a, b, c, d) := by
  unfold worldQ
  rw [meet_plain (by omega) (by omega), show mx a (-1048576) = a by unfold mx; split <;> omega, show mx b (-1048576) = b by unfold mx; split <;> omega,
    show mn (a + c) (-1048576 + 2097152) = a + c by unfold mn; split <;> omega, show mn (b + d) (-1048576 + 2097152) = b + d by unfold mn; split <;> omega]
  unfold between
  rw [if_pos (by omega), W_eq (n := a + c - a) (by omega) (by omega), W_eq (n := b + d - b) (by omega) (by omega), show a + c - a = c by omega, show b + d - b = d by omega]
theorem limit_id {n : Int} (h1 : -4194304 ≤ n) (h2 : n ≤ 4194304) : limit n = n := by
  have := (lim_or n).1
  omega
theorem move_small {a b c d x y : Int} (ha : -100000 ≤ a ∧ a ≤ 100000) (hb : -100000 ≤ b ∧ b ≤ 100000) (hc : 0 < c ∧ c ≤ 100000) (hd : 0 < d ∧ d ≤ 100000) (hx : -100000 ≤ x ∧ x ≤ 100000) (hy : -100000 ≤ y ∧ y ≤ 100000) :
    move (a, b, c, d) (x, y) = (a + x, b + y, c, d) := by
  have he : empty (a, b, c, d) = false := (nonempty_iff ..).mpr ⟨(valid_iff ..).mpr (by omega), by omega, by omega⟩
  unfold move
  rw [he, if_neg (by decide), limit_id (by omega) (by omega), limit_id (by omega) (by omega)]
  exact meet_world (a := a + x) (b := b + y) (c := c) (d := d) (by omega) (by omega) (by omega) (by omega) (by omega) (by omega)
theorem grow_small {a b c d n : Int} (ha : -100000 ≤ a ∧ a ≤ 100000) (hb : -100000 ≤ b ∧ b ≤ 100000) (hc : 0 < c ∧ c ≤ 100000) (hd : 0 < d ∧ d ≤ 100000) (hn : -100000 ≤ n ∧ n ≤ 100000) (h1 : 0 < c + 2 * n) (h2 : 0 < d + 2 * n) :
    grow (a, b, c, d) n = (a - n, b - n, c + 2 * n, d + 2 * n) := by
  have he : empty (a, b, c, d) = false := (nonempty_iff ..).mpr ⟨(valid_iff ..).mpr (by omega), by omega, by omega⟩
  unfold grow
  rw [he, limit_id (by omega) (by omega), if_neg (by simp only [Bool.false_eq_true, false_or]; omega)]
  exact meet_world (a := a - n) (b := b - n) (c := c + 2 * n) (d := d + 2 * n) (by omega) (by omega) (by omega) (by omega) (by omega) (by omega)
theorem tmod_small (a : Int) : -999 ≤ a.tmod 1000 ∧ a.tmod 1000 ≤ 999 := by
  have h1 := Int.lt_tmod_of_pos a (show (0 : Int) < 1000 by decide)
  have h2 := Int.tmod_lt_of_pos a (show (0 : Int) < 1000 by decide)
  omega
theorem e11 (a b c d x y n : Int) (h0 : 0 ≤ n) (h1 : n ≤ 255) : evalF (E (G11 move grow area)) Try.f11 [q4 a b c d, p2 x y, iw .u8 n] = ob true := by
  rw [t11]
  by_cases c1 : c < 1
  · rw [decide_eq_true c1]; rfl
  by_cases c2 : c > 1000
  · rw [decide_eq_false c1, decide_eq_true c2]; rfl
  by_cases c3 : d < 1
  · rw [decide_eq_false c1, decide_eq_false c2, decide_eq_true c3]; rfl
  by_cases c4 : d > 1000
  · rw [decide_eq_false c1, decide_eq_false c2, decide_eq_false c3, decide_eq_true c4]; rfl
  rw [decide_eq_false c1, decide_eq_false c2, decide_eq_false c3, decide_eq_false c4]
  have ha := tmod_small a
  have hb := tmod_small b
  have hx := tmod_small x
  have hy := tmod_small y
  generalize a.tmod 1000 = a at *
  generalize b.tmod 1000 = b at *
  generalize x.tmod 1000 = x at *
  generalize y.tmod 1000 = y at *
  unfold tree11
  have wn : W n = n := W_eq (by omega) (by omega)
  have w1 : W (0 - x) = 0 - x := W_eq (by omega) (by omega)
  have w2 : W (0 - y) = 0 - y := W_eq (by omega) (by omega)
  have w3 : W (0 - n) = 0 - n := W_eq (by omega) (by omega)
  have va : area (a, b, c, d) = c * d := by unfold area; rw [known_of ((valid_iff ..).mpr (by omega))]
  have vb : area (a + x, b + y, c, d) = c * d := by unfold area; rw [known_of ((valid_iff ..).mpr (by omega))]
  have m1 : move (a, b, c, d) (x, y) = (a + x, b + y, c, d) := move_small (by omega) (by omega) (by omega) (by omega) (by omega) (by omega)
  have m2 : move (a + x, b + y, c, d) (0 - x, 0 - y) = (a, b, c, d) := by
    rw [move_small (by omega) (by omega) (by omega) (by omega) (by omega) (by omega), show a + x + (0 - x) = a by omega, show b + y + (0 - y) = b by omega]
  have g1 : grow (a, b, c, d) n = (a - n, b - n, c + 2 * n, d + 2 * n) := grow_small (by omega) (by omega) (by omega) (by omega) (by omega) (by omega) (by omega)
  have g2 : grow (a - n, b - n, c + 2 * n, d + 2 * n) (0 - n) = (a, b, c, d) := by
    rw [grow_small (by omega) (by omega) (by omega) (by omega) (by omega) (by omega) (by omega), show a - n - (0 - n) = a by omega, show b - n - (0 - n) = b by omega,
      show c + 2 * n + 2 * (0 - n) = c by omega, show d + 2 * n + 2 * (0 - n) = d by omega]
  rw [wn, w3]
  simp only
  rw [w1, w2, m1, m2, g1, g2, sq_self, va, vb]
  simp
def sRPU (f : AV) : Spec
  | [.rv (.agg [.int .i64 a, .int .i64 b, .int .i64 c, .int .i64 d]), .rv (.agg [.int .i64 x, .int .i64 y]), .rv (.sc (.int .u8 n))] => if 0 ≤ n ∧ n ≤ 255 then some (f, []) else none
  | _ => none
theorem sRPU_ok {f : AV} {a b c d x y n : Int} (h : (Lit.int .u8 n).wf = true) : sRPU f [q4 a b c d, p2 x y, iw .u8 n] = some (f, []) := by
  have hh : 0 ≤ n ∧ n ≤ 255 := by
    have h' : (decide (IntKind.u8.min ≤ n) && decide (n ≤ IntKind.u8.max)) = true := h
    simp only [Bool.and_eq_true, decide_eq_true_eq] at h'
    exact h'
  exact if_pos hh
theorem m11 : Meets Try.prog 11 (sRPU (bw true)) :=
  (rdE g11 (n := 11) (fn := Try.f11) (k := 3) (by kernel_rfl) (by kernel_rfl) (of_decide_eq_true (by kernel_rfl)) (by kernel_rfl)).meets fun us x fin hs => by
    unfold sRPU at hs
    split at hs
    · split at hs
      · rename_i h
        cases hs; exact ⟨by simp, Nat.le_refl _, e11 _ _ _ _ _ _ _ h.1 h.2⟩
      · cases hs
    · cases hs
end Go.Proofs.Ythdndibmakfifaa.Ev
