/- Rectangles: what they have in common, how they are moved. Conditions: none. -/
import Derived.Test.YtbgfgadekmemeaaDk
namespace Go.Proofs.Ytbgfgadekmemeaa.Ev
open Go.Proofs
set_option linter.unusedVariables false
set_option linter.unusedSimpArgs false
set_option maxRecDepth 100000
set_option maxHeartbeats 1000000

def betw (x0 y0 x1 y1 : Int) : Q := bif decide (x0 ≥ x1) || decide (y0 ≥ y1) then (0, 0, 0, 0) else (x0, y0, W (x1 - x0), W (y1 - y0))
theorem tz57 (a b c d : Int) : evalF (EG []) Try.f57 [iv a, iv b, iv c, iv d] = bif decide (a ≥ c) then oq (0, 0, 0, 0) else bif decide (b ≥ d) then oq (0, 0, 0, 0) else oq (a, b, W (c - a), W (d - b)) := by kernel_rfl
theorem mz57 : Meets Try.prog 57 (gate (pT dI4) (sp dI4 fun a => qv (betw a.1 a.2.1 a.2.2.1 a.2.2.2))) := mG (rdE eg_nil (fn := Try.f57) (k := 4) (by kernel_rfl) (by kernel_rfl) (of_decide_eq_true (by kernel_rfl)) (by kernel_rfl)) (fun _ _ => hI4) (fun _ => ⟨rfl, Nat.le_refl _⟩)
  fun ⟨a, b, c, d⟩ _ => by
    refine (tz57 a b c d).trans ?_
    show _ = oq (betw a b c d)
    unfold betw
    cases decide (a ≥ c) <;> cases decide (b ≥ d) <;> rfl
def meetP (a b : Q) : Q := betw (hi2 a.1 b.1) (hi2 a.2.1 b.2.1) (lo2 (W (a.1 + a.2.2.1)) (W (b.1 + b.2.2.1))) (lo2 (W (a.2.1 + a.2.2.2)) (W (b.2.1 + b.2.2.2)))
def Lz46 : List Entry := [(57, pT dI4, sp dI4 fun a => qv (betw a.1 a.2.1 a.2.2.1 a.2.2.2))]
theorem tz46 (a b c d a' b' c' d' : Int) : evalF (EG Lz46) Try.f46 [q4 a b c d, q4 a' b' c' d'] = oq (meetP (a, b, c, d) (a', b', c', d')) := by kernel_rfl
theorem mz46 : Meets Try.prog 46 (gate (pT dQQ) (sp dQQ fun a => qv (meetP a.1 a.2))) := mG (rdE (l := Lz46) (eg_cons mz57 eg_nil) (fn := Try.f46) (k := 2) (by kernel_rfl) (by kernel_rfl) (of_decide_eq_true (by kernel_rfl)) (by kernel_rfl)) (fun _ _ => hQQ) (fun _ => ⟨rfl, Nat.le_refl _⟩)
  fun ⟨⟨a, b, c, d⟩, a', b', c', d'⟩ _ => tz46 a b c d a' b' c' d'
def Lz27 : List Entry := [(44, pT dQ, sp dQ fun a => qv (known a)), (46, pT dQQ, sp dQQ fun a => qv (meetP a.1 a.2))]
theorem tz27 (a b c d a' b' c' d' : Int) : evalF (EG Lz27) Try.f27 [q4 a b c d, q4 a' b' c' d'] = oq (meetP (known (a, b, c, d)) (known (a', b', c', d'))) := by kernel_rfl
theorem mz27 : Meets Try.prog 27 (gate (pT dQQ) (sp dQQ fun a => qv (meetP (known a.1) (known a.2)))) := mG (rdE (l := Lz27) (eg_cons m44 (eg_cons mz46 eg_nil)) (fn := Try.f27) (k := 2) (by kernel_rfl) (by kernel_rfl) (of_decide_eq_true (by kernel_rfl)) (by kernel_rfl)) (fun _ _ => hQQ) (fun _ => ⟨rfl, Nat.le_refl _⟩)
  fun ⟨⟨a, b, c, d⟩, a', b', c', d'⟩ _ => tz27 a b c d a' b' c' d'
def withinP (a b : Q) : Bool := empty a || (decide (a.1 ≥ (known b).1) && (decide (a.2.1 ≥ (known b).2.1) && (decide (W (a.1 + a.2.2.1) ≤ W ((known b).1 + (known b).2.2.1)) && decide (W (a.2.1 + a.2.2.2) ≤ W ((known b).2.1 + (known b).2.2.2)))))
def Lz28 : List Entry := [(44, pT dQ, sp dQ fun a => qv (known a)), (24, pT dQ, sEy)]
theorem tz28 (a b c d a' b' c' d' : Int) : evalF (EG Lz28) Try.f28 [q4 a b c d, q4 a' b' c' d'] = bif empty (a, b, c, d) then ob true else bif decide (a ≥ (known (a', b', c', d')).1) then bif decide (b ≥ (known (a', b', c', d')).2.1) then bif decide (W (a + c) ≤ W ((known (a', b', c', d')).1 + (known (a', b', c', d')).2.2.1)) then ob (decide (W (b + d) ≤ W ((known (a', b', c', d')).2.1 + (known (a', b', c', d')).2.2.2))) else ob false else ob false else ob false := by kernel_rfl
theorem mz28 : Meets Try.prog 28 (gate (pT dQQ) (sp dQQ fun a => bw (withinP a.1 a.2))) := mG (rdE (l := Lz28) (eg_cons m44 (eg_cons m24 eg_nil)) (fn := Try.f28) (k := 2) (by kernel_rfl) (by kernel_rfl) (of_decide_eq_true (by kernel_rfl)) (by kernel_rfl)) (fun _ _ => hQQ) (fun _ => ⟨rfl, Nat.le_refl _⟩)
  fun ⟨⟨a, b, c, d⟩, a', b', c', d'⟩ _ => by
    refine (tz28 a b c d a' b' c' d').trans ?_
    show _ = ob (withinP (a, b, c, d) (a', b', c', d'))
    unfold withinP
    dsimp only
    cases empty (a, b, c, d) <;> cases decide (a ≥ (known (a', b', c', d')).1) <;> cases decide (b ≥ (known (a', b', c', d')).2.1) <;> cases decide (W (a + c) ≤ W ((known (a', b', c', d')).1 + (known (a', b', c', d')).2.2.1)) <;> rfl
def limP (n : Int) : Int := lo2 (hi2 n (-4194304)) 4194304
theorem tz47 (a : Int) : evalF (EG []) Try.f47 [iv a] = oi (limP a) := by kernel_rfl
theorem mz47 : Meets Try.prog 47 (gate (pT dI) (sp dI fun a => iv (limP a))) := mG (rdE eg_nil (fn := Try.f47) (k := 1) (by kernel_rfl) (by kernel_rfl) (of_decide_eq_true (by kernel_rfl)) (by kernel_rfl)) (fun _ _ => hI) (fun _ => ⟨rfl, Nat.le_refl _⟩)
  fun a _ => tz47 a
theorem tz48 : evalF (EG []) Try.f48 [] = oq (-1048576, -1048576, 2097152, 2097152) := by kernel_rfl
theorem mz48 : Meets Try.prog 48 (gate (pT d0) (sp d0 fun _ => qv (-1048576, -1048576, 2097152, 2097152))) := mG (rdE eg_nil (fn := Try.f48) (k := 0) (by kernel_rfl) (by kernel_rfl) (of_decide_eq_true (by kernel_rfl)) (by kernel_rfl)) (fun _ _ => h0) (fun _ => ⟨rfl, Nat.le_refl _⟩)
  fun _ _ => tz48
def moveP (r : Q) (d : Pt) : Q := bif empty r then (0, 0, 0, 0) else meetP (W (r.1 + limP d.1), W (r.2.1 + limP d.2), r.2.2.1, r.2.2.2) (-1048576, -1048576, 2097152, 2097152)
def Lz29 : List Entry := [(24, pT dQ, sEy), (47, pT dI, sp dI fun a => iv (limP a)), (48, pT d0, sp d0 fun _ => qv (-1048576, -1048576, 2097152, 2097152)), (46, pT dQQ, sp dQQ fun a => qv (meetP a.1 a.2))]
theorem tz29 (a b c d x y : Int) : evalF (EG Lz29) Try.f29 [q4 a b c d, p2 x y] = bif empty (a, b, c, d) then oq (0, 0, 0, 0) else oq (meetP (W (a + limP x), W (b + limP y), c, d) (-1048576, -1048576, 2097152, 2097152)) := by kernel_rfl
theorem mz29 : Meets Try.prog 29 (gate (pT dQP) (sp dQP fun a => qv (moveP a.1 a.2))) := mG (rdE (l := Lz29) (eg_cons m24 (eg_cons mz47 (eg_cons mz48 (eg_cons mz46 eg_nil)))) (fn := Try.f29) (k := 2) (by kernel_rfl) (by kernel_rfl) (of_decide_eq_true (by kernel_rfl)) (by kernel_rfl)) (fun _ _ => hQP) (fun _ => ⟨rfl, Nat.le_refl _⟩)
  fun ⟨⟨a, b, c, d⟩, x, y⟩ _ => by
    refine (tz29 a b c d x y).trans ?_
    show _ = oq (moveP (a, b, c, d) (x, y))
    unfold moveP
    cases empty (a, b, c, d) <;> rfl
def areaP (r : Q) : Int := W ((known r).2.2.1 * (known r).2.2.2)
def Lz30 : List Entry := [(44, pT dQ, sp dQ fun a => qv (known a))]
theorem tz30 (a b c d : Int) : evalF (EG Lz30) Try.f30 [q4 a b c d] = oi (areaP (a, b, c, d)) := by kernel_rfl
theorem mz30 : Meets Try.prog 30 (gate (pT dQ) (sp dQ fun a => iv (areaP a))) := mG (rdE (l := Lz30) (eg_cons m44 eg_nil) (fn := Try.f30) (k := 1) (by kernel_rfl) (by kernel_rfl) (of_decide_eq_true (by kernel_rfl)) (by kernel_rfl)) (fun _ _ => hQ) (fun _ => ⟨rfl, Nat.le_refl _⟩)
  fun ⟨a, b, c, d⟩ _ => tz30 a b c d
end Go.Proofs.Ytbgfgadekmemeaa.Ev
