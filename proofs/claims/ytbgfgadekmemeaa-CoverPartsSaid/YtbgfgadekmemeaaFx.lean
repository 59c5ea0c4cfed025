/- How long the slices are that a law is given, told more sharply: what the statement's own premise on sizes says of their bytes. Conditions: the premise. -/
import Derived.Test.YtbgfgadekmemeaaFw
namespace Go.Proofs.Ytbgfgadekmemeaa.Ev
open Go.RowKit
set_option linter.unusedVariables false
section
variable {P : Program} {w : World} {H : Type} {enc : TypeId × Value → H} {base : Nat} {spare : Nat → Bool} {held : Bool}
theorem big_len {t e : TypeId} {fuel : Nat} {A : Option Addr} {len cap : Nat} {d : DataW H} {ps : List MemPlace} (ht : P.underlying t = some (.slice e))
    (h : DataW.trod enc P w base spare held fuel t [Value.slice A len cap] = some (d, ps)) (hs : small P t d) : len * P.bytesOf e ≤ 140737488351232 := by
  rcases DataW.trod_slice ht h with ⟨e1, _⟩ | ⟨a, len', cap', elems, rest, m, _, e1, e2, _, _, hl, hlen, hel, _, _⟩
  · have e3 := (List.cons.inj e1).1
    have e4 : len = 0 := by injection e3
    rw [e4, Nat.zero_mul]; decide
  · have e3 := (List.cons.inj e1).1
    have e4 : len = len' := by injection e3
    have hd : d = .slice (elems.map (·.1)) (rest.map (·.1)) := congrArg (·.1) e2
    have := hs (((elems.map (·.1)).length + (rest.map (·.1)).length) * P.bytesOf e) (by rw [hd]; simp [DataW.weights, ht])
    have h1 : len' * P.bytesOf e ≤ ((elems.map (·.1)).length + (rest.map (·.1)).length) * P.bytesOf e := Nat.mul_le_mul (by rw [List.length_map, hlen]; omega) (Nat.le_refl _)
    have h2 : reachBytes = 140737488351232 := rfl
    rw [e4]
    omega
theorem open_polys_big {t s e : TypeId} (ht : P.underlying t = some (.slice s)) (hs : P.underlying s = some (.slice e)) (hc : P.cellsOf s = 1) (he : wordsB P e 2 = true) (hb : P.bytesOf s = 24) (hb2 : P.bytesOf e = 16) {r : Reach} {b0 : Nat} {v : Value} {d : DataW H} {ps : List MemPlace} (hval : Value.okWide P w r b0 t v)
    (hd : DataW.Trod enc P w base spare held t v d ps) (hsm : small P t d) : ∃ l : List (List (Int × Int)), Told P w (.rv (.sc (.sl none (.polys l)))) v ∧
      (l.length * 24 ≤ 140737488351232 ∧ (l.all fun x => decide (x.length * 16 ≤ 140737488351232)) = true) := by
  obtain ⟨l, u, h1, h2, h3⟩ := open_polys ht hs hc he hval hd
  cases h1
  have hrel : RelSc P (fixG w) w (0, 0) (.sl none (.polys l)) v := h3 0
  obtain ⟨fuel, hd⟩ := hd
  have h32 : reachBytes = 140737488351232 := rfl
  obtain ⟨A, cap, hv, _⟩ := hrel
  have hd0 : DataW.trod enc P w base spare held fuel t [v] = some (d, ps) := by
    rw [hv] at hd ⊢
    exact hd
  have key := lens_trod ht hs hc hd0 (h3 0)
  refine ⟨l, ⟨_, rfl, h2, h3⟩, ?_, List.all_eq_true.2 fun x hx => decide_eq_true ?_⟩
  · rw [hv] at hd0
    have := big_len ht hd0 hsm
    rwa [hb] at this
  · obtain ⟨i, hi⟩ := List.getElem?_of_mem hx
    rcases key with ⟨rfl, _⟩ | ⟨es, sp, hde, hel, hall⟩
    · simp at hi
    · obtain ⟨y, hy, hly⟩ := hall i x hi
      rcases hly with ⟨_, h0⟩ | ⟨es', sp', hy', hn⟩
      · omega
      · have := hsm ((es'.length + sp'.length) * P.bytesOf e) (by
          rw [hde]
          simp only [DataW.weights, ht, List.mem_cons, List.mem_append]
          refine .inr (.inl (weightsAll_mem (List.mem_of_getElem? hy) ?_))
          rw [hy']
          simp [DataW.weights, hs])
        rw [hb2] at this
        omega
end
end Go.Proofs.Ytbgfgadekmemeaa.Ev
