/- How long the slices are that a law is given: what the statement's own premise on sizes says of them. Conditions: the premise. -/
import Derived.Test.YtbgfgadekmemeaaFv
import Derived.SizedLaws
namespace Go.Proofs.Ytbgfgadekmemeaa.Ev
open Go.RowKit
set_option linter.unusedVariables false
section
variable {P : Program} {w : World} {H : Type} {enc : TypeId × Value → H} {base : Nat} {spare : Nat → Bool} {held : Bool}

def small {H : Type} (P : Program) (t : TypeId) (d : DataW H) : Prop := ∀ n ∈ d.weights P t, n ≤ reachBytes
theorem small_of {ts : List TypeId} {ds : List (DataW H)} (h : (DataW.weightsEach P ts ds).all (· ≤ reachBytes) = true) {j : Nat} {t : TypeId} {d : DataW H} (ht : ts[j]? = some t) (hd : ds[j]? = some d) : small P t d := by
  intro n hn
  have := List.all_eq_true.1 h n (DataW.weights_mem_each ht hd n hn)
  simpa using this
/-- A slice's length. -/
theorem small_len {t e : TypeId} {fuel : Nat} {A : Option Addr} {len cap : Nat} {d : DataW H} {ps : List MemPlace} (ht : P.underlying t = some (.slice e)) (hb : 1 ≤ P.bytesOf e)
    (h : DataW.trod enc P w base spare held fuel t [Value.slice A len cap] = some (d, ps)) (hs : small P t d) : len < 4611686018427387904 := by
  rcases DataW.trod_slice ht h with ⟨e1, _⟩ | ⟨a, len', cap', elems, rest, m, _, e1, e2, _, _, hl, hlen, hel, _, _⟩
  · have e3 := (List.cons.inj e1).1
    have e4 : len = 0 := by injection e3
    rw [e4]; decide
  · have e3 := (List.cons.inj e1).1
    have e4 : len = len' := by injection e3
    have hd : d = .slice (elems.map (·.1)) (rest.map (·.1)) := congrArg (·.1) e2
    have := hs (((elems.map (·.1)).length + (rest.map (·.1)).length) * P.bytesOf e) (by rw [hd]; simp [DataW.weights, ht])
    have h1 : len' * 1 ≤ ((elems.map (·.1)).length + (rest.map (·.1)).length) * P.bytesOf e := Nat.mul_le_mul (by rw [List.length_map, hlen]; omega) hb
    have h2 : reachBytes = 140737488351232 := rfl
    omega
theorem open_poly_sized {t e : TypeId} (ht : P.underlying t = some (.slice e)) (he : wordsB P e 2 = true) (hb : 1 ≤ P.bytesOf e) {r : Reach} {b0 : Nat} {v : Value} {d : DataW H} {ps : List MemPlace} (hval : Value.okWide P w r b0 t v)
    (hd : DataW.Trod enc P w base spare held t v d ps) (hs : small P t d) : ∃ l : List (Int × Int), Told P w (.rv (.sc (.sl none (.pts l)))) v ∧ l.length < 4611686018427387904 := by
  obtain ⟨l, u, h1, h2, h3⟩ := open_poly ht he hval hd
  refine ⟨l, ⟨u, h1, h2, h3⟩, ?_⟩
  cases h1
  obtain ⟨A, cap, hv, _⟩ := (show RelSc P (fixG w) w (0, 0) (.sl none (.pts l)) v from h3 0)
  obtain ⟨fuel, hd⟩ := hd
  rw [hv] at hd
  exact small_len ht hb hd hs
end
end Go.Proofs.Ytbgfgadekmemeaa.Ev
