/- How long the slices are that a law is given: what the statement's own premise on sizes says of them. Conditions: the premise. -/
import Derived.Test.YtbgfgadekmemeaaFv
import Derived.SizedLaws
namespace Go.Proofs.Ytbgfgadekmemeaa.Ev
open Go.RowKit
set_option linter.unusedVariables false
section
variable {P : Program} {w : World} {H : Type} {enc : TypeId × Value → H} {base : Nat} {spare : Nat → Bool} {held : Bool}

def small {H : Type} (P : Program) (t : TypeId) (d : DataW H) : Prop := ∀ n ∈ d.weights P t, n ≤ reachBytes
theorem small_of {ts : List TypeId} {ds : List (DataW H)} (h : (DataW.weightsEach P ts ds).all (· ≤ reachBytes) = true) {j : Nat} {t : TypeId} {d : DataW H} (ht : ts[j]? = some t) (hd : ds[j]? = some d) : small P t d := by
  intro n hn
  have := List.all_eq_true.1 h n (DataW.weights_mem_each ht hd n hn)
  simpa using this
/-- A slice's length. -/
theorem small_len {t e : TypeId} {fuel : Nat} {A : Option Addr} {len cap : Nat} {d : DataW H} {ps : List MemPlace} (ht : P.underlying t = some (.slice e)) (hb : 1 ≤ P.bytesOf e)
    (h : DataW.trod enc P w base spare held fuel t [Value.slice A len cap] = some (d, ps)) (hs : small P t d) : len < 4611686018427387904 := by
  rcases DataW.trod_slice ht h with ⟨e1, _⟩ | ⟨a, len', cap', elems, rest, m, _, e1, e2, _, _, hl, hlen, hel, _, _⟩
  · have e3 := (List.cons.inj e1).1
    have e4 : len = 0 := by injection e3
    rw [e4]; decide
  · have e3 := (List.cons.inj e1).1
    have e4 : len = len' := by injection e3
    have hd : d = .slice (elems.map (·.1)) (rest.map (·.1)) := congrArg (·.1) e2
    have := hs (((elems.map (·.1)).length + (rest.map (·.1)).length) * P.bytesOf e) (by rw [hd]; simp [DataW.weights, ht])
    have h1 : len' * 1 ≤ ((elems.map (·.1)).length + (rest.map (·.1)).length) * P.bytesOf e := Nat.mul_le_mul (by rw [List.length_map, hlen]; omega) hb
    have h2 : reachBytes = 140737488351232 := rfl
    omega
theorem open_poly_sized {t e : TypeId} (ht : P.underlying t = some (.slice e)) (he : wordsB P e 2 = true) (hb : 1 ≤ P.bytesOf e) {r : Reach} {b0 : Nat} {v : Value} {d : DataW H} {ps : List MemPlace} (hval : Value.okWide P w r b0 t v)
    (hd : DataW.Trod enc P w base spare held t v d ps) (hs : small P t d) : ∃ l : List (Int × Int), Told P w (.rv (.sc (.sl none (.pts l)))) v ∧ l.length < 4611686018427387904 := by
  obtain ⟨l, u, h1, h2, h3⟩ := open_poly ht he hval hd
  refine ⟨l, ⟨u, h1, h2, h3⟩, ?_⟩
  cases h1
  obtain ⟨A, cap, hv, _⟩ := (show RelSc P (fixG w) w (0, 0) (.sl none (.pts l)) v from h3 0)
  obtain ⟨fuel, hd⟩ := hd
  rw [hv] at hd
  exact small_len ht hb hd hs
/-- A reading of a slice of so many elements. -/
def LenOf {H : Type} (n : Nat) (d : DataW H) : Prop := (d = .nil ∧ n = 0) ∨ ∃ es sp, d = .slice es sp ∧ es.length = n
theorem lenOf_trod {t e : TypeId} {fuel : Nat} {A : Option Addr} {len cap : Nat} {d : DataW H} {ps : List MemPlace} (ht : P.underlying t = some (.slice e))
    (h : DataW.trod enc P w base spare held fuel t [Value.slice A len cap] = some (d, ps)) : LenOf len d := by
  rcases DataW.trod_slice ht h with ⟨e1, e2⟩ | ⟨a, len', cap', elems, rest, m, _, e1, e2, _, _, hl, hlen, hel, _, _⟩
  · have e3 := (List.cons.inj e1).1
    have e4 : len = 0 := by injection e3
    exact .inl ⟨congrArg (·.1) e2, e4⟩
  · have e3 := (List.cons.inj e1).1
    have e4 : len = len' := by injection e3
    exact .inr ⟨_, _, congrArg (·.1) e2, by rw [List.length_map, hlen, e4]⟩
/-- The readings of the polygons have their lengths. -/
theorem lens_trod {t s e : TypeId} {fuel : Nat} {v : Value} {d : DataW H} {ps : List MemPlace} (ht : P.underlying t = some (.slice s)) (hs : P.underlying s = some (.slice e)) (hc : P.cellsOf s = 1)
    (h : DataW.trod enc P w base spare held fuel t [v] = some (d, ps)) {l : List (List (Int × Int))} (hrel : RelSc P (fixG w) w (0, 0) (.sl none (.polys l)) v) :
    (l = [] ∧ d = .nil) ∨ ∃ es sp, d = .slice es sp ∧ es.length = l.length ∧ ∀ (i : Nat) (x : List (Int × Int)), l[i]? = some x → ∃ y, es[i]? = some y ∧ LenOf x.length y := by
  obtain ⟨A, cap, rfl, _, ⟨vs, ⟨hvl, hvs⟩, hrd⟩, _⟩ := hrel
  rcases DataW.trod_slice ht h with ⟨e1, e2⟩ | ⟨a, len', cap', elems, rest, m, _, e1, e2, _, _, hl, hlen, hel, _, _⟩
  · have e3 := (List.cons.inj e1).1
    have e4 : l.length = 0 := by injection e3
    exact .inl ⟨List.length_eq_zero_iff.mp e4, congrArg (·.1) e2⟩
  · have e3 := (List.cons.inj e1).1
    have e4 : A = some a := by injection e3
    have e5 : (Arr.polys l).len = len' := by injection e3
    have e5 : l.length = len' := e5
    refine .inr ⟨_, _, congrArg (·.1) e2, by rw [List.length_map, hlen, e5], fun i x hi => ?_⟩
    have hil : i < l.length := (List.getElem?_eq_some_iff.1 hi).1
    obtain ⟨B, cp, hv, _, _⟩ := hvs i x hi
    obtain ⟨ad, ead, hcm⟩ := hrd i _ hv
    have h1 := hel i (by omega)
    rw [List.getElem?_eq_getElem (by omega), hc, Option.bind_eq_some_iff] at h1
    obtain ⟨cs', h2, h3⟩ := h1
    have h4 := (World.cells?_some h2).2.2 0 (by omega)
    have h5 : ad = a := by rw [e4] at ead; exact (Option.some.inj ead).symm
    subst h5
    rw [Nat.mul_one] at h4
    have h6 : (ad.add i).add 0 = ad.add i := by simp [Addr.add]
    rw [h6, hcm.1] at h4
    have hlen1 : cs'.length = 1 := (World.cells?_some h2).2.1
    have h7 : cs' = [Value.slice B x.length cp] := by
      match cs', hlen1, h4 with
      | [u], _, h4 => simp at h4; rw [h4]
    rw [h7] at h3
    refine ⟨(elems[i]'(by omega)).1, by rw [List.getElem?_map, List.getElem?_eq_getElem (by omega)]; rfl, lenOf_trod hs (ps := (elems[i]'(by omega)).2) h3⟩
theorem all_lt {α : Type} {l : List (List α)} (h : ∀ (i : Nat) (x : List α), l[i]? = some x → x.length < 4611686018427387904) : (l.all fun x => decide (x.length < 4611686018427387904)) = true := by
  refine List.all_eq_true.2 fun x hx => ?_
  obtain ⟨i, hi⟩ := List.getElem?_of_mem hx
  exact decide_eq_true (h i x hi)
theorem weightsAll_mem {e : TypeId} : ∀ {es : List (DataW H)} {y : DataW H} {n : Nat}, y ∈ es → n ∈ y.weights P e → n ∈ DataW.weightsAll P e es
  | _ :: es, y, n, hy, hn => by
    simp only [DataW.weightsAll, List.mem_append]
    rcases List.mem_cons.1 hy with rfl | hy
    · exact .inl hn
    · exact .inr (weightsAll_mem hy hn)
theorem open_polys_sized {t s e : TypeId} (ht : P.underlying t = some (.slice s)) (hs : P.underlying s = some (.slice e)) (hc : P.cellsOf s = 1) (he : wordsB P e 2 = true) (hb : 1 ≤ P.bytesOf s) (hb2 : 1 ≤ P.bytesOf e) {r : Reach} {b0 : Nat} {v : Value} {d : DataW H} {ps : List MemPlace} (hval : Value.okWide P w r b0 t v)
    (hd : DataW.Trod enc P w base spare held t v d ps) (hsm : small P t d) : ∃ l : List (List (Int × Int)), Told P w (.rv (.sc (.sl none (.polys l)))) v ∧
      (l.length < 4611686018427387904 ∧ (l.all fun x => decide (x.length < 4611686018427387904)) = true) ∧
      ((l = [] ∧ d = .nil) ∨ ∃ es sp, d = .slice es sp ∧ es.length = l.length ∧ ∀ (i : Nat) (x : List (Int × Int)), l[i]? = some x → ∃ y, es[i]? = some y ∧ LenOf x.length y) := by
  obtain ⟨l, u, h1, h2, h3⟩ := open_polys ht hs hc he hval hd
  cases h1
  have hrel : RelSc P (fixG w) w (0, 0) (.sl none (.polys l)) v := h3 0
  obtain ⟨fuel, hd⟩ := hd
  have h32 : reachBytes = 140737488351232 := rfl
  obtain ⟨A, cap, hv, _⟩ := hrel
  have hd0 : DataW.trod enc P w base spare held fuel t [v] = some (d, ps) := by
    rw [hv] at hd ⊢
    exact hd
  have key := lens_trod ht hs hc hd0 (h3 0)
  refine ⟨l, ⟨_, rfl, h2, h3⟩, ⟨?_, all_lt fun i x hi => ?_⟩, key⟩
  · rw [hv] at hd0
    exact small_len ht hb hd0 hsm
  · rcases key with ⟨rfl, _⟩ | ⟨es, sp, hde, hel, hall⟩
    · simp at hi
    · obtain ⟨y, hy, hly⟩ := hall i x hi
      rcases hly with ⟨_, h0⟩ | ⟨es', sp', hy', hn⟩
      · omega
      · have := hsm ((es'.length + sp'.length) * P.bytesOf e) (by
          rw [hde]
          simp only [DataW.weights, ht, List.mem_cons, List.mem_append]
          refine .inr (.inl (weightsAll_mem (List.mem_of_getElem? hy) ?_))
          rw [hy']
          simp [DataW.weights, hs])
        have h1 : x.length * 1 ≤ (es'.length + sp'.length) * P.bytesOf e := Nat.mul_le_mul (by omega) hb2
        omega
end
end Go.Proofs.Ytbgfgadekmemeaa.Ev
