/- From a contract to a law's row: opening arguments that are structs with a slice of words. Conditions: none; general lemmas. -/
import Derived.Test.YtbgfgadekmemeaaFs
import Derived.ChangeSlices
namespace Go.Proofs.Ytbgfgadekmemeaa.Ev
open Go.ChangeShapes Go.WideShapes Go.RowKit
set_option linter.unusedVariables false

/-- All that lies in a world is fixed. -/
def fixG (w : World) : Gh := ⟨fun _ => none, fun b => match w.heap[b]? with
  | some (.cells cs _ _) => cs.size
  | _ => 0⟩
theorem cm_fix {w : World} {a : Addr} {v : Value} (h : w.cell? a = some v) : Cm (fixG w) w a v := by
  refine ⟨h, ?_⟩
  obtain ⟨ha, _⟩ := cell_addr h
  rw [ha] at h
  unfold World.cell? at h
  simp only [fixG]
  split at h
  · rename_i cs ty cm hb
    rw [hb]
    simp only at h ⊢
    have := (Array.getElem?_eq_some_iff.1 h).1
    exact this
  · cases h

section
variable {H : Type} {enc : TypeId × Value → H} {P : Program} {w : World} {base : Nat} {spare : Nat → Bool} {held : Bool}
theorem told_ints {t e : TypeId} {fuel : Nat} {cs : List Value} {x : DataW H × List MemPlace} (ht : P.underlying t = some (.slice e)) (he : P.underlying e = some (.int .i64)) (hc : P.cellsOf e = 1)
    (h : DataW.trod enc P w base spare held fuel t cs = some x) : ∃ (l : List Int) (v : Value), cs = [v] ∧ ∀ loc, RelSc P (fixG w) w loc (.sl none (.ints l)) v := by
  rcases open_ints ht he hc h with ⟨rfl, _⟩ | ⟨a, len, cap, zs, rfl, _, hlc, _, hzl, _, hcell, _⟩
  · exact ⟨[], _, rfl, fun loc => ⟨none, 0, rfl, Nat.le_refl _, ⟨[], rfl, fun j v hj => by simp at hj⟩, fun e he => nomatch he⟩⟩
  · have hlen : len ≤ zs.length := by rw [hzl]; split <;> omega
    refine ⟨zs.take len, _, rfl, fun loc => ⟨some a, cap, ?_, ?_, ⟨(zs.take len).map (.int .i64), rfl, fun j v hj => ⟨a, rfl, ?_⟩⟩, fun e he => nomatch he⟩⟩
    · show Value.slice (some a) len cap = Value.slice (some a) (zs.take len).length cap
      rw [List.length_take, Nat.min_eq_left hlen]
    · show (zs.take len).length ≤ cap
      rw [List.length_take]; omega
    · rw [List.getElem?_map, Option.map_eq_some_iff] at hj
      obtain ⟨n, hn, rfl⟩ := hj
      have hjl : j < zs.length := by
        have := (List.getElem?_eq_some_iff.1 hn).1
        rw [List.length_take] at this; omega
      have hh := hcell j hjl
      have e : zs.getD j 0 = n := by
        rw [List.getElem?_take] at hn
        split at hn
        · rw [List.getD_eq_getElem?_getD, hn]; rfl
        · cases hn
      rw [e] at hh
      exact cm_fix hh
/-- The fields are two words and a slice of words. -/
def maskB (P : Program) (t : TypeId) : Bool := match P.underlying t with
  | some (.struct fs) => match fs.toList with
    | [f0, f1, f2] => decide (P.cellsOf t = 3) && decide (f0.offset = 0) && decide (f1.offset = 1) && decide (f2.offset = 2) && isI64 P f0.type && isI64 P f1.type && decide (P.cellsOf f0.type = 1) && decide (P.cellsOf f1.type = 1) && decide (P.cellsOf f2.type = 1) &&
      (match P.underlying f2.type with | some (.slice e) => isI64 P e && decide (P.cellsOf e = 1) | _ => false)
    | _ => false
  | _ => false
/-- What an argument is told to be. -/
def Told (P : Program) (w : World) (x : AV) (v : Value) : Prop := ∃ r, x = .rv r ∧ r.ro = r ∧ ∀ t, RelRV P (fixG w) w t r v
theorem Plain.told {x : AV} {v : Value} (h : Plain x v) : Told P w x v := by
  have key : ∀ i, RelA P (fixG w) w ⟨#[], []⟩ i x v ∧ ∃ r, x = .rv r ∧ r.ro = r := fun i => h.rel P (fixG w) w ⟨#[], []⟩ i
  obtain ⟨_, r, rfl, hr⟩ := key 0
  exact ⟨r, rfl, hr, fun t => (key t).1⟩
theorem told_of {x : AV} {vs : Array Value} {i : Nat} (h : ∃ v, vs[i]? = some v ∧ Plain x v) : ∃ v, vs[i]? = some v ∧ Told P w x v :=
  let ⟨v, h1, h2⟩ := h
  ⟨v, h1, h2.told⟩
theorem open_mask {t : TypeId} (hb : maskB P t = true) {r : Reach} {b0 : Nat} {v : Value} {d : DataW H} {ps : List MemPlace} (hval : Value.okWide P w r b0 t v)
    (hd : DataW.Trod enc P w base spare held t v d ps) : ∃ (a b : Int) (l : List Int), Told P w (.rv (.agg [.int .i64 a, .int .i64 b, .sl none (.ints l)])) v := by
  unfold maskB at hb
  split at hb
  · rename_i fs hfs
    split at hb
    case h_2 => cases hb
    rename_i f0 f1 f2 hfl
    obtain rfl : fs = #[f0, f1, f2] := by apply Array.ext'; exact hfl
    simp only [Bool.and_eq_true, decide_eq_true_eq] at hb
    obtain ⟨⟨⟨⟨⟨⟨⟨⟨⟨h0, h1⟩, h2⟩, h3⟩, h4⟩, h5⟩, h6⟩, h7⟩, h8⟩, h9⟩ := hb
    obtain ⟨cs, rfl, hcs⟩ := okWide_struct hfs hval
    obtain ⟨fuel, hd⟩ := hd
    obtain ⟨xs, m, rfl, _, hl, hx, hj⟩ := DataW.trod_struct hfs hd
    have k0 := hj 0 f0 rfl
    have k1 := hj 1 f1 rfl
    have k2 := hj 2 f2 rfl
    rw [h1, h6] at k0
    rw [h2, h7] at k1
    rw [h3, h8] at k2
    split at h9
    · rename_i e he
      simp only [Bool.and_eq_true, decide_eq_true_eq] at h9
      have c3 : cs.size = 3 := by omega
      have hcells : (Value.agg cs).cells.toList = [cs[0], cs[1], cs[2]] := by
        show cs.toList = _
        apply List.ext_getElem
        · simp [c3]
        · intro i h1 h2
          match i, h2 with
          | 0, _ => simp
          | 1, _ => simp
          | 2, _ => simp
      rw [hcells] at k0 k1 k2
      have e0 : List.take 1 (List.drop 0 [cs[0], cs[1], cs[2]]) = [cs[0]] := rfl
      have e1 : List.take 1 (List.drop 1 [cs[0], cs[1], cs[2]]) = [cs[1]] := rfl
      have e2 : List.take 1 (List.drop 2 [cs[0], cs[1], cs[2]]) = [cs[2]] := rfl
      rw [e0] at k0
      rw [e1] at k1
      rw [e2] at k2
      have l3 : xs.length = 3 := by first | (simpa using hx) | (rw [hx]; rfl)
      have l4 : ∃ y0 y1 y2, xs = [y0, y1, y2] := by
        match xs, l3 with
        | [y0, y1, y2], _ => exact ⟨_, _, _, rfl⟩
      obtain ⟨y0, y1, y2, hxs⟩ := l4
      rw [hxs] at k0 k1 k2
      all_goals
        have k0 : DataW.trod enc P w base spare held m f0.type [cs[0]] = some y0 := k0
        have k1 : DataW.trod enc P w base spare held m f1.type [cs[1]] = some y1 := k1
        have k2 : DataW.trod enc P w base spare held m f2.type [cs[2]] = some y2 := k2
        obtain ⟨n0, g0, _, _⟩ := DataW.trod_int (isI64_ok h4) k0
        obtain ⟨n1, g1, _, _⟩ := DataW.trod_int (isI64_ok h5) k1
        obtain ⟨l, v, g2, hrel⟩ := told_ints he (isI64_ok h9.1) h9.2 k2
        simp only [List.cons.injEq, and_true] at g0 g1 g2
        refine ⟨n0, n1, l, _, rfl, rfl, fun t => ⟨cs, rfl, by simp [c3], fun i s hs => ?_⟩⟩
        match i, hs with
        | 0, hs => cases hs; exact ⟨cs[0], by simp [c3], g0⟩
        | 1, hs => cases hs; exact ⟨cs[1], by simp [c3], g1⟩
        | 2, hs => cases hs; exact ⟨cs[2], by simp [c3], by rw [g2]; exact hrel _⟩
    · cases h9
  · cases hb
end
/-- The call of a law whose arguments are told: it answers the bool, and leaves what lay ahead of it. -/
theorem law_told {P : Program} {f : FuncId} {S : Spec} (hM : Meets P f S) {us : List AV} {b : Bool} (hS : S us = some (bw b, [])) {vs : Array Value} (hs : vs.size = us.length) (W : World)
    (hv : ∀ (i : Nat) (x : AV), us[i]? = some x → ∃ v, vs[i]? = some v ∧ Told P W x v) : Calls P f vs W fun e w' => e = .returned (.bool b) ∧ Below W.heap.size W w' := by
  obtain ⟨_, h⟩ := hM us _ _ hS
  refine (h vs (fixG W) W ⟨#[], []⟩ hs ?_ ?_).mono ?_
  · intro i x hx
    obtain ⟨v, h1, r, rfl, h4, h5⟩ := hv i x hx
    exact ⟨v, h1, h5 i, .inl ⟨r, rfl, h4⟩⟩
  · intro b _ hb
    exact absurd rfl hb
  · rintro e w' ⟨v, c', rfl, hfr, _, _, hrel, _⟩
    refine ⟨by rw [show v = .bool b from hrel], hfr.os, hfr.tape, hfr.output, hfr.size, fun k hk => hfr.block k hk (fun hh => hh rfl)⟩
end Go.Proofs.Ytbgfgadekmemeaa.Ev
