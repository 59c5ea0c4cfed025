/- From a contract to a law's row: opening arguments that are slices of structs of words, structs with such a slice, and slices of such slices. Conditions: none; general lemmas. -/
import Derived.Test.YtbgfgadekmemeaaFu
namespace Go.Proofs.Ytbgfgadekmemeaa.Ev
open Go.ChangeShapes Go.WideShapes Go.RowKit
set_option linter.unusedVariables false

/-- The words of a row of elements of one size: where the j-th lies. -/
theorem row_get {n : Nat} : ∀ (L : List (List Int)) (_ : ∀ x ∈ L, x.length = n) (j : Nat) (k : Int), L.flatten[j]? = some k → ∃ i r x, j = i * n + r ∧ r < n ∧ L[i]? = some x ∧ x[r]? = some k
  | [], _, j, k, h => by simp at h
  | y :: L, hl, j, k, h => by
    rw [List.flatten_cons] at h
    have hy := hl y (List.mem_cons_self ..)
    by_cases hj : j < n
    · rw [List.getElem?_append_left (by omega)] at h
      exact ⟨0, j, y, by omega, hj, rfl, h⟩
    · rw [List.getElem?_append_right (by omega)] at h
      obtain ⟨i, r, x, h1, h2, h3, h4⟩ := row_get L (fun x hx => hl x (List.mem_cons_of_mem _ hx)) (j - y.length) k h
      refine ⟨i + 1, r, x, ?_, h2, by simpa using h3, h4⟩
      rw [Nat.succ_mul]
      omega

theorem skolem {α : Type} (d : α) {len : Nat} {R : Nat → α → Prop} (h : ∀ i, i < len → ∃ x, R i x) : ∃ F : Nat → α, ∀ i, i < len → R i (F i) :=
  ⟨fun i => if hi : i < len then (h i hi).choose else d, fun i hi => by
    have : (if hi : i < len then (h i hi).choose else d) = (h i hi).choose := dif_pos hi
    simp only [this]
    exact (h i hi).choose_spec⟩
theorem range_get {α : Type} {F : Nat → α} {len i : Nat} {y : α} (h : ((List.range len).map F)[i]? = some y) : i < len ∧ y = F i := by
  have hi : i < len := by
    have := (List.getElem?_eq_some_iff.1 h).1
    simpa using this
  refine ⟨hi, ?_⟩
  rw [List.getElem?_map, List.getElem?_range hi] at h
  exact (Option.some.inj h).symm
section
variable {H : Type} {enc : TypeId × Value → H} {P : Program} {w : World} {base : Nat} {spare : Nat → Bool} {held : Bool}
theorem trod_words {t : TypeId} {n fuel : Nat} (hb : wordsB P t n = true) {cs : List Value} {x : DataW H × List MemPlace} (h : DataW.trod enc P w base spare held fuel t cs = some x) : ∃ ns : List Int, cs = ns.map (Value.int .i64) ∧ ns.length = n := by
  obtain ⟨fs, hfs, hn, hc, hf⟩ := wordsB_ok hb
  obtain ⟨xs, m, rfl, _, hl, hx, hj⟩ := DataW.trod_struct hfs h
  have hcell : ∀ j, (hj : j < cs.length) → ∃ k, cs[j] = .int .i64 k := by
    intro j hjl
    have hjf : j < fs.size := by omega
    obtain ⟨h1, h2, h3⟩ := hf j fs[j] (Array.getElem?_eq_getElem hjf)
    have h4 := hj j fs[j] (Array.getElem?_eq_getElem hjf)
    rw [h1, h3, List.getElem?_eq_getElem (by omega)] at h4
    obtain ⟨k, hk, _, hw⟩ := DataW.trod_int h2 h4
    refine ⟨k, ?_⟩
    rw [List.drop_eq_getElem_cons hjl, List.take_succ_cons, List.take_zero] at hk
    exact (List.cons.inj hk).1
  refine ⟨cs.map fun v => match v with | .int _ k => k | _ => 0, ?_, by simpa [hc] using hl⟩
  apply List.ext_getElem
  · simp
  · intro j h1 h2
    obtain ⟨k, hk⟩ := hcell j h1
    simp [hk]
/-- A slice of structs of n words: its words. -/
theorem told_rows {t e : TypeId} {n fuel : Nat} {cs : List Value} {x : DataW H × List MemPlace} (ht : P.underlying t = some (.slice e)) (he : wordsB P e n = true)
    (h : DataW.trod enc P w base spare held fuel t cs = some x) : ∃ (L : List (List Int)) (A : Option Addr) (cap : Nat), cs = [Value.slice A L.length cap] ∧ L.length ≤ cap ∧ (∀ y ∈ L, y.length = n) ∧ Reads (fixG w) w A (L.flatten.map (Value.int .i64)) := by
  rcases DataW.trod_slice ht h with ⟨rfl, _⟩ | ⟨a, len, cap, elems, rest, m, _, rfl, _, _, hl, _, hlen, hel, _, _⟩
  · exact ⟨[], none, 0, rfl, Nat.le_refl _, (fun y hy => absurd hy (List.not_mem_nil)), fun j v hj => by simp at hj⟩
  · obtain ⟨fs, hfs, hn, hc, hf⟩ := wordsB_ok he
    have each : ∀ i, i < len → ∃ ns : List Int, ns.length = n ∧ ∀ r, r < n → w.cell? ((a.add (i * n)).add r) = (ns.map (Value.int .i64))[r]? := by
      intro i hi
      have h1 := hel i hi
      rw [List.getElem?_eq_getElem (by omega), hc, Option.bind_eq_some_iff] at h1
      obtain ⟨cs', h2, h3⟩ := h1
      obtain ⟨ns, rfl, hns⟩ := trod_words he h3
      exact ⟨ns, hns, (World.cells?_some h2).2.2⟩
    obtain ⟨F, hF⟩ := skolem [] each
    have hlen' : ((List.range len).map F).length = len := by simp
    have hall : ∀ y ∈ (List.range len).map F, y.length = n := fun y hy => by
      obtain ⟨i, hi⟩ := List.getElem?_of_mem hy
      obtain ⟨hl, rfl⟩ := range_get hi
      exact (hF i hl).1
    refine ⟨(List.range len).map F, some a, cap, by rw [hlen'], by omega, hall, fun j v hj => ⟨a, rfl, ?_⟩⟩
    rw [List.getElem?_map, Option.map_eq_some_iff] at hj
    obtain ⟨k, hk, rfl⟩ := hj
    obtain ⟨i, r, x, rfl, hr, hx, hxr⟩ := row_get (n := n) _ hall j k hk
    obtain ⟨hi, rfl⟩ := range_get hx
    have := (hF i hi).2 r hr
    rw [add_add, List.getElem?_map, hxr] at this
    exact cm_fix this
def quadOf : List Int → Int × Int × Int × Int
  | [a, b, c, d] => (a, b, c, d)
  | _ => (0, 0, 0, 0)
def pairOf : List Int → Int × Int
  | [a, b] => (a, b)
  | _ => (0, 0)
theorem quads_flat : ∀ (L : List (List Int)) (_ : ∀ y ∈ L, y.length = 4), L.flatten.map (Value.int .i64) = (L.map quadOf).flatMap quadV
  | [], _ => rfl
  | y :: L, h => by
    obtain ⟨a, b, c, d, rfl⟩ := list4 (h y (List.mem_cons_self ..))
    have := quads_flat L fun y hy => h y (List.mem_cons_of_mem _ hy)
    rw [List.flatten_cons, List.map_append, this]
    rfl
theorem pairs_flat : ∀ (L : List (List Int)) (_ : ∀ y ∈ L, y.length = 2), L.flatten.map (Value.int .i64) = (L.map pairOf).flatMap pairV
  | [], _ => rfl
  | y :: L, h => by
    obtain ⟨a, b, rfl⟩ := list2 (h y (List.mem_cons_self ..))
    have := pairs_flat L fun y hy => h y (List.mem_cons_of_mem _ hy)
    rw [List.flatten_cons, List.map_append, this]
    rfl
theorem told_quads {t e : TypeId} {fuel : Nat} {cs : List Value} {x : DataW H × List MemPlace} (ht : P.underlying t = some (.slice e)) (he : wordsB P e 4 = true)
    (h : DataW.trod enc P w base spare held fuel t cs = some x) : ∃ (l : List (Int × Int × Int × Int)) (v : Value), cs = [v] ∧ ∀ loc, RelSc P (fixG w) w loc (.sl none (.quads l)) v := by
  obtain ⟨L, A, cap, rfl, hc, hy, hr⟩ := told_rows ht he h
  refine ⟨L.map quadOf, _, rfl, fun loc => ⟨A, cap, ?_, ?_, ⟨_, rfl, ?_⟩, fun e he => nomatch he⟩⟩
  · show Value.slice A L.length cap = Value.slice A (L.map quadOf).length cap
    rw [List.length_map]
  · show (L.map quadOf).length ≤ cap
    rw [List.length_map]; exact hc
  · rw [← quads_flat L hy]; exact hr
theorem told_pts {t e : TypeId} {fuel : Nat} {cs : List Value} {x : DataW H × List MemPlace} (ht : P.underlying t = some (.slice e)) (he : wordsB P e 2 = true)
    (h : DataW.trod enc P w base spare held fuel t cs = some x) : ∃ (l : List (Int × Int)) (A : Option Addr) (cap : Nat), cs = [Value.slice A l.length cap] ∧ l.length ≤ cap ∧ Reads (fixG w) w A (l.flatMap pairV) := by
  obtain ⟨L, A, cap, rfl, hc, hy, hr⟩ := told_rows ht he h
  exact ⟨L.map pairOf, A, cap, by rw [List.length_map], by rw [List.length_map]; exact hc, by rw [← pairs_flat L hy]; exact hr⟩
theorem told_polys {t s e : TypeId} {fuel : Nat} {cs : List Value} {x : DataW H × List MemPlace} (ht : P.underlying t = some (.slice s)) (hs : P.underlying s = some (.slice e)) (hc : P.cellsOf s = 1) (he : wordsB P e 2 = true)
    (h : DataW.trod enc P w base spare held fuel t cs = some x) : ∃ (l : List (List (Int × Int))) (v : Value), cs = [v] ∧ ∀ loc, RelSc P (fixG w) w loc (.sl none (.polys l)) v := by
  rcases DataW.trod_slice ht h with ⟨rfl, _⟩ | ⟨a, len, cap, elems, rest, m, _, rfl, _, _, hl, _, hlen, hel, _, _⟩
  · exact ⟨[], _, rfl, fun loc => ⟨none, 0, rfl, Nat.le_refl _, ⟨[], ⟨rfl, fun i l hi => by simp at hi⟩, fun j v hj => by simp at hj⟩, fun e he => nomatch he⟩⟩
  · have each : ∀ i, i < len → ∃ (z : List (Int × Int) × Value), (∃ A cap, z.2 = Value.slice A z.1.length cap ∧ z.1.length ≤ cap ∧ Reads (fixG w) w A (z.1.flatMap pairV)) ∧ w.cell? (a.add i) = some z.2 := by
      intro i hi
      have h1 := hel i hi
      rw [List.getElem?_eq_getElem (by omega), hc, Nat.mul_one, Option.bind_eq_some_iff] at h1
      obtain ⟨cs', h2, h3⟩ := h1
      obtain ⟨l, A, cap, rfl, h4, h5⟩ := told_pts hs he h3
      exact ⟨(l, _), ⟨A, cap, rfl, h4, h5⟩, cell_of_cells?_one h2⟩
    obtain ⟨F, hF⟩ := skolem ([], undef) each
    have hlen' : ((List.range len).map fun i => (F i).1).length = len := by simp
    refine ⟨(List.range len).map fun i => (F i).1, _, rfl, fun loc => ⟨some a, cap, ?_, ?_, ⟨(List.range len).map fun i => (F i).2, ⟨by simp, fun i l hi => ?_⟩, fun j v hj => ⟨a, rfl, ?_⟩⟩, fun e he => nomatch he⟩⟩
    · show Value.slice (some a) len cap = Value.slice (some a) ((List.range len).map fun i => (F i).1).length cap
      rw [hlen']
    · show ((List.range len).map fun i => (F i).1).length ≤ cap
      rw [hlen']; omega
    · obtain ⟨hil, rfl⟩ := range_get hi
      obtain ⟨⟨A, cap, h1, h2, h3⟩, _⟩ := hF i hil
      exact ⟨A, cap, by rw [List.getElem?_map, List.getElem?_range hil, Option.map_some, h1], h2, h3⟩
    · obtain ⟨hil, rfl⟩ := range_get hj
      exact cm_fix (hF j hil).2
/-- The fields are two words and a slice of pixels. -/
def imageB (P : Program) (t : TypeId) : Bool := match P.underlying t with
  | some (.struct fs) => match fs.toList with
    | [f0, f1, f2] => decide (P.cellsOf t = 3) && decide (f0.offset = 0) && decide (f1.offset = 1) && decide (f2.offset = 2) && isI64 P f0.type && isI64 P f1.type && decide (P.cellsOf f0.type = 1) && decide (P.cellsOf f1.type = 1) && decide (P.cellsOf f2.type = 1) &&
      (match P.underlying f2.type with | some (.slice e) => wordsB P e 4 | _ => false)
    | _ => false
  | _ => false
theorem open_image {t : TypeId} (hb : imageB P t = true) {r : Reach} {b0 : Nat} {v : Value} {d : DataW H} {ps : List MemPlace} (hval : Value.okWide P w r b0 t v)
    (hd : DataW.Trod enc P w base spare held t v d ps) : ∃ (a b : Int) (l : List (Int × Int × Int × Int)), Told P w (.rv (.agg [.int .i64 a, .int .i64 b, .sl none (.quads l)])) v := by
  unfold imageB at hb
  split at hb
  · rename_i fs hfs
    split at hb
    case h_2 => cases hb
    rename_i f0 f1 f2 hfl
    obtain rfl : fs = #[f0, f1, f2] := by apply Array.ext'; exact hfl
    simp only [Bool.and_eq_true, decide_eq_true_eq] at hb
    obtain ⟨⟨⟨⟨⟨⟨⟨⟨⟨h0, h1⟩, h2⟩, h3⟩, h4⟩, h5⟩, h6⟩, h7⟩, h8⟩, h9⟩ := hb
    obtain ⟨cs, rfl, hcs⟩ := okWide_struct hfs hval
    obtain ⟨fuel, hd⟩ := hd
    obtain ⟨xs, m, rfl, _, hl, hx, hj⟩ := DataW.trod_struct hfs hd
    have k0 := hj 0 f0 rfl
    have k1 := hj 1 f1 rfl
    have k2 := hj 2 f2 rfl
    rw [h1, h6] at k0
    rw [h2, h7] at k1
    rw [h3, h8] at k2
    split at h9
    · rename_i e he
      have c3 : cs.size = 3 := by omega
      have hcells : (Value.agg cs).cells.toList = [cs[0], cs[1], cs[2]] := by
        show cs.toList = _
        apply List.ext_getElem
        · simp [c3]
        · intro i h1 h2
          match i, h2 with
          | 0, _ => simp
          | 1, _ => simp
          | 2, _ => simp
      rw [hcells] at k0 k1 k2
      have e0 : List.take 1 (List.drop 0 [cs[0], cs[1], cs[2]]) = [cs[0]] := rfl
      have e1 : List.take 1 (List.drop 1 [cs[0], cs[1], cs[2]]) = [cs[1]] := rfl
      have e2 : List.take 1 (List.drop 2 [cs[0], cs[1], cs[2]]) = [cs[2]] := rfl
      rw [e0] at k0
      rw [e1] at k1
      rw [e2] at k2
      have l3 : xs.length = 3 := by first | (simpa using hx) | (rw [hx]; rfl)
      have l4 : ∃ y0 y1 y2, xs = [y0, y1, y2] := by
        match xs, l3 with
        | [y0, y1, y2], _ => exact ⟨_, _, _, rfl⟩
      obtain ⟨y0, y1, y2, hxs⟩ := l4
      rw [hxs] at k0 k1 k2
      all_goals
        have k0 : DataW.trod enc P w base spare held m f0.type [cs[0]] = some y0 := k0
        have k1 : DataW.trod enc P w base spare held m f1.type [cs[1]] = some y1 := k1
        have k2 : DataW.trod enc P w base spare held m f2.type [cs[2]] = some y2 := k2
        obtain ⟨n0, g0, _, _⟩ := DataW.trod_int (isI64_ok h4) k0
        obtain ⟨n1, g1, _, _⟩ := DataW.trod_int (isI64_ok h5) k1
        obtain ⟨l, v, g2, hrel⟩ := told_quads he h9 k2
        simp only [List.cons.injEq, and_true] at g0 g1 g2
        refine ⟨n0, n1, l, _, rfl, rfl, fun t => ⟨cs, rfl, by simp [c3], fun i s hs => ?_⟩⟩
        match i, hs with
        | 0, hs => cases hs; exact ⟨cs[0], by simp [c3], g0⟩
        | 1, hs => cases hs; exact ⟨cs[1], by simp [c3], g1⟩
        | 2, hs => cases hs; exact ⟨cs[2], by simp [c3], by rw [g2]; exact hrel _⟩
    · cases h9
  · cases hb
theorem open_poly {t e : TypeId} (ht : P.underlying t = some (.slice e)) (he : wordsB P e 2 = true) {r : Reach} {b0 : Nat} {v : Value} {d : DataW H} {ps : List MemPlace} (hval : Value.okWide P w r b0 t v)
    (hd : DataW.Trod enc P w base spare held t v d ps) : ∃ l : List (Int × Int), Told P w (.rv (.sc (.sl none (.pts l)))) v := by
  obtain ⟨a0, len, cap, rfl⟩ := okWide_slice ht hval
  obtain ⟨fuel, hd⟩ := hd
  obtain ⟨l, A, cap', hcs, h1, h2⟩ := told_pts ht he hd
  have hv : Value.slice a0 len cap = Value.slice A l.length cap' := (List.cons.inj (show [Value.slice a0 len cap] = _ from hcs)).1
  rw [hv]
  exact ⟨l, _, rfl, rfl, fun t => ⟨A, cap', rfl, h1, ⟨_, rfl, h2⟩, fun e he => nomatch he⟩⟩
theorem open_polys {t s e : TypeId} (ht : P.underlying t = some (.slice s)) (hs : P.underlying s = some (.slice e)) (hc : P.cellsOf s = 1) (he : wordsB P e 2 = true) {r : Reach} {b0 : Nat} {v : Value} {d : DataW H} {ps : List MemPlace} (hval : Value.okWide P w r b0 t v)
    (hd : DataW.Trod enc P w base spare held t v d ps) : ∃ l : List (List (Int × Int)), Told P w (.rv (.sc (.sl none (.polys l)))) v := by
  obtain ⟨a0, len, cap, rfl⟩ := okWide_slice ht hval
  obtain ⟨fuel, hd⟩ := hd
  obtain ⟨l, u, hcs, h1⟩ := told_polys ht hs hc he hd
  have hv : Value.slice a0 len cap = u := (List.cons.inj (show [Value.slice a0 len cap] = _ from hcs)).1
  rw [hv]
  exact ⟨l, _, rfl, rfl, fun t => h1 _⟩
end
end Go.Proofs.Ytbgfgadekmemeaa.Ev
