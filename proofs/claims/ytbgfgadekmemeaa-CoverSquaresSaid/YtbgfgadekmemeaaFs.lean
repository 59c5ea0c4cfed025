/- From a contract to a law's row: opening arguments that are structs of words, and what the call of a law does. Conditions: none; general lemmas. -/
import Derived.Test.YtbgfgadekmemeaaFr
import Derived.WalkKit
import Derived.OpenShut
import Derived.ChangeOld
namespace Go.Proofs.Ytbgfgadekmemeaa.Ev
open Go.ChangeShapes Go.WideShapes Go.RowKit
set_option linter.unusedVariables false

def isI64 (P : Program) (t : TypeId) : Bool := match P.underlying t with
  | some (.int .i64) => true
  | _ => false
theorem isI64_ok {P : Program} {t : TypeId} (h : isI64 P t = true) : P.underlying t = some (.int .i64) := by
  unfold isI64 at h
  split at h
  · assumption
  · cases h
/-- Every field is a word of its own cell. -/
def wordsB (P : Program) (t : TypeId) (n : Nat) : Bool := match P.underlying t with
  | some (.struct fs) => decide (fs.size = n) && decide (P.cellsOf t = n) && (List.range n).all fun j => match fs[j]? with
    | some f => decide (f.offset = j) && isI64 P f.type && decide (P.cellsOf f.type = 1)
    | none => false
  | _ => false
theorem wordsB_ok {P : Program} {t : TypeId} {n : Nat} (h : wordsB P t n = true) : ∃ fs, P.underlying t = some (.struct fs) ∧ fs.size = n ∧ P.cellsOf t = n ∧
    ∀ (j : Nat) (f : Field), fs[j]? = some f → f.offset = j ∧ P.underlying f.type = some (.int .i64) ∧ P.cellsOf f.type = 1 := by
  unfold wordsB at h
  split at h
  · rename_i fs hfs
    simp only [Bool.and_eq_true, decide_eq_true_eq, List.all_eq_true, List.mem_range] at h
    refine ⟨fs, hfs, h.1.1, h.1.2, fun j f hf => ?_⟩
    have hj : j < n := by
      have := (Array.getElem?_eq_some_iff.mp hf).1
      omega
    have := h.2 j hj
    rw [hf] at this
    simp only [Bool.and_eq_true, decide_eq_true_eq] at this
    exact ⟨this.1.1, isI64_ok this.1.2, this.2⟩
  · cases h

section
variable {H : Type} {enc : TypeId × Value → H} {P : Program} {w : World} {base : Nat} {spare : Nat → Bool} {held : Bool}
theorem open_words {t : TypeId} {n : Nat} (hb : wordsB P t n = true) {r : Reach} {b0 : Nat} {v : Value} {d : DataW H} {ps : List MemPlace} (hval : Value.okWide P w r b0 t v)
    (hd : DataW.Trod enc P w base spare held t v d ps) : ∃ ns : List Int, v = .agg (ns.map (Value.int .i64)).toArray ∧ ns.length = n ∧ ∀ k ∈ ns, (Lit.int .i64 k).wf = true := by
  obtain ⟨fs, hfs, hn, hc, hf⟩ := wordsB_ok hb
  obtain ⟨cs, rfl, hcs⟩ := okWide_struct hfs hval
  obtain ⟨fuel, hd⟩ := hd
  obtain ⟨xs, m, rfl, _, hl, hx, hj⟩ := DataW.trod_struct hfs hd
  have hcell : ∀ j, (hj : j < cs.size) → ∃ k, cs[j] = .int .i64 k ∧ (Lit.int .i64 k).wf = true := by
    intro j hjl
    have hjf : j < fs.size := by omega
    obtain ⟨h1, h2, h3⟩ := hf j fs[j] (Array.getElem?_eq_getElem hjf)
    have h4 := hj j fs[j] (Array.getElem?_eq_getElem hjf)
    rw [h1, h3, List.getElem?_eq_getElem (by omega)] at h4
    obtain ⟨k, hk, _, hw⟩ := DataW.trod_int h2 h4
    refine ⟨k, ?_, hw⟩
    have h5 : (Value.agg cs).cells.toList.drop j = cs[j] :: cs.toList.drop (j + 1) := by
      show cs.toList.drop j = _
      rw [List.drop_eq_getElem_cons (by simpa using hjl)]
      simp
    have h6 : ((Value.agg cs).cells.toList.drop j).take 1 = [Value.int .i64 k] := hk
    rw [h5] at h6
    simpa using h6
  refine ⟨cs.toList.map fun v => match v with | .int _ k => k | _ => 0, ?_, by simpa [hcs] using hc, ?_⟩
  · congr 1
    apply Array.ext
    · simp
    · intro j h1 h2
      obtain ⟨k, hk, _⟩ := hcell j h1
      simp [hk]
  · intro k hk
    simp only [List.mem_map] at hk
    obtain ⟨v, hv, rfl⟩ := hk
    obtain ⟨j, hjl, rfl⟩ := List.mem_iff_getElem.mp hv
    obtain ⟨k, hk, hw⟩ := hcell j (by simpa using hjl)
    simp [hk]
    exact hw
theorem list4 {ns : List Int} (h : ns.length = 4) : ∃ a b c d, ns = [a, b, c, d] := by
  match ns, h with
  | [a, b, c, d], _ => exact ⟨a, b, c, d, rfl⟩
theorem list2 {ns : List Int} (h : ns.length = 2) : ∃ a b, ns = [a, b] := by
  match ns, h with
  | [a, b], _ => exact ⟨a, b, rfl⟩
end

/-- A value of the machine that stands for a value of words. -/
def Plain (x : AV) (v : Value) : Prop := match x with
  | .rv (.sc (.int k n)) => v = .int k n
  | .rv (.sc (.bool b)) => v = .bool b
  | .rv (.agg l) => ∃ ns : List Int, l = ns.map (Sc.int .i64) ∧ v = .agg (ns.map (Value.int .i64)).toArray
  | _ => False
theorem Plain.rel {x : AV} {v : Value} (h : Plain x v) (P : Program) (G : Gh) (w : World) (a : Act) (i : Nat) : RelA P G w a i x v ∧ ∃ r, x = .rv r ∧ r.ro = r := by
  unfold Plain at h
  split at h
  · exact ⟨h, _, rfl, rfl⟩
  · exact ⟨h, _, rfl, rfl⟩
  · obtain ⟨ns, rfl, rfl⟩ := h
    refine ⟨⟨_, rfl, by simp, fun j s hs => ?_⟩, _, rfl, ?_⟩
    · rw [List.getElem?_map, Option.map_eq_some_iff] at hs
      obtain ⟨n, hn, rfl⟩ := hs
      exact ⟨.int .i64 n, by simp [hn], rfl⟩
    · simp [RV.ro, Sc.ro]
  · cases h
/-- The call of a law whose arguments are words: it answers the bool, and leaves what lay ahead of it. -/
theorem law_calls {P : Program} {f : FuncId} {S : Spec} (hM : Meets P f S) {us : List AV} {b : Bool} (hS : S us = some (bw b, [])) {vs : Array Value} (hs : vs.size = us.length)
    (hv : ∀ (i : Nat) (x : AV), us[i]? = some x → ∃ v, vs[i]? = some v ∧ Plain x v) (W : World) : Calls P f vs W fun e w' => e = .returned (.bool b) ∧ Below W.heap.size W w' := by
  obtain ⟨_, h⟩ := hM us _ _ hS
  refine (h vs ⟨fun _ => none, fun _ => 0⟩ W ⟨#[], []⟩ hs ?_ ?_).mono ?_
  · intro i x hx
    obtain ⟨v, h1, h2⟩ := hv i x hx
    obtain ⟨h3, r, h4, h5⟩ := h2.rel P ⟨fun _ => none, fun _ => 0⟩ W ⟨#[], []⟩ i
    exact ⟨v, h1, h3, .inl ⟨r, h4, h5⟩⟩
  · intro b _ hb
    exact absurd rfl hb
  · rintro e w' ⟨v, c', rfl, hfr, _, _, hrel, _⟩
    refine ⟨by rw [show v = .bool b from hrel], hfr.os, hfr.tape, hfr.output, hfr.size, fun k hk => hfr.block k hk (fun hh => hh rfl)⟩
end Go.Proofs.Ytbgfgadekmemeaa.Ev
