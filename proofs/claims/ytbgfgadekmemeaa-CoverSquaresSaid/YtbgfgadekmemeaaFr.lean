/- A table of types is checked by a run: what the table says of each type is what the program's own table says. Conditions: none. -/
import Derived.Test.YtbgfgadekmemeaaFq
namespace Go.Proofs.Ytbgfgadekmemeaa.Ev
open Go.RowKit
set_option linter.unusedVariables false
set_option linter.unusedSimpArgs false

/-- The value of a cell that a zero value has. -/
def zeroB : Sc → Value → Bool
  | .int k 0, .int k' 0 => k == k'
  | .bool false, .bool false => true
  | .nil, .slice none 0 0 => true
  | .sl _ (.ints []), .slice none 0 0 => true
  | .sl _ (.pts []), .slice none 0 0 => true
  | .sl _ (.quads []), .slice none 0 0 => true
  | .sl _ (.polys []), .slice none 0 0 => true
  | _, _ => false

def zerosB : List Sc → List Value → Bool
  | [], [] => true
  | s :: l, v :: m => zeroB s v && zerosB l m
  | _, _ => false

def isIntT (P : Program) (t : TypeId) : Bool := match P.underlying t with
  | some (.int _) => true
  | _ => false
def sizeB (P : Program) (t : TypeId) (n : Nat) : Bool := match P.info? t with
  | some i => i.size == n
  | none => false

def fieldsB (P : Program) : Nat → List Field → List Sc → Bool
  | _, [], [] => true
  | j, f :: fs, z :: zs => (f.offset == j) && (f.name != "_") && sizeB P f.type 1 && (!z.isInt || isIntT P f.type) && fieldsB P (j + 1) fs zs
  | _, _, _ => false

def tyB (P : Program) (t : TypeId) : TK → Bool
  | .int k => (match P.underlying t with | some (.int k') => k == k' | _ => false) && (match P.info? t with
    | some i => (match i.zero with | some (.int k' 0) => k == k' | _ => false) && (i.size == 1)
    | none => false)
  | .bool => (match P.underlying t with | some .bool => true | _ => false) && (match P.info? t with
    | some i => (match i.zero with | some (.bool false) => true | _ => false) && (i.size == 1)
    | none => false)
  | .st zs => (match P.underlying t with | some (.struct fs) => fieldsB P 0 fs.toList zs | _ => false) && (match P.info? t with
    | some i => (match i.zero with | some (.agg zc) => zerosB zs zc.toList | _ => false) && (i.size == zs.length)
    | none => false) && !P.stoodInHeld t && !P.eqGuardType P.depth t
  | .sl e ek => (match P.underlying t with | some (.slice e') => e == e' | _ => false) && (match P.info? t with
    | some i => (match i.zero with | some (.slice none 0 0) => true | _ => false) && (i.size == 1)
    | none => false) && (match P.info? e with
    | some i => (i.size == ek.size) && (i.bytes == ek.bytes) && (match i.zero with | some z => (z.cells.size == ek.size) && (match ek with | .int => (match z with | .int .i64 0 => true | _ => false) | _ => true) | none => false)
    | none => false)
  | .fn => (match P.underlying t with | some (.func _ _ _) => true | _ => false) && (match P.info? t with
    | some i => (match i.zero with | some .nilFunc => true | _ => false) && (i.size == 1)
    | none => false)
  | .other => true

theorem zeroB_ok {P : Program} {s : Sc} {v : Value} (h : zeroB s v = true) (G : Gh) (w : World) (loc : Nat × Nat) : RelSc P G w loc s v := by
  have key : ∀ (o : Option TypeId) (ek : EK), RelSc P G w loc (.sl o ek.empty) (.slice none 0 0) := by
    intro o ek
    cases o with
    | none => exact RelSc.ro (relEmpty G w loc 0 ek)
    | some e => exact relEmpty G w loc e ek
  unfold zeroB at h
  split at h
  · rename_i k k'
    have : k = k' := by simpa using h
    subst this; rfl
  · rfl
  · rfl
  · exact key _ .int
  · exact key _ .pt
  · exact key _ .quad
  · exact key _ .pts
  · cases h

theorem zerosB_ok {P : Program} : ∀ {zs : List Sc} {vs : List Value}, zerosB zs vs = true → vs.length = zs.length ∧ ∀ (i : Nat) (s : Sc), zs[i]? = some s → ∃ v, vs[i]? = some v ∧ ∀ G w loc, RelSc P G w loc s v
  | [], [], _ => ⟨rfl, fun i s hi => by simp at hi⟩
  | [], _ :: _, h => by simp [zerosB] at h
  | _ :: _, [], h => by simp [zerosB] at h
  | s :: l, v :: m, h => by
    simp only [zerosB, Bool.and_eq_true] at h
    obtain ⟨h1, h2⟩ := zerosB_ok (P := P) h.2
    refine ⟨by simp [h1], fun i x hi => ?_⟩
    cases i with
    | zero => simp at hi; subst hi; exact ⟨v, rfl, fun G w loc => zeroB_ok h.1 G w loc⟩
    | succ i => simpa using h2 i x (by simpa using hi)

theorem fieldsB_ok {P : Program} : ∀ {fs : List Field} {zs : List Sc} {j : Nat}, fieldsB P j fs zs = true → fs.length = zs.length ∧ ∀ (i : Nat) (f : Field), fs[i]? = some f →
    f.offset = j + i ∧ f.name ≠ "_" ∧ (∃ fi, P.info? f.type = some fi ∧ fi.size = 1) ∧ ∀ s, zs[i]? = some s → s.isInt = true → ∃ k, P.underlying f.type = some (.int k)
  | [], [], j, _ => ⟨rfl, fun i s hi => by simp at hi⟩
  | [], _ :: _, j, h => by simp [fieldsB] at h
  | _ :: _, [], j, h => by simp [fieldsB] at h
  | f :: fs, z :: zs, j, h => by
    simp only [fieldsB, Bool.and_eq_true] at h
    obtain ⟨⟨⟨⟨h1, h2⟩, h3⟩, h4⟩, h5⟩ := h
    obtain ⟨g1, g2⟩ := fieldsB_ok (P := P) h5
    refine ⟨by simp [g1], fun i x hi => ?_⟩
    cases i with
    | zero =>
      simp at hi; subst hi
      refine ⟨by simpa using h1, by simpa using h2, ?_, fun s hs hz => ?_⟩
      · unfold sizeB at h3
        split at h3
        · rename_i i hi; exact ⟨i, hi, by simpa using h3⟩
        · cases h3
      · simp only [List.getElem?_cons_zero, Option.some.injEq] at hs
        subst hs
        rw [hz] at h4
        simp only [Bool.not_true, Bool.false_or] at h4
        unfold isIntT at h4
        split at h4
        · rename_i k hk; exact ⟨k, hk⟩
        · cases h4
    | succ i =>
      obtain ⟨a1, a2, a3, a4⟩ := g2 i x (by simpa using hi)
      exact ⟨by omega, a2, a3, fun s hs => a4 s (by simpa using hs)⟩

theorem tyOk_of {P : Program} {t : TypeId} {k : TK} (h : tyB P t k = true) : TyOk P t k := by
  unfold tyB at h
  split at h
  · rename_i k
    simp only [Bool.and_eq_true] at h
    obtain ⟨h1, h2⟩ := h
    split at h1
    · rename_i k' hu
      have : k = k' := by simpa using h1
      subst this
      split at h2
      · rename_i i hi
        simp only [Bool.and_eq_true] at h2
        obtain ⟨h3, h4⟩ := h2
        split at h3
        · rename_i k2 hz
          have : k = k2 := by simpa using h3
          subst this
          exact ⟨hu, i, hi, hz, by simpa using h4⟩
        · cases h3
      · cases h2
    · cases h1
  · simp only [Bool.and_eq_true] at h
    obtain ⟨h1, h2⟩ := h
    split at h1
    · rename_i hu
      split at h2
      · rename_i i hi
        simp only [Bool.and_eq_true] at h2
        obtain ⟨h3, h4⟩ := h2
        split at h3
        · rename_i hz
          exact ⟨hu, i, hi, hz, by simpa using h4⟩
        · cases h3
      · cases h2
    · cases h1
  · rename_i zs
    simp only [Bool.and_eq_true] at h
    obtain ⟨⟨⟨h1, h2⟩, h5⟩, h6⟩ := h
    split at h1
    · rename_i fs hu
      split at h2
      · rename_i i hi
        simp only [Bool.and_eq_true] at h2
        obtain ⟨h3, h4⟩ := h2
        split at h3
        · rename_i zc hz
          obtain ⟨f1, f2⟩ := fieldsB_ok h1
          obtain ⟨z1, z2⟩ := zerosB_ok (P := P) h3
          refine ⟨fs, i, zc, hu, hi, hz, by simpa using h4, by simpa using f1, by simpa using h5, by simpa using h6, fun G w n => ⟨by simpa using z1, fun j s hj => ?_⟩, fun j f hj => ?_⟩
          · obtain ⟨v, hv, hr⟩ := z2 j s hj
            exact ⟨v, by simpa using hv, hr _ _ _⟩
          · obtain ⟨a1, a2, a3, a4⟩ := f2 j f (by simpa using hj)
            exact ⟨by omega, a2, a3, a4⟩
        · cases h3
      · cases h2
    · cases h1
  · rename_i e ek
    simp only [Bool.and_eq_true] at h
    obtain ⟨⟨h1, h2⟩, h5⟩ := h
    split at h1
    · rename_i e' hu
      have : e = e' := by simpa using h1
      subst this
      split at h2
      · rename_i i hi
        simp only [Bool.and_eq_true] at h2
        obtain ⟨h3, h4⟩ := h2
        split at h3
        · rename_i hz
          split at h5
          · rename_i j hj
            simp only [Bool.and_eq_true] at h5
            obtain ⟨⟨h6, h7⟩, h8⟩ := h5
            split at h8
            · rename_i z hjz
              simp only [Bool.and_eq_true] at h8
              refine ⟨hu, ⟨i, hi, hz, by simpa using h4⟩, j, z, hj, by simpa using h6, by simpa using h7, hjz, by simpa using h8.1, fun hek => ?_⟩
              subst hek
              have h9 := h8.2
              simp only at h9
              split at h9
              · rfl
              · cases h9
            · cases h8
          · cases h5
        · cases h3
      · cases h2
    · cases h1
  · simp only [Bool.and_eq_true] at h
    obtain ⟨h1, h2⟩ := h
    split at h1
    · rename_i a b c hu
      split at h2
      · rename_i i hi
        simp only [Bool.and_eq_true, beq_iff_eq] at h2
        refine ⟨a, b, c, hu, i, hi, h2.2, ?_⟩
        have h3 := h2.1
        split at h3
        · assumption
        · cases h3
      · cases h2
    · cases h1
  · trivial

/-- A table as a list. -/
def tabOf : List (TypeId × TK) → TypeId → TK
  | [], _ => .other
  | (t, k) :: l, u => if u = t then k else tabOf l u

theorem tab_ok {P : Program} : ∀ {l : List (TypeId × TK)}, l.all (fun p => tyB P p.1 p.2) = true → ∀ t, TyOk P t (tabOf l t)
  | [], _, _ => trivial
  | (u, k) :: l, h, t => by
    simp only [List.all_cons, Bool.and_eq_true] at h
    unfold tabOf
    split
    · rename_i e; subst e; exact tyOk_of h.1
    · exact tab_ok h.2 t

/-- Contracts as a list. -/
def specsOf : List (FuncId × Spec) → Specs
  | [], _ => fun _ => none
  | (f, s) :: l, g => if g = f then s else specsOf l g

theorem specs_nil {P : Program} : ∀ f, Meets P f (specsOf [] f) := fun f as r fin h => by cases h
theorem specs_cons {P : Program} {f : FuncId} {s : Spec} {l : List (FuncId × Spec)} (h : Meets P f s) (hl : ∀ g, Meets P g (specsOf l g)) : ∀ g, Meets P g (specsOf ((f, s) :: l) g) := by
  intro g
  unfold specsOf
  split
  · rename_i e; subst e; exact h
  · exact hl g
end Go.Proofs.Ytbgfgadekmemeaa.Ev
