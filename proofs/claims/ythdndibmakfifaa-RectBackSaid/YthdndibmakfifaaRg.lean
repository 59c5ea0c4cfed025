/- Helps for loops: reading a state's slots, and a state told by the slots that it keeps. Conditions: none. -/
import Derived.Test.YthdndibmakfifaaRc
namespace Go.Proofs.Ythdndibmakfifaa.Ev
open Go.Proofs
set_option linter.unusedVariables false

def gI (st : St) (t : Nat) {R : Type} (K : Int → Option R) : Option R := match getS st t with
  | .rv (.sc (.int .i64 n)) => K n
  | _ => none
def gQs (st : St) (t : Nat) {R : Type} (K : List Q → Option R) : Option R := match getS st t with
  | .rv (.sc (.sl none (.quads l))) => K l
  | _ => none
def gPs (st : St) (t : Nat) {R : Type} (K : List Pt → Option R) : Option R := match getS st t with
  | .rv (.sc (.sl none (.pts l))) => K l
  | _ => none
def gQo (st : St) (t : Nat) {R : Type} (K : List Q → Option R) : Option R := match getS st t with
  | .rv (.sc (.sl (some 23) (.quads l))) => K l
  | _ => none
def gPo (st : St) (t : Nat) {R : Type} (K : List Pt → Option R) : Option R := match getS st t with
  | .rv (.sc (.sl (some 25) (.pts l))) => K l
  | _ => none
def gR (st : St) (t : Nat) {R : Type} (K : Q → Option R) : Option R := match getS st t with
  | .box 23 [.int .i64 a, .int .i64 b, .int .i64 c, .int .i64 d] => K (a, b, c, d)
  | _ => none
def req (p : Bool) {R : Type} (x : Option R) : Option R := bif p then x else none
@[reducible] def qso (l : List Q) : AV := .rv (.sc (.sl (some 23) (.quads l)))
@[reducible] def pso (l : List Pt) : AV := .rv (.sc (.sl (some 25) (.pts l)))
@[reducible] def bx (r : Q) : AV := .box 23 [.int .i64 r.1, .int .i64 r.2.1, .int .i64 r.2.2.1, .int .i64 r.2.2.2]

section
variable {st : St} {t : Nat} {R : Type} {r : R}
theorem gI_some {K : Int → Option R} (h : gI st t K = some r) : ∃ n, getS st t = iv n ∧ K n = some r := by
  unfold gI at h
  split at h
  · exact ⟨_, ‹_›, h⟩
  · cases h
theorem gQs_some {K : List Q → Option R} (h : gQs st t K = some r) : ∃ n, getS st t = qsv n ∧ K n = some r := by
  unfold gQs at h
  split at h
  · exact ⟨_, ‹_›, h⟩
  · cases h
theorem gPs_some {K : List Pt → Option R} (h : gPs st t K = some r) : ∃ n, getS st t = psv n ∧ K n = some r := by
  unfold gPs at h
  split at h
  · exact ⟨_, ‹_›, h⟩
  · cases h
theorem gQo_some {K : List Q → Option R} (h : gQo st t K = some r) : ∃ n, getS st t = qso n ∧ K n = some r := by
  unfold gQo at h
  split at h
  · exact ⟨_, ‹_›, h⟩
  · cases h
theorem gPo_some {K : List Pt → Option R} (h : gPo st t K = some r) : ∃ n, getS st t = pso n ∧ K n = some r := by
  unfold gPo at h
  split at h
  · exact ⟨_, ‹_›, h⟩
  · cases h
theorem gR_some {K : Q → Option R} (h : gR st t K = some r) : ∃ n, getS st t = bx n ∧ K n = some r := by
  unfold gR at h
  split at h
  · exact ⟨(_, _, _, _), ‹_›, h⟩
  · cases h
theorem req_some {p : Bool} {x : Option R} (h : req p x = some r) : p = true ∧ x = some r := by
  unfold req at h
  cases p
  · cases h
  · exact ⟨rfl, h⟩
theorem puts_self (s : St) : ∀ (l : List Nat) (base : St), base.length = s.length → (∀ i, i ∈ l ∨ base[i]? = s[i]?) → puts base (l.map fun i => (i, getS s i)) = s := by
  intro l
  induction l with
  | nil =>
    intro base hl h
    exact List.ext_getElem? fun i => (h i).resolve_left (by simp)
  | cons k l ih =>
    intro base hl h
    show puts (base.set k (getS s k)) _ = s
    refine ih _ (by rw [List.length_set, hl]) fun i => ?_
    by_cases hik : i = k
    · subst hik
      refine .inr ?_
      by_cases hlt : i < base.length
      · rw [List.getElem?_set_self hlt]
        unfold getS
        rw [List.getD_eq_getElem?_getD, List.getElem?_eq_getElem (by omega)]
        rfl
      · rw [List.getElem?_eq_none (by rw [List.length_set]; omega), List.getElem?_eq_none (by omega)]
    · rw [List.getElem?_set_ne (fun hh => hik hh.symm)]
      exact (h i).imp_left fun hh => (List.mem_cons.mp hh).resolve_left hik
theorem keep_mk {lv : List Nat} {n : Nat} (h : (keep lv st).length = n) : keep lv st = mk n (lv.map fun i => (i, getS (keep lv st) i)) := by
  refine (puts_self (keep lv st) lv _ ?_ fun i => ?_).symm
  · rw [List.length_replicate, h]
  · by_cases hi : i ∈ lv
    · exact .inl hi
    · refine .inr ?_
      by_cases hlt : i < n
      · rw [List.getElem?_replicate, if_pos hlt]
        unfold keep at h ⊢
        rw [List.length_mapIdx] at h
        rw [List.getElem?_mapIdx, List.getElem?_eq_getElem (by omega)]
        simp only [Option.map_some, List.contains_eq_mem]
        rw [decide_eq_false hi]
        rfl
      · rw [List.getElem?_eq_none (by rw [List.length_replicate]; omega), List.getElem?_eq_none (by omega)]
end
end Go.Proofs.Ythdndibmakfifaa.Ev
