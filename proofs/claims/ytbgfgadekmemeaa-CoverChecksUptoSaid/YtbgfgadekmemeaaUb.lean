/- What the bound on bulk says of the number of points. Conditions: the bound. -/
import Derived.Test.YtbgfgadekmemeaaRows
import Derived.Test.YtbgfgadekmemeaaFw
import Derived.Test.YtbgfgadekmemeaaCe
namespace Go.Proofs.Ytbgfgadekmemeaa.Ev
set_option linter.unusedVariables false
theorem bulk_one {H : Type} (d : DataW H) : 1 ≤ Rows.uptoBulk d := by
  cases d with
  | lit l => cases l <;> simp [Rows.uptoBulk]
  | _ => simp [Rows.uptoBulk]
theorem bulk_len {H : Type} (l : List (DataW H)) : l.length ≤ Rows.uptoBulkAll l := by
  induction l with
  | nil => simp [Rows.uptoBulkAll]
  | cons x r ih => have := bulk_one x; simp only [Rows.uptoBulkAll, List.length_cons]; omega
theorem bulk_part {H : Type} {d : DataW H} {l : List (DataW H)} (h : d ∈ l) : Rows.uptoBulk d ≤ Rows.uptoBulkAll l := by
  induction l with
  | nil => cases h
  | cons x r ih =>
    simp only [Rows.uptoBulkAll]
    rcases List.mem_cons.1 h with e | e
    · subst e; omega
    · have := ih e; omega
theorem bulk_lenOf {H : Type} {n : Nat} {d : DataW H} (h : LenOf n d) : n ≤ Rows.uptoBulk d := by
  rcases h with ⟨rfl, h⟩ | ⟨es, sp, rfl, h⟩
  · omega
  · have := bulk_len es
    simp only [Rows.uptoBulk]
    omega
theorem bulk_tot {H : Type} : ∀ {l : Ps} {es : List (DataW H)}, es.length = l.length → (∀ (i : Nat) (x : List Pt), l[i]? = some x → ∃ y, es[i]? = some y ∧ LenOf x.length y) → totN l ≤ Rows.uptoBulkAll es
  | [], _, _, _ => Nat.zero_le _
  | x :: l, [], hl, _ => by simp at hl
  | x :: l, y :: es, hl, h => by
    obtain ⟨y', hy', hy⟩ := h 0 x rfl
    cases hy'
    have h1 := bulk_lenOf hy
    have h2 := bulk_tot (l := l) (es := es) (by simpa using hl) fun i z hi => by simpa using h (i + 1) z (by simpa using hi)
    simp only [totN, Rows.uptoBulkAll]
    omega
theorem tot_small {H : Type} {l : Ps} {d : DataW H} (h : (l = [] ∧ d = .nil) ∨ ∃ es sp, d = .slice es sp ∧ es.length = l.length ∧ ∀ (i : Nat) (x : List Pt), l[i]? = some x → ∃ y, es[i]? = some y ∧ LenOf x.length y)
    {ds : List (DataW H)} (hk : Rows.uptoSmall H ds = true) (hd : d ∈ ds) : totN l < 4611686018427387904 := by
  have h1 : Rows.uptoBulkAll ds ≤ 1048576 := by simpa [Rows.uptoSmall] using hk
  have h2 := bulk_part hd
  rcases h with ⟨rfl, _⟩ | ⟨es, sp, rfl, h3, h4⟩
  · exact of_decide_eq_true rfl
  · have := bulk_tot h3 h4
    simp only [Rows.uptoBulk] at h2
    omega
end Go.Proofs.Ytbgfgadekmemeaa.Ev
