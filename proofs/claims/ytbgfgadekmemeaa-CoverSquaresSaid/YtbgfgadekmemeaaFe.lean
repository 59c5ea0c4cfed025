/- The evaluator is sound, the single operation, third part: arithmetic, comparisons, tuples, lengths, addresses, loads. Conditions: a table of types that is so. -/
import Derived.Test.YtbgfgadekmemeaaFd
namespace Go.Proofs.Ytbgfgadekmemeaa.Ev
open Go.RowKit
set_option linter.unusedVariables false
set_option linter.unusedSimpArgs false
set_option linter.unusedSectionVars false

section
variable {P : Program} {S : Nat → Prop} {w0 w w' : World} {c0 : C0} {X : List Nat} {G G' : Gh} {st : St} {a : Act} {E : Nat × Nat → Prop}
variable {c : Ctx} {g : Nat → AV}

theorem intOp_run {op : BinOp} {k : IntKind} {x y : Int} {R : Type} {K : Sc → Option R} {r : R} (e : intOp op k x y K = some r) (t : TypeId) (ox oy : Operand) (w : World) :
    ∃ s v, K s = some r ∧ (∀ G w loc, RelSc P G w loc s v) ∧ ((do eqGuard op t ox oy (.int k x) (.int k y); binOp op t (.int k x) (.int k y)) : Sem Value).run P w = .ok v w := by
  unfold intOp at e
  split at e
  case h_4 | h_5 =>
    cases hy : decide (y = 0) with
    | true => simp [hy] at e
    | false =>
      simp only [hy, cond_false] at e
      have hy' : ¬ y = 0 := by simpa using hy
      exact ⟨_, _, e, fun _ _ _ => rfl, by simp [go_sem, Op.intDiv, hy']⟩
  case h_13 => cases e
  all_goals exact ⟨_, _, e, fun _ _ _ => rfl, by simp [go_sem, Op.intArith, Op.intBits]⟩

theorem shOp_run {op : BinOp} {k k' : IntKind} {x y : Int} {R : Type} {K : Sc → Option R} {r : R} (e : shOp op k x y K = some r) (t : TypeId) (ox oy : Operand) (w : World) :
    ∃ s v, K s = some r ∧ (∀ G w loc, RelSc P G w loc s v) ∧ ((do eqGuard op t ox oy (.int k x) (.int k' y); binOp op t (.int k x) (.int k' y)) : Sem Value).run P w = .ok v w := by
  unfold shOp at e
  cases hy : decide (y < 0) with
  | true => simp [hy] at e
  | false =>
    simp only [hy, cond_false] at e
    have hy' : ¬ y < 0 := by simpa using hy
    split at e
    · exact ⟨_, _, e, fun _ _ _ => rfl, by simp [go_sem, Op.shift, hy']⟩
    · exact ⟨_, _, e, fun _ _ _ => rfl, by simp [go_sem, Op.shift, hy']⟩
    · cases e

theorem getElem?_of_drop {l : List Sc} {n : Nat} {s : Sc} {r : List Sc} (h : l.drop n = s :: r) : l[n]? = some s := by
  have := congrArg (·[0]?) h
  simpa using this

theorem part_int {t : TypeId} {k : IntKind} {xs : Array Value} {j : Nat} {v : Value} (ht : P.underlying t = some (.int k)) (hv : xs[j]? = some v) (w : World) : (part t xs j).run P w = .ok v w := by
  simp [part, isAgg, run_underlying ht, hv]

theorem eqFields_run {t : TypeId} {zs : List Sc} {fs : Array Field} {d : Nat} (hf : ∀ (j : Nat) (f : Field), fs[j]? = some f → f.offset = j ∧ f.name ≠ "_" ∧ (∃ fi, P.info? f.type = some fi ∧ fi.size = 1) ∧ ∀ s, zs[j]? = some s → s.isInt = true → ∃ k, P.underlying f.type = some (.int k))
    (hz : zs.all Sc.isInt = true) {xs ys : Array Value} {l m : List Sc} (hsz : fs.size = zs.length) (hl : l.length = zs.length) (hx : RelCells P G w' 0 l xs) (hy : RelCells P G w' 0 m ys) (w : World) :
    ∀ (n : Nat) (gs : List Field) (b : Bool), fs.toList.drop n = gs → sameInts (l.drop n) (m.drop n) = some b → (Op.eqFields (d + 1) xs ys gs).run P w = .ok b w := by
  intro n gs
  induction gs generalizing n with
  | nil =>
    intro b hd hs
    have hn : zs.length ≤ n := by
      have := congrArg List.length hd
      simp at this; omega
    have : l.drop n = [] := List.drop_eq_nil_of_le (by omega)
    rw [this] at hs
    cases hm : m.drop n with
    | nil => rw [hm] at hs; simp [sameInts] at hs; subst hs; simp [Op.eqFields]
    | cons _ _ => rw [hm] at hs; simp [sameInts] at hs
  | cons f gs ih =>
    intro b hd hs
    have hfn : fs[n]? = some f := by
      have := congrArg (·[0]?) hd
      simpa using this
    obtain ⟨ho, hne, _, hi⟩ := hf n f hfn
    have hlt : n < zs.length := by have := (Array.getElem?_eq_some_iff.1 hfn).1; omega
    have hd' : fs.toList.drop (n + 1) = gs := by
      have := congrArg List.tail hd
      simpa [List.tail_drop] using this
    cases hl' : l.drop n with
    | nil => have := congrArg List.length hl'; simp at this; omega
    | cons s l' =>
      cases hm' : m.drop n with
      | nil => rw [hl', hm'] at hs; cases s <;> simp [sameInts] at hs
      | cons u m' =>
        rw [hl', hm'] at hs
        cases s with
        | int k p =>
          cases u with
          | int k' q =>
            simp only [sameInts] at hs
            by_cases hk : k = k'
            · subst hk
              rw [if_pos rfl] at hs
              cases hr : sameInts l' m' with
              | none => simp [hr] at hs
              | some r =>
                simp only [hr, Option.some.injEq] at hs
                have hln := getElem?_of_drop hl'
                have hmn := getElem?_of_drop hm'
                obtain ⟨v, hv, hv'⟩ := hx.2 n _ hln
                obtain ⟨u, hu, hu'⟩ := hy.2 n _ hmn
                have hv' : v = .int k p := hv'
                have hu' : u = .int k q := hu'
                subst hv' hu'
                have hzi : (zs[n]'hlt).isInt = true := by
                  have := List.all_eq_true.1 hz (zs[n]'hlt) (List.getElem_mem _)
                  simpa using this
                obtain ⟨k2, hk2⟩ := hi (zs[n]'hlt) (List.getElem?_eq_getElem hlt) hzi
                have h1 : l.drop (n + 1) = l' := by have := congrArg List.tail hl'; simpa [List.tail_drop] using this
                have h2 : m.drop (n + 1) = m' := by have := congrArg List.tail hm'; simpa [List.tail_drop] using this
                have hrec := ih (n + 1) r hd' (by rw [h1, h2]; exact hr)
                rw [Op.eqFields]
                simp only [if_pos hne, Sem.run_bind, ho, part_int hk2 hv, part_int hk2 hu, Result.andThen_ok, run_equalIn_int w d f.type k k2 p q hk2]
                cases hpq : (p == q) with
                | false => simp [hpq] at hs; subst hs; simp
                | true => simp [hpq] at hs; subst hs; simpa using hrec
            · rw [if_neg hk] at hs; cases hs
          | _ => simp [sameInts] at hs
        | _ => simp [sameInts] at hs

theorem eq_struct {t : TypeId} {zs : List Sc} (ht : TyOk P t (.st zs)) {l m : List Sc} {b : Bool} (hs : sameInts l m = some b) (hl : (l.length = zs.length && zs.all Sc.isInt) = true)
    {u v : Value} (hu : RelRV P G w' 0 (.agg l) u) (hv : RelRV P G w' 0 (.agg m) v) (ox oy : Operand) (w : World) :
    ((do eqGuard .eql t ox oy u v; binOp .eql t u v) : Sem Value).run P w = .ok (.bool b) w ∧ ((do eqGuard .neq t ox oy u v; binOp .neq t u v) : Sem Value).run P w = .ok (.bool (!b)) w := by
  obtain ⟨xs, rfl, hx⟩ := hu
  obtain ⟨ys, rfl, hy⟩ := hv
  obtain ⟨fs, i, zc, hu, hi, hz, hsz, hfs, hst, hg, hzc, hf⟩ := ht
  simp only [Bool.and_eq_true, decide_eq_true_eq] at hl
  have hfo : P.fieldsOf t = fs := by simp [Program.fieldsOf, hu]
  have hrun : (Op.equalIn 10000 t (.agg xs) (.agg ys)).run P w = .ok b w := by
    rw [run_equalIn_struct w 9999 t xs ys (by rw [hfo]; exact hu) hst, hfo]
    exact eqFields_run (t := t) hf hl.2 hfs hl.1 hx hy w 0 fs.toList b (by simp) (by simpa using hs)
  constructor
  · simp only [Sem.run_bind, run_eqGuard_agg w .eql t ox oy xs ys hg, Result.andThen_ok, run_eql_struct, hrun]
  · simp only [Sem.run_bind, run_eqGuard_agg w .neq t ox oy xs ys hg, Result.andThen_ok, run_neq_struct, hrun]

theorem eq_bool (t : TypeId) (h : P.underlying t = some .bool) (x y : Bool) (ox oy : Operand) (w : World) :
    ((do eqGuard .eql t ox oy (.bool x) (.bool y); binOp .eql t (.bool x) (.bool y)) : Sem Value).run P w = .ok (.bool (x == y)) w ∧
    ((do eqGuard .neq t ox oy (.bool x) (.bool y); binOp .neq t (.bool x) (.bool y)) : Sem Value).run P w = .ok (.bool (x != y)) w := by
  have he : (Op.equalIn 10000 t (.bool x) (.bool y)).run P w = .ok (x == y) w := run_equalIn_bool' w 9999 t x y h
  constructor
  · simp [go_sem, binOp, Op.equal, Op.maxDepth, he]
  · simp [go_sem, binOp, Op.equal, Op.maxDepth, he]; cases x <;> cases y <;> rfl

theorem oprs_sound (hg : Sees st g) (h : Rel P S w0 c0 X G st a w) {ty : TK} : ∀ {xs : List Operand} {rs : List RV}, oprs g ty xs = some rs →
    rs.length = xs.length ∧ ∀ (i : Nat) (x : Operand), xs[i]? = some x → ∃ r, rs[i]? = some r ∧ r.ro = r ∧ ∀ t, RelRV P G w t r (a.eval x)
  | [], rs, e => by simp [oprs] at e; subst e; exact ⟨rfl, fun i x hi => by simp at hi⟩
  | x :: xs, rs, e => by
    simp only [oprs] at e
    split at e
    · rename_i r l hr hl
      cases e
      obtain ⟨h1, h2⟩ := oprs_sound hg h hl
      refine ⟨by simp [h1], fun i y hi => ?_⟩
      cases i with
      | zero => simp at hi; subst hi; exact ⟨r, rfl, opr_sound hg h hr⟩
      | succ i => simpa using h2 i y (by simpa using hi)
    · cases e

theorem minInts_run {ys : List Operand} : ∀ {rs : List RV} {x n : Int} (e : minInts x rs = some n) (hr : ∀ (i : Nat) (y : Operand), ys[i]? = some y → ∃ r, rs[i]? = some r ∧ ∀ t, RelRV P G w' t r (a.eval y)) (hl : rs.length = ys.length) (w : World),
    ((ys.map a.eval).foldlM Builtin.min2 (.int .i64 x)).run P w = .ok (.int .i64 n) w := by
  induction ys with
  | nil =>
    intro rs x n e hr hl w
    have : rs = [] := List.eq_nil_of_length_eq_zero (by simpa using hl)
    subst this
    simp [minInts] at e; subst e; simp
  | cons y ys ih =>
    intro rs x n e hr hl w
    cases rs with
    | nil => simp at hl
    | cons r rs =>
      obtain ⟨r', hr', hh⟩ := hr 0 y rfl
      simp at hr'; subst hr'
      unfold minInts at e
      split at e
      · rename_i h; cases h
      · rename_i z l he
        injection he with h1 h2
        subst h1 h2
        have hy : a.eval y = .int .i64 z := hh 0
        simp only [List.map_cons, List.foldlM_cons, hy, Builtin.min2, Sem.run_bind, Sem.run_pure, Result.andThen_ok]
        exact ih e (fun i u hi => by simpa using hr (i + 1) u (by simpa using hi)) (by simpa using hl) w
      · cases e

theorem maxInts_run {ys : List Operand} : ∀ {rs : List RV} {x n : Int} (e : maxInts x rs = some n) (hr : ∀ (i : Nat) (y : Operand), ys[i]? = some y → ∃ r, rs[i]? = some r ∧ ∀ t, RelRV P G w' t r (a.eval y)) (hl : rs.length = ys.length) (w : World),
    ((ys.map a.eval).foldlM Builtin.max2 (.int .i64 x)).run P w = .ok (.int .i64 n) w := by
  induction ys with
  | nil =>
    intro rs x n e hr hl w
    have : rs = [] := List.eq_nil_of_length_eq_zero (by simpa using hl)
    subst this
    simp [maxInts] at e; subst e; simp
  | cons y ys ih =>
    intro rs x n e hr hl w
    cases rs with
    | nil => simp at hl
    | cons r rs =>
      obtain ⟨r', hr', hh⟩ := hr 0 y rfl
      simp at hr'; subst hr'
      unfold maxInts at e
      split at e
      · rename_i h; cases h
      · rename_i z l he
        injection he with h1 h2
        subst h1 h2
        have hy : a.eval y = .int .i64 z := hh 0
        simp only [List.map_cons, List.foldlM_cons, hy, Builtin.max2, Sem.run_bind, Sem.run_pure, Result.andThen_ok]
        exact ih e (fun i u hi => by simpa using hr (i + 1) u (by simpa using hi)) (by simpa using hl) w
      · cases e
end
end Go.Proofs.Ytbgfgadekmemeaa.Ev
