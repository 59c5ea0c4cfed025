/- The evaluator is sound, the single operation, fifth part: the content of slices. Conditions: none; lemmas on lists and on what spells them. -/
import Derived.Test.YtbgfgadekmemeaaFf
namespace Go.Proofs.Ytbgfgadekmemeaa.Ev
open Go.RowKit
set_option linter.unusedVariables false
set_option linter.unusedSimpArgs false
set_option linter.unusedSectionVars false

section
variable {α β : Type} {f : α → List β} {k : Nat}

theorem flat_length (hf : ∀ x, (f x).length = k) (xs : List α) : (xs.flatMap f).length = xs.length * k := by
  induction xs with
  | nil => simp
  | cons x xs ih => simp [ih, hf, Nat.add_mul, Nat.add_comm]

theorem flat_get (hf : ∀ x, (f x).length = k) (xs : List α) : ∀ (i j : Nat) (x : α), xs[i]? = some x → j < k → (xs.flatMap f)[i * k + j]? = (f x)[j]? := by
  induction xs with
  | nil => intro i j x h; simp at h
  | cons y ys ih =>
    intro i j x h hj
    cases i with
    | zero =>
      simp at h; subst h
      rw [List.flatMap_cons, Nat.zero_mul, Nat.zero_add, List.getElem?_append_left (by rw [hf]; exact hj)]
    | succ i =>
      have := ih i j x (by simpa using h) hj
      rw [List.flatMap_cons, List.getElem?_append_right (by rw [hf, Nat.succ_mul]; omega), hf, ← this]
      congr 1
      rw [Nat.succ_mul]; omega

theorem flat_drop (hf : ∀ x, (f x).length = k) (xs : List α) : ∀ n, (xs.flatMap f).drop (n * k) = (xs.drop n).flatMap f := by
  induction xs with
  | nil => intro n; simp
  | cons y ys ih =>
    intro n
    cases n with
    | zero => simp
    | succ n =>
      rw [List.flatMap_cons, List.drop_succ_cons, ← ih n, List.drop_append, hf]
      rw [List.drop_eq_nil_of_le (by rw [hf, Nat.succ_mul]; omega), List.nil_append]
      congr 1
      rw [Nat.succ_mul]; omega

theorem flat_take (hf : ∀ x, (f x).length = k) (xs : List α) : ∀ n, (xs.flatMap f).take (n * k) = (xs.take n).flatMap f := by
  induction xs with
  | nil => intro n; simp
  | cons y ys ih =>
    intro n
    cases n with
    | zero => simp
    | succ n =>
      rw [List.flatMap_cons, List.take_succ_cons, List.flatMap_cons, ← ih n, List.take_append, hf]
      rw [List.take_of_length_le (by rw [hf, Nat.succ_mul]; omega)]
      congr 2
      rw [Nat.succ_mul]; omega
end

theorem pairV_len (p : Int × Int) : (pairV p).length = 2 := rfl
theorem quadV_len (p : Int × Int × Int × Int) : (quadV p).length = 4 := rfl

section
variable {P : Program} {S : Nat → Prop} {w0 w w' : World} {c0 : C0} {X : List Nat} {G G' : Gh} {st : St} {a : Act} {E : Nat × Nat → Prop}
variable {c : Ctx} {g : Nat → AV}

theorem Spells.length {x : Arr} {vs : List Value} (h : Spells G w x vs) : vs.length = x.len * x.kind.size := by
  cases x with
  | ints xs => cases h; simp [Arr.len, Arr.kind, EK.size]
  | pts xs => cases h; exact flat_length pairV_len xs
  | quads xs => cases h; exact flat_length quadV_len xs
  | polys xs => simp [Arr.len, Arr.kind, EK.size, h.1]

theorem Spells.one {x : Arr} {vs : List Value} (h : Spells G w x vs) : ∀ u ∈ vs, u.oneCell' = true := by
  cases x with
  | ints xs => cases h; intro u hu; obtain ⟨n, _, rfl⟩ := List.mem_map.1 hu; rfl
  | pts xs => cases h; intro u hu; obtain ⟨n, _, hn⟩ := List.mem_flatMap.1 hu; simp [pairV] at hn; rcases hn with rfl | rfl <;> rfl
  | quads xs => cases h; intro u hu; obtain ⟨n, _, hn⟩ := List.mem_flatMap.1 hu; simp [quadV] at hn; rcases hn with rfl | rfl | rfl | rfl <;> rfl
  | polys xs =>
    intro u hu
    obtain ⟨i, hi⟩ := List.getElem?_of_mem hu
    have hlt : i < xs.length := by rw [← h.1]; exact (List.getElem?_eq_some_iff.1 hi).1
    obtain ⟨A, cap, e, _⟩ := h.2 i xs[i] (List.getElem?_eq_getElem hlt)
    rw [hi] at e; cases e; rfl

theorem Spells.app {x y z : Arr} {us vs : List Value} (h : Spells G w x us) (k : Spells G w y vs) (e : x.app y = some z) :
    Spells G w z (us ++ vs) ∧ z.len = x.len + y.len ∧ z.kind = x.kind ∧ x.kind = y.kind := by
  cases x <;> cases y <;> simp only [Arr.app, Option.some.injEq, reduceCtorEq] at e
  · subst e; cases h; cases k; exact ⟨by simp [Spells], by simp [Arr.len], rfl, rfl⟩
  · subst e; cases h; cases k; exact ⟨by simp [Spells], by simp [Arr.len], rfl, rfl⟩
  · subst e; cases h; cases k; exact ⟨by simp [Spells], by simp [Arr.len], rfl, rfl⟩
  · subst e
    rename_i xs ys
    refine ⟨⟨by simp [h.1, k.1], fun i l hi => ?_⟩, by simp [Arr.len], rfl, rfl⟩
    by_cases hlt : i < xs.length
    · rw [List.getElem?_append_left hlt] at hi
      rw [List.getElem?_append_left (by rw [h.1]; exact hlt)]
      exact h.2 i l hi
    · rw [List.getElem?_append_right (by omega)] at hi
      rw [List.getElem?_append_right (by rw [h.1]; omega), h.1]
      exact k.2 _ l hi

/-- What spells an element. -/
theorem Spells.at {x : Arr} {vs : List Value} (h : Spells G w x vs) {i : Nat} (hi : i < x.len) : (x.at i).length = x.kind.size ∧ ∀ (j : Nat) (s : Sc), (x.at i)[j]? = some s → s.ro = s ∧
    ∃ u, vs[i * x.kind.size + j]? = some u ∧ ∀ loc, RelSc P G w loc s u := by
  cases x with
  | ints xs =>
    cases h
    refine ⟨rfl, fun j s hj => ?_⟩
    have hi' : i < xs.length := hi
    cases j with
    | zero => simp [Arr.at] at hj; subst hj; exact ⟨rfl, .int .i64 (xs.getD i 0), by simp [Arr.kind, EK.size, hi'], fun _ => rfl⟩
    | succ j => simp [Arr.at] at hj
  | pts xs =>
    cases h
    refine ⟨rfl, fun j s hj => ?_⟩
    have hi' : i < xs.length := hi
    have hx : xs[i]? = some (xs.getD i (0, 0)) := by simp [hi']
    have hj2 : j < 2 := (List.getElem?_eq_some_iff.1 hj).1
    have key := flat_get pairV_len xs i j _ hx hj2
    match j, hj2 with
    | 0, _ => simp only [Arr.at, List.getElem?_cons_zero, Option.some.injEq] at hj; subst hj; exact ⟨rfl, _, key, fun _ => rfl⟩
    | 1, _ => simp only [Arr.at, List.getElem?_cons_succ, List.getElem?_cons_zero, Option.some.injEq] at hj; subst hj; exact ⟨rfl, _, key, fun _ => rfl⟩
  | quads xs =>
    cases h
    refine ⟨rfl, fun j s hj => ?_⟩
    have hi' : i < xs.length := hi
    have hx : xs[i]? = some (xs.getD i (0, 0, 0, 0)) := by simp [hi']
    have hj2 : j < 4 := (List.getElem?_eq_some_iff.1 hj).1
    have key := flat_get quadV_len xs i j _ hx hj2
    match j, hj2 with
    | 0, _ => simp only [Arr.at, List.getElem?_cons_succ, List.getElem?_cons_zero, Option.some.injEq] at hj; subst hj; exact ⟨rfl, _, key, fun _ => rfl⟩
    | 1, _ => simp only [Arr.at, List.getElem?_cons_succ, List.getElem?_cons_zero, Option.some.injEq] at hj; subst hj; exact ⟨rfl, _, key, fun _ => rfl⟩
    | 2, _ => simp only [Arr.at, List.getElem?_cons_succ, List.getElem?_cons_zero, Option.some.injEq] at hj; subst hj; exact ⟨rfl, _, key, fun _ => rfl⟩
    | 3, _ => simp only [Arr.at, List.getElem?_cons_succ, List.getElem?_cons_zero, Option.some.injEq] at hj; subst hj; exact ⟨rfl, _, key, fun _ => rfl⟩
  | polys xs =>
    refine ⟨rfl, fun j s hj => ?_⟩
    have hi' : i < xs.length := hi
    cases j with
    | zero =>
      simp only [Arr.at, List.getElem?_cons_zero, Option.some.injEq] at hj
      subst hj
      obtain ⟨A, cap, e, hc, hr⟩ := h.2 i (xs.getD i []) (by simp [hi'])
      exact ⟨rfl, _, (show vs[i * 1 + 0]? = _ by rw [Nat.mul_one, Nat.add_zero]; exact e), fun loc => ⟨A, cap, rfl, hc, ⟨_, rfl, hr⟩, fun e he => by cases he⟩⟩
    | succ j => simp [Arr.at] at hj

theorem Spells.sub {x : Arr} {vs : List Value} (h : Spells G w x vs) (lo hi : Nat) (hh : hi ≤ x.len) (hl : lo ≤ hi) :
    Spells G w (x.sub lo hi) ((vs.drop (lo * x.kind.size)).take ((hi - lo) * x.kind.size)) ∧ (x.sub lo hi).len = hi - lo := by
  cases x with
  | ints xs => cases h; have hh' : hi ≤ xs.length := hh; exact ⟨by simp [Spells, Arr.sub, Arr.kind, EK.size], by simp [Arr.sub, Arr.len]; omega⟩
  | pts xs =>
    cases h; have hh' : hi ≤ xs.length := hh
    exact ⟨by simp only [Spells, Arr.sub, Arr.kind, EK.size]; rw [flat_drop pairV_len, flat_take pairV_len], by simp [Arr.sub, Arr.len]; omega⟩
  | quads xs =>
    cases h; have hh' : hi ≤ xs.length := hh
    exact ⟨by simp only [Spells, Arr.sub, Arr.kind, EK.size]; rw [flat_drop quadV_len, flat_take quadV_len], by simp [Arr.sub, Arr.len]; omega⟩
  | polys xs =>
    have hh' : hi ≤ xs.length := hh
    refine ⟨⟨by simp [Arr.kind, EK.size, h.1], fun i l hi' => ?_⟩, by simp [Arr.sub, Arr.len]; omega⟩
    simp only [Arr.kind, EK.size, Nat.mul_one]
    rw [List.getElem?_take] at hi' ⊢
    split at hi'
    · rename_i hlt
      rw [if_pos hlt, List.getElem?_drop]
      rw [List.getElem?_drop] at hi'
      exact h.2 _ l hi'
    · cases hi'

theorem add_add (ad : Addr) (i j : Nat) : (ad.add i).add j = ad.add (i + j) := by
  unfold Addr.add
  by_cases hi : i = 0
  · subst hi; simp
  · by_cases hj : j = 0
    · subst hj; simp
    · have : ¬ i + j = 0 := by omega
      simp [hi, hj, this, Nat.add_assoc]

/-- A header's address, where there is an element. -/
theorem Holds.addr {A : Option Addr} {x : Arr} (h : Holds G w A x) {i : Nat} (hi : i < x.len) : ∃ ad, A = some ad := by
  obtain ⟨vs, hs, hr⟩ := h
  have hl := hs.length
  have hk : 0 < x.kind.size := by cases x <;> simp [Arr.kind, EK.size]
  have h0 : 0 < vs.length := by rw [hl]; exact Nat.mul_pos (by omega) hk
  obtain ⟨ad, e, _⟩ := hr 0 vs[0] (List.getElem?_eq_getElem h0)
  exact ⟨ad, e⟩
end
end Go.Proofs.Ytbgfgadekmemeaa.Ev
