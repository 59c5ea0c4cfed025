/- The evaluator is sound, the single operation: what sem says of an operation is what the machine does. First part: words, operands, the operations that touch no memory. -/
import Derived.Test.YtkeildnpemiacaaFb
import Derived.Tactics
import Derived.Laws.StructEq
import Derived.Laws.AppendOwn
import Derived.Laws.MakeOwn
import Derived.Laws.CopyRow
import Derived.Laws.Cells
namespace Go.Proofs.Ytkeildnpemiacaa.Ev
open Go.RowKit
set_option linter.unusedVariables false
set_option linter.unusedSimpArgs false
set_option linter.unusedSectionVars false

/-- What the table says of a type is so. -/
def TyOk (P : Program) (t : TypeId) : TK → Prop
  | .int k => P.underlying t = some (.int k) ∧ ∃ i, P.info? t = some i ∧ i.zero = some (.int k 0) ∧ i.size = 1
  | .bool => P.underlying t = some .bool ∧ ∃ i, P.info? t = some i ∧ i.zero = some (.bool false) ∧ i.size = 1
  | .st zs => ∃ fs i zc, P.underlying t = some (.struct fs) ∧ P.info? t = some i ∧ i.zero = some (.agg zc) ∧ i.size = zs.length ∧ fs.size = zs.length ∧
      P.stoodInHeld t = false ∧ P.eqGuardType P.depth t = false ∧
      (∀ G w n, RelCells P G w n zs zc) ∧ ∀ (j : Nat) (f : Field), fs[j]? = some f → f.offset = j ∧ f.name ≠ "_" ∧ (∃ fi, P.info? f.type = some fi ∧ fi.size = 1) ∧ ∀ s, zs[j]? = some s → s.isInt = true → ∃ k, P.underlying f.type = some (.int k)
  | .sl e ek => P.underlying t = some (.slice e) ∧ (∃ i, P.info? t = some i ∧ i.zero = some (.slice none 0 0) ∧ i.size = 1) ∧
      ∃ i z, P.info? e = some i ∧ i.size = ek.size ∧ i.bytes = ek.bytes ∧ i.zero = some z ∧ z.cells.size = ek.size ∧ (ek = .int → z = .int .i64 0)
  | .fn => ∃ a b c, P.underlying t = some (.func a b c) ∧ ∃ i, P.info? t = some i ∧ i.size = 1 ∧ i.zero = some .nilFunc
  | .other => True

/-- A function's contract. -/
def Meets (P : Program) (f : FuncId) (S : Spec) : Prop :=
  ∀ as r fin, S as = some (r, fin) → FnOk P f ∧ ∀ (vs : Array Value) (G : Gh) (w : World) (a : Act), vs.size = as.length →
    (∀ (i : Nat) (x : AV), as[i]? = some x → ∃ v, vs[i]? = some v ∧ RelA P G w a i x v ∧
      ((∃ r, x = .rv r ∧ r.ro = r) ∨ (∃ t l, x = .cbox t l) ∨ ∃ xs, x = .ms xs)) →
    (∀ b, b < w.heap.size → G.own b ≠ none → ∃ (i : Nat) (xs : List Int) (n c : Nat), as[i]? = some (.ms xs) ∧ vs[i]? = some (.slice (some ⟨b, 0, none⟩) n c)) →
    Calls P f vs w fun e w' => ∃ v c', e = .returned v ∧ Fr (fun b => G.own b ≠ none) w w' ∧ (∀ b, b < w.heap.size → c' b = G.com b) ∧
      ((∃ r', r = .rv r' ∧ r'.ro = r') ∨ ∃ l, r = .tup l) ∧
      RelA P ⟨fun _ => none, c'⟩ w' a 0 r v ∧
      ∀ (i : Nat) (xs : List Int) (b n c : Nat), as[i]? = some (.ms xs) → vs[i]? = some (.slice (some ⟨b, 0, none⟩) n c) →
        ∃ xs' ty, fin[i]? = some (.ms xs') ∧ xs'.length = xs.length ∧ w'.heap[b]? = some (.cells (xs'.map (Value.int .i64)).toArray ty (0, 0))

/-- The operation comes to its end, and then After holds. -/
def Done (P : Program) (o : Oper) (a : Act) (w : World) (After : Act → World → Prop) : Prop :=
  (∃ v w', (execOp a.eval o).run P w = .ok (.value v) w' ∧ After (a.put o.dst v) w') ∨
  (∃ w', (execOp a.eval o).run P w = .ok .skip w' ∧ After (a.put o.dst undef) w') ∨
  (∃ f args, (execOp a.eval o).run P w = .ok (.enter f args) w ∧ Calls P f args w fun e w' => ∃ v, e = .returned v ∧ After (a.put o.dst v) w')

theorem Done.wp {P : Program} {o : Oper} {a : Act} {w : World} {After : Act → World → Prop} {Q : Exit → Act → World → Prop} (h : Done P o a w After) : o.wp P a w After Q := by
  unfold Oper.wp
  rcases h with ⟨v, w', hr, h⟩ | ⟨w', hr, h⟩ | ⟨f, args, hr, h⟩
  · rw [hr]; exact h
  · rw [hr]; exact h
  · rw [hr]
    refine Calls.mono h ?_
    rintro e w' ⟨v, rfl, h⟩
    exact h

theorem put_getD (a : Act) (d t : Nat) (v : Value) : (a.put (some d) v).tmps.getD t undef = if t = d ∧ d < a.tmps.size then v else a.tmps.getD t undef := by
  simp only [Act.put, Array.getD_eq_getD_getElem?, Array.getElem?_setIfInBounds]
  by_cases h : d = t
  · subst h
    by_cases h2 : d < a.tmps.size <;> simp [h2]
  · rw [if_neg h, if_neg (fun e => h e.1.symm)]

theorem getS_set (st : St) (d t : Nat) (x : AV) : getS (st.set d x) t = if t = d ∧ d < st.length then x else getS st t := by
  simp only [getS, List.getD_eq_getElem?_getD, List.getElem?_set]
  by_cases h : d = t
  · subst h
    by_cases h2 : d < st.length <;> simp [h2]
  · rw [if_neg h, if_neg (fun e => h e.1.symm)]

theorem puts_length (ws : List (Nat × AV)) : ∀ st : St, (puts st ws).length = st.length := by
  induction ws with
  | nil => intro st; rfl
  | cons p ws ih => intro st; simp only [puts, List.foldl_cons] at ih ⊢; rw [ih]; simp [put1]

theorem getS_puts (ws : List (Nat × AV)) (t : Nat) : ∀ st : St,
    (∃ x, (t, x) ∈ ws ∧ t < st.length ∧ getS (puts st ws) t = x) ∨ ((t ∉ ws.map (·.1) ∨ st.length ≤ t) ∧ getS (puts st ws) t = getS st t) := by
  induction ws with
  | nil => intro st; exact .inr ⟨.inl (by simp), rfl⟩
  | cons p ws ih =>
    intro st
    obtain ⟨d, x⟩ := p
    have hl : (put1 st (d, x)).length = st.length := by simp [put1]
    have hp : puts st ((d, x) :: ws) = puts (put1 st (d, x)) ws := rfl
    rw [hp]
    rcases ih (put1 st (d, x)) with ⟨y, hy, hlt, he⟩ | ⟨hn, he⟩
    · exact .inl ⟨y, List.mem_cons_of_mem _ hy, hl ▸ hlt, he⟩
    · rw [he]
      have hs : getS (put1 st (d, x)) t = if t = d ∧ d < st.length then x else getS st t := getS_set st d t x
      by_cases h : t = d ∧ d < st.length
      · rw [hs, if_pos h]
        obtain ⟨rfl, hlt⟩ := h
        exact .inl ⟨x, List.mem_cons_self .., hlt, rfl⟩
      · rw [hs, if_neg h]
        refine .inr ⟨?_, rfl⟩
        rw [hl] at hn
        by_cases htd : t = d
        · exact .inr (by have : ¬ d < st.length := fun hh => h ⟨htd, hh⟩; omega)
        · rcases hn with hn | hn
          · exact .inl (by simp only [List.map_cons, List.mem_cons, not_or]; exact ⟨htd, hn⟩)
          · exact .inr hn

section
variable {P : Program} {S : Nat → Prop} {w0 w w' : World} {c0 : Nat → Nat} {X : List Nat} {G G' : Gh} {st : St} {a : Act} {E : Nat × Nat → Prop}

/-- The state behind an operation. -/
theorem Rel.upd (h : Rel P S w0 c0 X G st a w) {ws : List (Nat × AV)} {dst : Option Nat} {v : Value} {S' : Nat → Prop} (k : Adv G w G' w' E) (hfr : Fr S' w w')
    (hS : ∀ b, b < w0.heap.size → S' b → S b) (hold : ∀ b, b < w0.heap.size → ¬ S b → G'.com b = G.com b ∧ G'.own b = G.own b)
    (hd : ∀ d, dst = some d → d ∉ X ∧ d ∈ ws.map (·.1)) (hE : ∀ t i, E (t, i) → t ∈ ws.map (·.1))
    (hw : ∀ p ∈ ws, p.1 < a.tmps.size → RelA P G' w' (a.put dst v) p.1 p.2 ((a.put dst v).tmps.getD p.1 undef))
    (hx : ∀ p ∈ ws, ∀ s, (∃ o, p.2 = .ref s o) ∨ p.2 = .al s → s ∈ X) :
    Rel P S w0 c0 X G' (puts st ws) (a.put dst v) w' := by
  have hput : ∀ t, (∀ d, dst = some d → t ≠ d) → (a.put dst v).tmps.getD t undef = a.tmps.getD t undef := by
    intro t ht
    cases dst with
    | none => rfl
    | some d => rw [put_getD, if_neg (fun e => ht d rfl e.1)]
  refine ⟨?_, ?_, ?_, ?_, ?_, ?_⟩
  · rw [puts_length, ← h.len]
    cases dst <;> simp [Act.put]
  · rw [← h.defs]; cases dst <;> rfl
  · intro t
    rcases getS_puts ws t st with ⟨x, hx', hlt, he⟩ | ⟨hn, he⟩
    · rw [he]; exact hw (t, x) hx' (h.len ▸ hlt)
    · rw [he]
      rcases hn with hn | hn
      · have htd : ∀ d, dst = some d → t ≠ d := fun d hd' e => hn (e ▸ (hd d hd').2)
        rw [hput t htd]
        refine (h.slot t).adv k (fun i hi => hn (hE t i hi)) fun s hs => ?_
        exact hput s fun d hd' e => (hd d hd').1 (e ▸ h.xs t s hs)
      · have : getS st t = .unk := by simp [getS, List.getD_eq_getElem?_getD, List.getElem?_eq_none hn]
        rw [this]; trivial
  · intro t s hs
    rcases getS_puts ws t st with ⟨x, hx', _, he⟩ | ⟨_, he⟩
    · rw [he] at hs; exact hx (t, x) hx' s hs
    · rw [he] at hs; exact h.xs t s hs
  · refine ⟨hfr.os.trans h.fr.os, hfr.tape.trans h.fr.tape, hfr.output.trans h.fr.output, Nat.le_trans h.fr.size hfr.size, fun b hb hs => ?_⟩
    rw [hfr.block b (Nat.lt_of_lt_of_le hb h.fr.size) (fun e => hs (hS b hb e)), h.fr.block b hb hs]
  · intro b hb hs
    have h1 := hold b hb hs
    have h2 := h.old b hb hs
    exact ⟨h1.1.trans h2.1, h1.2.trans h2.2⟩

/-- An operation that touches no memory. -/
theorem Rel.pure (h : Rel P S w0 c0 X G st a w) {d : Nat} {v : Value} {x : AV} (hd : d ∉ X) (hx : ∀ s, (∃ o, x = .ref s o) ∨ x = .al s → s ∈ X)
    (hv : RelA P G w (a.put (some d) v) d x v) : Rel P S w0 c0 X G (puts st [(d, x)]) (a.put (some d) v) w :=
  h.upd (Adv.refl G w) (Fr.refl (fun _ => False) w) (fun _ _ e => e.elim) (fun _ _ _ => ⟨rfl, rfl⟩) (fun d' e => by cases e; exact ⟨hd, by simp⟩) (fun _ _ e => e.elim)
    (fun p hp hlt => by
      simp only [List.mem_singleton] at hp
      subst hp
      rw [put_getD, if_pos ⟨rfl, hlt⟩]
      exact hv)
    (fun p hp s hs => by simp only [List.mem_singleton] at hp; subst hp; exact hx s hs)

variable {c : Ctx} {g : Nat → AV}

/-- What the operations of a region may look at. -/
def Sees (st : St) (g : Nat → AV) : Prop := ∀ t, g t = .unk ∨ g t = getS st t

theorem Sees.rel (hg : Sees st g) (h : Rel P S w0 c0 X G st a w) (t : Nat) : RelA P G w a t (g t) (a.tmps.getD t undef) := by
  rcases hg t with e | e
  · rw [e]; trivial
  · rw [e]; exact h.slot t

theorem constSc_sound {ty : TK} {v : Value} {s : Sc} (h : constSc ty v = some s) (G : Gh) (w : World) (loc : Nat × Nat) : RelSc P G w loc s v := by
  unfold constSc at h
  split at h
  · cases h; rfl
  · cases h; rfl
  · split at h
    · cases h
      rename_i e ek
      refine ⟨none, 0, ?_, ?_, ⟨[], ?_, fun j v hj => by simp at hj⟩, fun e' he => ⟨[], ?_, ?_, fun b hb => by cases hb⟩⟩
      · cases ek <;> rfl
      · cases ek <;> exact Nat.le_refl _
      · cases ek <;> simp [EK.empty, Spells]
      · cases ek <;> simp [EK.empty, Spells]
      · cases ek <;> exact World.ownsRow_nil ..
    · cases h; rfl
  · cases h

theorem opr_sound (hg : Sees st g) (h : Rel P S w0 c0 X G st a w) {ty : TK} {x : Operand} {r : RV} (e : opr g ty x = some r) : r.ro = r ∧ ∀ t, RelRV P G w t r (a.eval x) := by
  unfold opr at e
  split at e
  · rename_i t
    have hr := hg.rel h t
    split at e
    · rename_i r' hgt
      cases e
      rw [hgt] at hr
      exact ⟨RV.ro_ro _, fun t' => RelRV.ro hr⟩
    · cases e
  · rename_i v
    split at e
    · rename_i s hs
      cases e
      exact ⟨by simp [RV.ro, Sc.ro_ro], fun t' => RelSc.ro (loc := (0, 0)) (constSc_sound hs G w _)⟩
    · cases e
  · cases e

theorem opInt_sound (hg : Sees st g) (h : Rel P S w0 c0 X G st a w) {x : Operand} {k : IntKind} {n : Int} (e : opInt g x = some (k, n)) : a.eval x = .int k n := by
  unfold opInt at e
  split at e
  · rename_i k' n' ho
    cases e
    exact (opr_sound hg h ho).2 0
  · cases e

theorem opBool_sound (hg : Sees st g) (h : Rel P S w0 c0 X G st a w) {x : Operand} {b : Bool} (e : opBool g x = some b) : a.eval x = .bool b := by
  unfold opBool at e
  split at e
  · rename_i b' ho
    cases e
    exact (opr_sound hg h ho).2 0
  · cases e
end

end Go.Proofs.Ytkeildnpemiacaa.Ev
