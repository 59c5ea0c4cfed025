/- The evaluator is sound, the single operation: what sem says of an operation is what the machine does. First part: words, operands, the operations that touch no memory. -/
import Derived.Test.YtbgfgadekmemeaaFb
import Derived.Tactics
import Derived.Laws.StructEq
import Derived.Laws.AppendOwn
import Derived.Laws.MakeOwn
import Derived.Laws.CopyRow
import Derived.Laws.Cells
namespace Go.Proofs.Ytbgfgadekmemeaa.Ev
open Go.RowKit
set_option linter.unusedVariables false
set_option linter.unusedSimpArgs false
set_option linter.unusedSectionVars false

/-- What the table says of a type is so. -/
def TyOk (P : Program) (t : TypeId) : TK → Prop
  | .int k => P.underlying t = some (.int k) ∧ ∃ i, P.info? t = some i ∧ i.zero = some (.int k 0) ∧ i.size = 1
  | .bool => P.underlying t = some .bool ∧ ∃ i, P.info? t = some i ∧ i.zero = some (.bool false) ∧ i.size = 1
  | .st zs => ∃ fs i zc, P.underlying t = some (.struct fs) ∧ P.info? t = some i ∧ i.zero = some (.agg zc) ∧ i.size = zs.length ∧ fs.size = zs.length ∧
      P.stoodInHeld t = false ∧ P.eqGuardType P.depth t = false ∧
      (∀ G w n, RelCells P G w n zs zc) ∧ ∀ (j : Nat) (f : Field), fs[j]? = some f → f.offset = j ∧ f.name ≠ "_" ∧ (∃ fi, P.info? f.type = some fi ∧ fi.size = 1) ∧ ∀ s, zs[j]? = some s → s.isInt = true → ∃ k, P.underlying f.type = some (.int k)
  | .sl e ek => P.underlying t = some (.slice e) ∧ (∃ i, P.info? t = some i ∧ i.zero = some (.slice none 0 0) ∧ i.size = 1) ∧
      ∃ i z, P.info? e = some i ∧ i.size = ek.size ∧ i.bytes = ek.bytes ∧ i.zero = some z ∧ z.cells.size = ek.size ∧ (ek = .int → z = .int .i64 0)
  | .fn => ∃ a b c, P.underlying t = some (.func a b c) ∧ ∃ i, P.info? t = some i ∧ i.size = 1 ∧ i.zero = some .nilFunc
  | .other => True

/-- The block of a table, by what its slot says. -/
def TabV (G : Gh) (w : World) : AV → Value → Nat → Prop
  | .ms xs, v, b => TabOf G w .sl v b xs.length
  | .tb xs, v, b => TabOf G w .box v b xs.length
  | .box t l, v, b => TabOf G w (.ptr t) v b l.length
  | .cms m p _ xs, v, b => ∃ f cs u, v = .func (.func f) #[] cs ∧ cs[p]? = some u ∧ TabOf G w m u b xs.length
  | _, _, _ => False
def tmV : AV → TM
  | .ms _ => .sl
  | .tb _ => .box
  | .box t _ => .ptr t
  | .cms m _ _ _ => m
  | _ => .sl
def CloV (P : Program) (G : Gh) (w : World) : AV → Value → Nat → Prop
  | .cms m p F xs, v, b => ∀ f cs, v = .func (.func f) #[] cs → Clo P G w m f cs b xs.length F
  | _, _, _ => True

theorem one_of {ys : List Int} (h : ys.length = 1) : ∃ y, ys = [y] := by
  match ys, h with
  | [y], _ => exact ⟨y, rfl⟩
theorem tab_box {t : TypeId} {l : List Sc} {xs : List Int} (h : tab (.box t l) = some xs) : ∃ n, l = [.int .i64 n] ∧ xs = [n] := by
  unfold tab at h
  split at h <;> first | contradiction | skip
  case h_4 h1 => cases h1; cases h; exact ⟨_, rfl, rfl⟩
theorem tab_set {x : AV} {xs : List Int} (h : tab x = some xs) {ys : List Int} (hl : ys.length = xs.length) : tab (setTab ys x) = some ys := by
  cases x <;> first | rfl | cases h | skip
  obtain ⟨n, rfl, rfl⟩ := tab_box h
  obtain ⟨y, rfl⟩ := one_of hl
  rfl
theorem tmV_set (x : AV) (ys : List Int) : tmV (setTab ys x) = tmV x := by cases x <;> rfl
theorem set_set (x : AV) (ys zs : List Int) : setTab zs (setTab ys x) = setTab zs x := by cases x <;> rfl

/-- What a slot says that holds a table. -/
theorem relA_tab {P : Program} {G : Gh} {w : World} {a : Act} {t : Nat} {x : AV} {xs : List Int} {v : Value} (hx : tab x = some xs) :
    RelA P G w a t x v ↔ ∃ b, TabV G w x v b ∧ G.own b = some (t, 0) ∧ G.com b = 0 ∧ Row w (tmV x) b xs ∧ CloV P G w x v b := by
  cases x with
  | ms ys =>
    cases hx
    constructor
    · rintro ⟨b, ty, e, ho, hc, hb⟩; exact ⟨b, e, ho, hc, ⟨ty, trivial, hb⟩, trivial⟩
    · rintro ⟨b, e, ho, hc, ⟨ty, _, hb⟩, _⟩; exact ⟨b, ty, e, ho, hc, hb⟩
  | tb ys =>
    cases hx
    constructor
    · rintro ⟨b, e, ho, hc, hb⟩; exact ⟨b, e, ho, hc, hb, trivial⟩
    · rintro ⟨b, e, ho, hc, hb, _⟩; exact ⟨b, e, ho, hc, hb⟩
  | cms m p F ys =>
    cases hx
    constructor
    · rintro ⟨f, cs, u, b, e, hp, ht, hF, ho, hc, hr⟩
      exact ⟨b, ⟨f, cs, u, e, hp, ht⟩, ho, hc, hr, fun f' cs' e' => by cases e.symm.trans e'; exact hF⟩
    · rintro ⟨b, ⟨f, cs, u, e, hp, ht⟩, ho, hc, hr, hF⟩
      exact ⟨f, cs, u, b, e, hp, ht, hF f cs e, ho, hc, hr⟩
  | box ty l =>
    obtain ⟨n, rfl, rfl⟩ := tab_box hx
    constructor
    · rintro ⟨b, cs, e, ho, hc, hb, hs, hr⟩
      obtain ⟨u, hu, hru⟩ := hr 0 _ rfl
      have hru : u = Value.int .i64 n := hru
      subst hru
      have : cs = ([n].map (Value.int .i64)).toArray := by
        apply Array.ext
        · simpa using hs
        · intro i h1 h2
          have h3 : i = 0 := by simp at h2; exact h2
          subst h3
          simpa [Array.getElem?_eq_getElem h1] using hu
      subst this
      exact ⟨b, ⟨e, rfl⟩, ho, hc, ⟨ty, rfl, hb⟩, trivial⟩
    · rintro ⟨b, e, ho, hc, ⟨ty', ht, hb⟩, _⟩
      have ht : ty' = ty := ht
      subst ht
      refine ⟨b, _, e.1, ho, hc, hb, by simp, fun i s hi => ?_⟩
      cases i with
      | zero => cases hi; exact ⟨_, rfl, rfl⟩
      | succ i => simp at hi
  | _ => cases hx

theorem TabV.set {G : Gh} {w : World} {x : AV} {v : Value} {b : Nat} {xs ys : List Int} (hx : tab x = some xs) (hl : ys.length = xs.length) (h : TabV G w x v b) : TabV G w (setTab ys x) v b := by
  cases x <;> first | exact h.elim | skip
  case ms zs => cases hx; show TabOf G w .sl v b ys.length; rw [hl]; exact h
  case tb zs => cases hx; show TabOf G w .box v b ys.length; rw [hl]; exact h
  case box t l => obtain ⟨n, rfl, rfl⟩ := tab_box hx; exact ⟨h.1, by simpa using hl⟩
  case cms m p F zs => cases hx; obtain ⟨f, cs, u, e, hp, ht⟩ := h; exact ⟨f, cs, u, e, hp, by rw [hl]; exact ht⟩
theorem CloV.set {P : Program} {G : Gh} {w : World} {x : AV} {v : Value} {b : Nat} {xs ys : List Int} (hx : tab x = some xs) (hl : ys.length = xs.length) (h : CloV P G w x v b) : CloV P G w (setTab ys x) v b := by
  cases x <;> first | trivial | (cases hx; intro f cs e; rw [hl]; exact h f cs e)
theorem TabV.adv {G G' : Gh} {w w' : World} {E : Nat × Nat → Prop} {x : AV} {v : Value} {b : Nat} (h : TabV G w x v b) (k : Adv G w G' w' E) : TabV G' w' x v b := by
  cases x <;> first | exact h.elim | skip
  case ms zs => exact TabOf.adv (m := .sl) h k
  case tb zs => exact TabOf.adv (m := .box) h k
  case box t l => exact TabOf.adv (m := .ptr t) h k
  case cms m p F zs => obtain ⟨f, cs, u, e, hp, ht⟩ := h; exact ⟨f, cs, u, e, hp, ht.adv k⟩
theorem CloV.adv {P : Program} {G G' : Gh} {w w' : World} {E : Nat × Nat → Prop} {x : AV} {v : Value} {b : Nat} (h : CloV P G w x v b) (k : Adv G w G' w' E) : CloV P G' w' x v b := by
  cases x <;> first | trivial | exact fun f cs e => (h f cs e).adv k
/-- A table that was written. -/
theorem relA_wrote {P : Program} {G G' : Gh} {w w' : World} {E : Nat × Nat → Prop} {a : Act} {t b : Nat} {x : AV} {xs ys : List Int} {v : Value} (hx : tab x = some xs) (hl : ys.length = xs.length) (hv : TabV G w x v b) (hclo : CloV P G w x v b)
    (k : Adv G w G' w' E) (ho : G'.own b = some (t, 0)) (hc : G'.com b = 0) (hr : Row w' (tmV x) b ys) : RelA P G' w' a t (setTab ys x) v :=
  (relA_tab (tab_set hx hl)).2 ⟨b, (hv.set hx hl).adv k, ho, hc, by rw [tmV_set]; exact hr, (hclo.set hx hl).adv k⟩
theorem tmOf_spec {G : Gh} {w : World} {z : AV} {m : TM} {xs : List Int} (h : tmOf z = some (m, xs)) : tab z = some xs ∧ tmV z = m ∧ (∀ v b, TabV G w z v b → TabOf G w m v b xs.length) ∧ z.on = none ∧ ∀ P v b, CloV P G w z v b := by
  unfold tmOf at h
  split at h <;> cases h <;> exact ⟨rfl, rfl, fun v b h => h, rfl, fun _ _ _ => trivial⟩

/-- A function's contract. -/
def Meets (P : Program) (f : FuncId) (S : Spec) : Prop :=
  ∀ as r fin, S as = some (r, fin) → FnOk P f ∧ ∀ (vs : Array Value) (G : Gh) (w : World) (a : Act), vs.size = as.length →
    (∀ (i : Nat) (x : AV), as[i]? = some x → ∃ v, vs[i]? = some v ∧ RelA P G w a i x v ∧
      ((∃ r, x = .rv r ∧ r.ro = r) ∨ (∃ t l, x = .cbox t l) ∨ ∃ xs, tab x = some xs)) →
    (∀ b, b < w.heap.size → G.own b ≠ none → ∃ (i : Nat) (x : AV) (xs : List Int) (v : Value), as[i]? = some x ∧ tab x = some xs ∧ vs[i]? = some v ∧ TabV G w x v b) →
    Calls P f vs w fun e w' => ∃ v c', e = .returned v ∧ Fr (fun b => G.own b ≠ none) w w' ∧ (∀ b, b < w.heap.size → c' b = G.com b) ∧
      ((∃ r', r = .rv r' ∧ r'.ro = r') ∨ ∃ l, r = .tup l) ∧
      RelA P ⟨fun _ => none, c'⟩ w' a 0 r v ∧
      ∀ (i : Nat) (x : AV) (xs : List Int) (v : Value) (b : Nat), as[i]? = some x → tab x = some xs → vs[i]? = some v → TabV G w x v b →
        ∃ ys, fin[i]? = some (setTab ys x) ∧ ys.length = xs.length ∧ Row w' (tmV x) b ys

/-- The operation comes to its end, and then After holds. -/
def Done (P : Program) (o : Oper) (a : Act) (w : World) (After : Act → World → Prop) : Prop :=
  (∃ v w', (execOp a.eval o).run P w = .ok (.value v) w' ∧ After (a.put o.dst v) w') ∨
  (∃ w', (execOp a.eval o).run P w = .ok .skip w' ∧ After (a.put o.dst undef) w') ∨
  (∃ f args, (execOp a.eval o).run P w = .ok (.enter f args) w ∧ Calls P f args w fun e w' => ∃ v, e = .returned v ∧ After (a.put o.dst v) w')

theorem Done.wp {P : Program} {o : Oper} {a : Act} {w : World} {After : Act → World → Prop} {Q : Exit → Act → World → Prop} (h : Done P o a w After) : o.wp P a w After Q := by
  unfold Oper.wp
  rcases h with ⟨v, w', hr, h⟩ | ⟨w', hr, h⟩ | ⟨f, args, hr, h⟩
  · rw [hr]; exact h
  · rw [hr]; exact h
  · rw [hr]
    refine Calls.mono h ?_
    rintro e w' ⟨v, rfl, h⟩
    exact h

theorem put_getD (a : Act) (d t : Nat) (v : Value) : (a.put (some d) v).tmps.getD t undef = if t = d ∧ d < a.tmps.size then v else a.tmps.getD t undef := by
  simp only [Act.put, Array.getD_eq_getD_getElem?, Array.getElem?_setIfInBounds]
  by_cases h : d = t
  · subst h
    by_cases h2 : d < a.tmps.size <;> simp [h2]
  · rw [if_neg h, if_neg (fun e => h e.1.symm)]

theorem getS_set (st : St) (d t : Nat) (x : AV) : getS (st.set d x) t = if t = d ∧ d < st.length then x else getS st t := by
  simp only [getS, List.getD_eq_getElem?_getD, List.getElem?_set]
  by_cases h : d = t
  · subst h
    by_cases h2 : d < st.length <;> simp [h2]
  · rw [if_neg h, if_neg (fun e => h e.1.symm)]

theorem puts_length (ws : List (Nat × AV)) : ∀ st : St, (puts st ws).length = st.length := by
  induction ws with
  | nil => intro st; rfl
  | cons p ws ih => intro st; simp only [puts, List.foldl_cons] at ih ⊢; rw [ih]; simp [put1]

theorem getS_puts (ws : List (Nat × AV)) (t : Nat) : ∀ st : St,
    (∃ x, (t, x) ∈ ws ∧ t < st.length ∧ getS (puts st ws) t = x) ∨ ((t ∉ ws.map (·.1) ∨ st.length ≤ t) ∧ getS (puts st ws) t = getS st t) := by
  induction ws with
  | nil => intro st; exact .inr ⟨.inl (by simp), rfl⟩
  | cons p ws ih =>
    intro st
    obtain ⟨d, x⟩ := p
    have hl : (put1 st (d, x)).length = st.length := by simp [put1]
    have hp : puts st ((d, x) :: ws) = puts (put1 st (d, x)) ws := rfl
    rw [hp]
    rcases ih (put1 st (d, x)) with ⟨y, hy, hlt, he⟩ | ⟨hn, he⟩
    · exact .inl ⟨y, List.mem_cons_of_mem _ hy, hl ▸ hlt, he⟩
    · rw [he]
      have hs : getS (put1 st (d, x)) t = if t = d ∧ d < st.length then x else getS st t := getS_set st d t x
      by_cases h : t = d ∧ d < st.length
      · rw [hs, if_pos h]
        obtain ⟨rfl, hlt⟩ := h
        exact .inl ⟨x, List.mem_cons_self .., hlt, rfl⟩
      · rw [hs, if_neg h]
        refine .inr ⟨?_, rfl⟩
        rw [hl] at hn
        by_cases htd : t = d
        · exact .inr (by have : ¬ d < st.length := fun hh => h ⟨htd, hh⟩; omega)
        · rcases hn with hn | hn
          · exact .inl (by simp only [List.map_cons, List.mem_cons, not_or]; exact ⟨htd, hn⟩)
          · exact .inr hn

section
variable {P : Program} {S : Nat → Prop} {w0 w w' : World} {c0 : C0} {X : List Nat} {G G' : Gh} {st : St} {a : Act} {E : Nat × Nat → Prop}

/-- The state behind an operation. -/
theorem Rel.upd (h : Rel P S w0 c0 X G st a w) {ws : List (Nat × AV)} {dst : Option Nat} {v : Value} {S' : Nat → Prop} (k : Adv G w G' w' E) (hfr : Fr S' w w')
    (hS : ∀ b, b < w0.heap.size → S' b → S b) (hold : ∀ b, b < w0.heap.size → ¬ S b → G'.com b = G.com b ∧ G'.own b = G.own b)
    (hd : ∀ d, dst = some d → d ∉ X ∧ d ∈ ws.map (·.1)) (hE : ∀ t i, E (t, i) → t ∈ ws.map (·.1))
    (hw : ∀ p ∈ ws, p.1 < a.tmps.size → RelA P G' w' (a.put dst v) p.1 p.2 ((a.put dst v).tmps.getD p.1 undef))
    (hx : ∀ p ∈ ws, ∀ s, p.2.on = some s → s ∈ X ∧ (p.2.pinned = true → s ∈ c0.fx)) :
    Rel P S w0 c0 X G' (puts st ws) (a.put dst v) w' := by
  have hput : ∀ t, (∀ d, dst = some d → t ≠ d) → (a.put dst v).tmps.getD t undef = a.tmps.getD t undef := by
    intro t ht
    cases dst with
    | none => rfl
    | some d => rw [put_getD, if_neg (fun e => ht d rfl e.1)]
  refine ⟨?_, ?_, ?_, ?_, ?_, ?_, h.fixX, fun s hs => (hput s fun d hd' e => (hd d hd').1 (e ▸ h.fixX s hs)).trans (h.fix s hs)⟩
  · rw [puts_length, ← h.len]
    cases dst <;> simp [Act.put]
  · rw [← h.defs]; cases dst <;> rfl
  · intro t
    rcases getS_puts ws t st with ⟨x, hx', hlt, he⟩ | ⟨hn, he⟩
    · rw [he]; exact hw (t, x) hx' (h.len ▸ hlt)
    · rw [he]
      rcases hn with hn | hn
      · have htd : ∀ d, dst = some d → t ≠ d := fun d hd' e => hn (e ▸ (hd d hd').2)
        rw [hput t htd]
        refine (h.slot t).adv k (fun i hi => hn (hE t i hi)) fun s hs => ?_
        exact hput s fun d hd' e => (hd d hd').1 (e ▸ (h.xs t s hs).1)
      · have : getS st t = .unk := by simp [getS, List.getD_eq_getElem?_getD, List.getElem?_eq_none hn]
        rw [this]; trivial
  · intro t s hs
    rcases getS_puts ws t st with ⟨x, hx', _, he⟩ | ⟨_, he⟩
    · rw [he] at hs ⊢; exact hx (t, x) hx' s hs
    · rw [he] at hs ⊢; exact h.xs t s hs
  · refine ⟨hfr.os.trans h.fr.os, hfr.tape.trans h.fr.tape, hfr.output.trans h.fr.output, Nat.le_trans h.fr.size hfr.size, fun b hb hs => ?_⟩
    rw [hfr.block b (Nat.lt_of_lt_of_le hb h.fr.size) (fun e => hs (hS b hb e)), h.fr.block b hb hs]
  · intro b hb hs
    have h1 := hold b hb hs
    have h2 := h.old b hb hs
    exact ⟨h1.1.trans h2.1, h1.2.trans h2.2⟩

/-- An operation that touches no memory. -/
theorem Rel.pure (h : Rel P S w0 c0 X G st a w) {d : Nat} {v : Value} {x : AV} (hd : d ∉ X) (hx : ∀ s, x.on = some s → s ∈ X ∧ (x.pinned = true → s ∈ c0.fx))
    (hv : RelA P G w (a.put (some d) v) d x v) : Rel P S w0 c0 X G (puts st [(d, x)]) (a.put (some d) v) w :=
  h.upd (Adv.refl G w) (Fr.refl (fun _ => False) w) (fun _ _ e => e.elim) (fun _ _ _ => ⟨rfl, rfl⟩) (fun d' e => by cases e; exact ⟨hd, by simp⟩) (fun _ _ e => e.elim)
    (fun p hp hlt => by
      simp only [List.mem_singleton] at hp
      subst hp
      rw [put_getD, if_pos ⟨rfl, hlt⟩]
      exact hv)
    (fun p hp s hs => by simp only [List.mem_singleton] at hp; subst hp; exact hx s hs)

variable {c : Ctx} {g : Nat → AV}

/-- What the operations of a region may look at. -/
def Sees (st : St) (g : Nat → AV) : Prop := ∀ t, g t = .unk ∨ g t = getS st t

theorem Sees.rel (hg : Sees st g) (h : Rel P S w0 c0 X G st a w) (t : Nat) : RelA P G w a t (g t) (a.tmps.getD t undef) := by
  rcases hg t with e | e
  · rw [e]; trivial
  · rw [e]; exact h.slot t

theorem constSc_sound {ty : TK} {v : Value} {s : Sc} (h : constSc ty v = some s) (G : Gh) (w : World) (loc : Nat × Nat) : RelSc P G w loc s v := by
  unfold constSc at h
  split at h
  · cases h; rfl
  · cases h; rfl
  · split at h
    · cases h
      rename_i e ek
      refine ⟨none, 0, ?_, ?_, ⟨[], ?_, fun j v hj => by simp at hj⟩, fun e' he => ⟨[], ?_, ?_, fun b hb => by cases hb⟩⟩
      · cases ek <;> rfl
      · cases ek <;> exact Nat.le_refl _
      · cases ek <;> simp [EK.empty, Spells]
      · cases ek <;> simp [EK.empty, Spells]
      · cases ek <;> exact World.ownsRow_nil ..
    · cases h; rfl
  · cases h

theorem opr_sound (hg : Sees st g) (h : Rel P S w0 c0 X G st a w) {ty : TK} {x : Operand} {r : RV} (e : opr g ty x = some r) : r.ro = r ∧ ∀ t, RelRV P G w t r (a.eval x) := by
  unfold opr at e
  split at e
  · rename_i t
    have hr := hg.rel h t
    split at e
    · rename_i r' hgt
      cases e
      rw [hgt] at hr
      exact ⟨RV.ro_ro _, fun t' => RelRV.ro hr⟩
    · cases e
  · rename_i v
    split at e
    · rename_i s hs
      cases e
      exact ⟨by simp [RV.ro, Sc.ro_ro], fun t' => RelSc.ro (loc := (0, 0)) (constSc_sound hs G w _)⟩
    · cases e
  · cases e

theorem opInt_sound (hg : Sees st g) (h : Rel P S w0 c0 X G st a w) {x : Operand} {k : IntKind} {n : Int} (e : opInt g x = some (k, n)) : a.eval x = .int k n := by
  unfold opInt at e
  split at e
  · rename_i k' n' ho
    cases e
    exact (opr_sound hg h ho).2 0
  · cases e

theorem opBool_sound (hg : Sees st g) (h : Rel P S w0 c0 X G st a w) {x : Operand} {b : Bool} (e : opBool g x = some b) : a.eval x = .bool b := by
  unfold opBool at e
  split at e
  · rename_i b' ho
    cases e
    exact (opr_sound hg h ho).2 0
  · cases e
end

end Go.Proofs.Ytbgfgadekmemeaa.Ev
