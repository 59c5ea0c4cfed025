/- What an abstract value says of a value of the machine in a world, and that it goes on to say so while memory grows. Conditions: none; definitions and general lemmas. -/
import Derived.Test.YtbgfgadekmemeaaFa
import Derived.Below
import Derived.Orders
namespace Go.Proofs.Ytbgfgadekmemeaa.Ev
open Go.RowKit
set_option linter.unusedVariables false
set_option linter.unusedSimpArgs false
set_option linter.unusedSectionVars false

/-- Who may write a block, and how many of its cells are fixed for good. -/
structure Gh where
  own : Nat → Option (Nat × Nat)
  com : Nat → Nat

def Cm (G : Gh) (w : World) (a : Addr) (v : Value) : Prop := w.cell? a = some v ∧ a.off < G.com a.block

def pairV (p : Int × Int) : List Value := [.int .i64 p.1, .int .i64 p.2]
def quadV (p : Int × Int × Int × Int) : List Value := [.int .i64 p.1, .int .i64 p.2.1, .int .i64 p.2.2.1, .int .i64 p.2.2.2]

/-- The cells from an address on. -/
def Reads (G : Gh) (w : World) (A : Option Addr) (vs : List Value) : Prop :=
  ∀ (j : Nat) (v : Value), vs[j]? = some v → ∃ ad, A = some ad ∧ Cm G w (ad.add j) v

/-- The cells that spell a slice's content. -/
def Spells (G : Gh) (w : World) : Arr → List Value → Prop
  | .ints xs, vs => vs = xs.map (.int .i64)
  | .pts xs, vs => vs = xs.flatMap pairV
  | .quads xs, vs => vs = xs.flatMap quadV
  | .polys xs, vs => vs.length = xs.length ∧ ∀ (i : Nat) (l : List (Int × Int)), xs[i]? = some l → ∃ (A : Option Addr) (cap : Nat), vs[i]? = some (Value.slice A l.length cap) ∧ l.length ≤ cap ∧ Reads G w A (l.flatMap pairV)

def Holds (G : Gh) (w : World) (A : Option Addr) (a : Arr) : Prop := ∃ vs, Spells G w a vs ∧ Reads G w A vs

/-- The slice at this place may be appended to. -/
def Owned (G : Gh) (w : World) (loc : Nat × Nat) (e : TypeId) (a : Arr) (v : Value) : Prop :=
  ∃ vs, Spells G w a vs ∧ w.ownsRow 0 e a.kind.size v a.len vs ∧ ∀ b, v.ownBlock = some b → G.own b = some loc ∧ G.com b = a.len * a.kind.size

/-- A later world: what was fixed is still so. -/
def Later (G : Gh) (w w' : World) : Prop :=
  w.heap.size ≤ w'.heap.size ∧ ∀ b o, b < w.heap.size → o < G.com b → w'.cell? ⟨b, o, none⟩ = w.cell? ⟨b, o, none⟩

/-- Outside S the world w' is as w was; it may have grown. -/
structure Fr (S : Nat → Prop) (w w' : World) : Prop where
  os : w'.os = w.os
  tape : w'.tape = w.tape
  output : w'.output = w.output
  size : w.heap.size ≤ w'.heap.size
  block : ∀ k, k < w.heap.size → ¬ S k → w'.heap[k]? = w.heap[k]?

theorem Fr.refl (S : Nat → Prop) (w : World) : Fr S w w := ⟨rfl, rfl, rfl, Nat.le_refl _, fun _ _ _ => rfl⟩
theorem Fr.trans {S : Nat → Prop} {a b c : World} (h : Fr S a b) (k : Fr S b c) : Fr S a c :=
  ⟨k.os.trans h.os, k.tape.trans h.tape, k.output.trans h.output, Nat.le_trans h.size k.size, fun i hi hs => (k.block i (Nat.lt_of_lt_of_le hi h.size) hs).trans (h.block i hi hs)⟩
theorem Fr.below {w w' : World} (h : Fr (fun _ => False) w w') : Below w.heap.size w w' := ⟨h.os, h.tape, h.output, h.size, fun k hk => h.block k hk id⟩
theorem Fr.of_below {w w' : World} (h : Below w.heap.size w w') : Fr (fun _ => False) w w' := ⟨h.os, h.tape, h.output, h.size, fun k hk _ => h.block k hk⟩

def FnOk (P : Program) (f : FuncId) : Prop := ∃ fn, P.funcs[f]? = some fn ∧ (fn.name == "runtime.NumGoroutine") = false ∧ fn.body.isSome = true

section
variable (P : Program)

def RelSc (G : Gh) (w : World) (loc : Nat × Nat) : Sc → Value → Prop
  | .int k n, v => v = .int k n
  | .bool b, v => v = .bool b
  | .nil, v => v = .slice none 0 0
  | .sl o a, v => ∃ A cap, v = .slice A a.len cap ∧ a.len ≤ cap ∧ Holds G w A a ∧ ∀ e, o = some e → Owned G w loc e a v
  | .fn F, v => ∃ f cs, v = .func (.func f) #[] cs ∧ ∀ vs r, F vs = some r → FnOk P f ∧ ∀ w', Later G w w' →
      Calls P f (vs.toArray ++ cs) w' fun e w'' => e = .returned r ∧ Below w'.heap.size w' w''
  | .fnc f, v => v = .func (.func f) #[] #[]
  | .nofn, v => v = .nilFunc
  | .ln n, v => ∃ A cap, v = .slice A n cap

def RelCells (G : Gh) (w : World) (t : Nat) (l : List Sc) (cs : Array Value) : Prop :=
  cs.size = l.length ∧ ∀ (i : Nat) (s : Sc), l[i]? = some s → ∃ v, cs[i]? = some v ∧ RelSc P G w (t, i + 1) s v

def RelRV (G : Gh) (w : World) (t : Nat) : RV → Value → Prop
  | .sc s, v => RelSc P G w (t, 0) s v
  | .agg l, v => ∃ cs, v = .agg cs ∧ RelCells P G w t l cs

def Ro (r : RV) : Prop := r.ro = r

/-- The block of a table, as its value tells it. -/
def TabOf (G : Gh) (w : World) : TM → Value → Nat → Nat → Prop
  | .sl, u, b, n => u = .slice (some ⟨b, 0, none⟩) n n
  | .ptr _, u, b, n => u = .pointer (some ⟨b, 0, none⟩) ∧ n = 1
  | .box, u, b, n => ∃ b0, u = .pointer (some ⟨b0, 0, none⟩) ∧ Cm G w ⟨b0, 0, none⟩ (.slice (some ⟨b, 0, none⟩) n n)
def TM.ok : TM → TypeId → Prop
  | .ptr t, ty => ty = t
  | _, _ => True
def Row (w : World) (m : TM) (b : Nat) (xs : List Int) : Prop := ∃ ty, m.ok ty ∧ w.heap[b]? = some (.cells (xs.map (Value.int .i64)).toArray ty (0, 0))
/-- What a call of a closure does to its table. -/
def Clo (G : Gh) (w : World) (m : TM) (f : FuncId) (cs : Array Value) (b n : Nat) (F : List Value → List Int → Option (List Int)) : Prop :=
  ∀ vs xs ys, xs.length = n → F vs xs = some ys → FnOk P f ∧ ∀ w', Later G w w' → Row w' m b xs →
    Calls P f (vs.toArray ++ cs) w' fun e w'' => e = .returned (.tuple #[]) ∧ Fr (fun k => k = b) w' w'' ∧ Row w'' m b ys ∧ ys.length = n
def RelAl (G : Gh) (w : World) (u : Value) : AL → Value → Prop
  | .same, v => v = u
  | .cell, v => ∃ b0, v = .pointer (some ⟨b0, 0, none⟩) ∧ Cm G w ⟨b0, 0, none⟩ u
  | .cont, v => ∃ b0, u = .pointer (some ⟨b0, 0, none⟩) ∧ Cm G w ⟨b0, 0, none⟩ v
  | .el m i, v => ∃ b n, TabOf G w m u b n ∧ v = .pointer (some ⟨b, i, none⟩)
  | .clo m p F, v => ∃ f cs b n, v = .func (.func f) #[] cs ∧ cs[p]? = some u ∧ TabOf G w m u b n ∧ Clo P G w m f cs b n F

def RelA (G : Gh) (w : World) (a : Act) (t : Nat) : AV → Value → Prop
  | .unk, _ => True
  | .skip, v => v = undef
  | .rv r, v => RelRV P G w t r v
  | .tup l, v => ∃ vs, v = .tuple vs ∧ vs.size = l.length ∧ ∀ (i : Nat) (r : RV), l[i]? = some r → r.ro = r ∧ ∃ u, vs[i]? = some u ∧ RelRV P G w t r u
  | .box ty l, v => ∃ b cs, v = .pointer (some ⟨b, 0, none⟩) ∧ G.own b = some (t, 0) ∧ G.com b = 0 ∧ w.heap[b]? = some (.cells cs ty (0, 0)) ∧ RelCells P G w t l cs
  | .cbox ty l, v => ∃ b, v = .pointer (some ⟨b, 0, none⟩) ∧ ∀ (i : Nat) (s : Sc), l[i]? = some s → s.ro = s ∧ ∃ u, Cm G w ⟨b, i, none⟩ u ∧ RelSc P G w (t, i + 1) s u
  | .ref s off, v => ∃ b, a.tmps.getD s undef = .pointer (some ⟨b, 0, none⟩) ∧ v = .pointer (some ⟨b, off, none⟩)
  | .eref l, v => ∃ ad, v = .pointer (some ad) ∧ ∀ (i : Nat) (s : Sc), l[i]? = some s → s.ro = s ∧ ∃ u, Cm G w (ad.add i) u ∧ RelSc P G w (t, i + 1) s u
  | .ms xs, v => ∃ b ty, v = .slice (some ⟨b, 0, none⟩) xs.length xs.length ∧ G.own b = some (t, 0) ∧ G.com b = 0 ∧ w.heap[b]? = some (.cells (xs.map (Value.int .i64)).toArray ty (0, 0))
  | .tb xs, v => ∃ b, TabOf G w .box v b xs.length ∧ G.own b = some (t, 0) ∧ G.com b = 0 ∧ Row w .box b xs
  | .cms m p F xs, v => ∃ f cs u b, v = .func (.func f) #[] cs ∧ cs[p]? = some u ∧ TabOf G w m u b xs.length ∧ Clo P G w m f cs b xs.length F ∧ G.own b = some (t, 0) ∧ G.com b = 0 ∧ Row w m b xs
  | .al s k, v => RelAl P G w (a.tmps.getD s undef) k v

/-- From (G, w) to (G', w') everything fixed stays, and so does what the owners outside E own. -/
structure Adv (G : Gh) (w : World) (G' : Gh) (w' : World) (E : Nat × Nat → Prop) : Prop where
  size : w.heap.size ≤ w'.heap.size
  cell : ∀ b o, b < w.heap.size → o < G.com b → w'.cell? ⟨b, o, none⟩ = w.cell? ⟨b, o, none⟩ ∧ o < G'.com b
  own : ∀ b loc, b < w.heap.size → G.own b = some loc → ¬ E loc → G'.own b = some loc ∧ G'.com b = G.com b ∧ w'.heap[b]? = w.heap[b]?
end

theorem Adv.refl (G : Gh) (w : World) : Adv G w G w (fun _ => False) :=
  ⟨Nat.le_refl _, fun _ _ _ h => ⟨rfl, h⟩, fun _ _ _ h _ => ⟨h, rfl, rfl⟩⟩

theorem Adv.wide {G : Gh} {w : World} {G' : Gh} {w' : World} {E E' : Nat × Nat → Prop} (h : Adv G w G' w' E) (he : ∀ l, E l → E' l) : Adv G w G' w' E' :=
  ⟨h.size, h.cell, fun b loc hb ho hn => h.own b loc hb ho (fun hh => hn (he _ hh))⟩

theorem cell_addr {w : World} {a : Addr} {v : Value} (h : w.cell? a = some v) : a = ⟨a.block, a.off, none⟩ ∧ a.block < w.heap.size := by
  unfold World.cell? at h
  split at h
  · rename_i c _ _ hb
    have hlt : a.block < w.heap.size := (Array.getElem?_eq_some_iff.1 hb).1
    cases hs : a.spot with
    | none => exact ⟨by cases a; simp_all, hlt⟩
    | some s => simp [hs] at h
  · cases h

section
variable {P : Program} {G G' : Gh} {w w' : World} {E : Nat × Nat → Prop}

theorem Cm.adv {a : Addr} {v : Value} (h : Cm G w a v) (k : Adv G w G' w' E) : Cm G' w' a v := by
  obtain ⟨ha, hb⟩ := cell_addr h.1
  have hc := h.1
  have ho := h.2
  rw [ha] at hc ho ⊢
  have := k.cell a.block a.off hb ho
  exact ⟨this.1.trans hc, this.2⟩

theorem Reads.adv {A : Option Addr} {vs : List Value} (h : Reads G w A vs) (k : Adv G w G' w' E) : Reads G' w' A vs :=
  fun j v hj => let ⟨ad, e, c⟩ := h j v hj; ⟨ad, e, c.adv k⟩

theorem Spells.adv {a : Arr} {vs : List Value} (h : Spells G w a vs) (k : Adv G w G' w' E) : Spells G' w' a vs := by
  cases a with
  | polys xs => exact ⟨h.1, fun i l hl => let ⟨A, cap, e, hc, r⟩ := h.2 i l hl; ⟨A, cap, e, hc, r.adv k⟩⟩
  | _ => exact h

theorem Holds.adv {A : Option Addr} {a : Arr} (h : Holds G w A a) (k : Adv G w G' w' E) : Holds G' w' A a :=
  let ⟨vs, s, r⟩ := h; ⟨vs, s.adv k, r.adv k⟩

theorem Later.adv {w'' : World} (h : Later G' w' w'') (k : Adv G w G' w' E) : Later G w w'' :=
  ⟨Nat.le_trans k.size h.1, fun b o hb ho => by
    have h1 := k.cell b o hb ho
    rw [h.2 b o (Nat.lt_of_lt_of_le hb k.size) h1.2, h1.1]⟩

theorem ownsRow_same {e : TypeId} {size n : Nat} {v : Value} {xs : List Value} (h : w.ownsRow 0 e size v n xs) (hb : ∀ b, v.ownBlock = some b → w'.heap[b]? = w.heap[b]?) : w'.ownsRow 0 e size v n xs := by
  refine ⟨h.1, ?_⟩
  rcases h.2 with hn | ⟨g, cap, cur, rfl, hg, hgg, rest⟩
  · exact .inl hn
  · exact .inr ⟨g, cap, cur, rfl, hg, by rw [hb g rfl]; exact hgg, rest⟩

theorem Owned.adv {loc : Nat × Nat} {e : TypeId} {a : Arr} {v : Value} (h : Owned G w loc e a v) (k : Adv G w G' w' E) (hE : ¬ E loc) : Owned G' w' loc e a v := by
  obtain ⟨vs, hs, ho, hb⟩ := h
  have hlt := ho.lt
  refine ⟨vs, hs.adv k, ownsRow_same ho fun b hv => ?_, fun b hv => ?_⟩
  · exact (k.own b loc (hlt b hv).2 (hb b hv).1 hE).2.2
  · have := k.own b loc (hlt b hv).2 (hb b hv).1 hE
    exact ⟨this.1, this.2.1.trans (hb b hv).2⟩

theorem RelSc.adv {loc : Nat × Nat} {s : Sc} {v : Value} (h : RelSc P G w loc s v) (k : Adv G w G' w' E) (hE : s.ro = s ∨ ¬ E loc) : RelSc P G' w' loc s v := by
  cases s with
  | sl o a =>
    obtain ⟨A, cap, e, hc, hh, ho⟩ := h
    refine ⟨A, cap, e, hc, hh.adv k, fun e' he => ?_⟩
    rcases hE with hE | hE
    · simp [Sc.ro] at hE; simp [← hE] at he
    · exact (ho e' he).adv k hE
  | fn F =>
    obtain ⟨f, cs, e, hh⟩ := h
    exact ⟨f, cs, e, fun vs r hr => ⟨(hh vs r hr).1, fun w'' hl => (hh vs r hr).2 w'' (hl.adv k)⟩⟩
  | _ => exact h

/-- A value read only says the same at every place. -/
theorem RelSc.ro {loc loc' : Nat × Nat} {s : Sc} {v : Value} (h : RelSc P G w loc s v) : RelSc P G w loc' s.ro v := by
  cases s with
  | sl o a =>
    obtain ⟨A, cap, e, hc, hh, ho⟩ := h
    exact ⟨A, cap, e, hc, hh, fun e' he => by cases he⟩
  | _ => exact h

theorem Sc.ro_ro (s : Sc) : s.ro.ro = s.ro := by cases s <;> rfl
theorem RV.ro_ro (r : RV) : r.ro.ro = r.ro := by
  cases r with
  | sc s => simp [RV.ro, Sc.ro_ro]
  | agg l => simp [RV.ro, List.map_map, Function.comp_def, Sc.ro_ro]

theorem RelCells.adv {t : Nat} {l : List Sc} {cs : Array Value} (h : RelCells P G w t l cs) (k : Adv G w G' w' E) (hE : ∀ i, ¬ E (t, i + 1)) : RelCells P G' w' t l cs :=
  ⟨h.1, fun i s hi => let ⟨v, hv, r⟩ := h.2 i s hi; ⟨v, hv, r.adv k (.inr (hE i))⟩⟩

theorem RelCells.ro {t t' : Nat} {l : List Sc} {cs : Array Value} (h : RelCells P G w t l cs) : RelCells P G w t' (l.map Sc.ro) cs := by
  refine ⟨by simpa using h.1, fun i s hi => ?_⟩
  rw [List.getElem?_map] at hi
  cases hl : l[i]? with
  | none => simp [hl] at hi
  | some s0 =>
    simp [hl] at hi
    obtain ⟨v, hv, r⟩ := h.2 i s0 hl
    exact ⟨v, hv, hi ▸ r.ro⟩

theorem RelRV.adv {t : Nat} {r : RV} {v : Value} (h : RelRV P G w t r v) (k : Adv G w G' w' E) (hE : ∀ i, ¬ E (t, i)) : RelRV P G' w' t r v := by
  cases r with
  | sc s => exact RelSc.adv h k (.inr (hE 0))
  | agg l => obtain ⟨cs, e, hc⟩ := h; exact ⟨cs, e, hc.adv k fun i => hE (i + 1)⟩

theorem RelRV.ro {t t' : Nat} {r : RV} {v : Value} (h : RelRV P G w t r v) : RelRV P G w t' r.ro v := by
  cases r with
  | sc s => exact RelSc.ro h
  | agg l => obtain ⟨cs, e, hc⟩ := h; exact ⟨cs, e, hc.ro⟩

/-- What is read only goes on whatever E is, and at every place. -/
theorem RelRV.roAdv {t t' : Nat} {r : RV} {v : Value} (h : RelRV P G w t r v) (hr : r.ro = r) (k : Adv G w G' w' E) : RelRV P G' w' t' r v := by
  have h' := h.ro (t' := t')
  rw [hr] at h'
  cases r with
  | sc s => exact RelSc.adv h' k (.inl (by simpa [RV.ro] using hr))
  | agg l =>
    obtain ⟨cs, e, hc⟩ := h'
    have hl : l.map Sc.ro = l := by simpa [RV.ro] using hr
    refine ⟨cs, e, hc.1, fun i s hi => ?_⟩
    obtain ⟨u, hu, r⟩ := hc.2 i s hi
    refine ⟨u, hu, r.adv k (.inl ?_)⟩
    have := congrArg (·[i]?) hl
    simp only [List.getElem?_map, hi, Option.map_some] at this
    simpa using this

theorem Row.lt {m : TM} {b : Nat} {xs : List Int} (h : Row w m b xs) : b < w.heap.size := by
  obtain ⟨ty, _, h⟩ := h
  exact (Array.getElem?_eq_some_iff.1 h).1
theorem Row.same {m : TM} {b : Nat} {xs : List Int} (h : Row w m b xs) (e : w'.heap[b]? = w.heap[b]?) : Row w' m b xs := by
  obtain ⟨ty, h1, h2⟩ := h
  exact ⟨ty, h1, e.trans h2⟩
theorem TabOf.adv {m : TM} {u : Value} {b n : Nat} (h : TabOf G w m u b n) (k : Adv G w G' w' E) : TabOf G' w' m u b n := by
  cases m with
  | box => obtain ⟨b0, e, hc⟩ := h; exact ⟨b0, e, hc.adv k⟩
  | _ => exact h
theorem TabOf.det {m : TM} {u : Value} {b b' n n' : Nat} (h : TabOf G w m u b n) (h' : TabOf G' w m u b' n') : b = b' ∧ n = n' := by
  cases m with
  | sl => cases h.symm.trans h'; exact ⟨rfl, rfl⟩
  | ptr t => cases h.1.symm.trans h'.1; exact ⟨rfl, h.2.trans h'.2.symm⟩
  | box =>
    obtain ⟨b0, e, hc⟩ := h
    obtain ⟨b1, e', hc'⟩ := h'
    cases e.symm.trans e'
    cases hc.1.symm.trans hc'.1
    exact ⟨rfl, rfl⟩
theorem Clo.adv {m : TM} {f : FuncId} {cs : Array Value} {b n : Nat} {F : List Value → List Int → Option (List Int)} (h : Clo P G w m f cs b n F) (k : Adv G w G' w' E) : Clo P G' w' m f cs b n F :=
  fun vs xs ys hl e => let ⟨h1, h3⟩ := h vs xs ys hl e; ⟨h1, fun w'' hl => h3 w'' (hl.adv k)⟩
theorem RelAl.adv {u v : Value} {al : AL} (h : RelAl P G w u al v) (k : Adv G w G' w' E) : RelAl P G' w' u al v := by
  cases al with
  | same => exact h
  | cell => obtain ⟨b0, e, hc⟩ := h; exact ⟨b0, e, hc.adv k⟩
  | cont => obtain ⟨b0, e, hc⟩ := h; exact ⟨b0, e, hc.adv k⟩
  | el m i => obtain ⟨b, n, ht, e⟩ := h; exact ⟨b, n, ht.adv k, e⟩
  | clo m p F => obtain ⟨f, cs, b, n, e, hp, ht, hF⟩ := h; exact ⟨f, cs, b, n, e, hp, ht.adv k, hF.adv k⟩

theorem RelA.adv {a a' : Act} {t : Nat} {x : AV} {v : Value} (h : RelA P G w a t x v) (k : Adv G w G' w' E) (hE : ∀ i, ¬ E (t, i))
    (ht : ∀ s, x.on = some s → a'.tmps.getD s undef = a.tmps.getD s undef) : RelA P G' w' a' t x v := by
  cases x with
  | unk => trivial
  | skip => exact h
  | rv r => exact RelRV.adv h k hE
  | tup l =>
    obtain ⟨vs, e, hs, hl⟩ := h
    refine ⟨vs, e, hs, fun i r hi => ?_⟩
    obtain ⟨hr, u, hu, hh⟩ := hl i r hi
    exact ⟨hr, u, hu, hh.roAdv hr k⟩
  | box ty l =>
    obtain ⟨b, cs, e, ho, hc, hb, hr⟩ := h
    have hlt : b < w.heap.size := (Array.getElem?_eq_some_iff.1 hb).1
    have := k.own b (t, 0) hlt ho (hE 0)
    exact ⟨b, cs, e, this.1, this.2.1.trans hc, this.2.2.trans hb, hr.adv k fun i => hE (i + 1)⟩
  | cbox ty l =>
    obtain ⟨b, e, hl⟩ := h
    refine ⟨b, e, fun i s hi => ?_⟩
    obtain ⟨hr, u, hu, hh⟩ := hl i s hi
    exact ⟨hr, u, hu.adv k, hh.adv k (.inl hr)⟩
  | ref s off =>
    obtain ⟨b, e, hv⟩ := h
    exact ⟨b, (ht s rfl).trans e, hv⟩
  | eref l =>
    obtain ⟨ad, e, hl⟩ := h
    refine ⟨ad, e, fun i s hi => ?_⟩
    obtain ⟨hr, u, hu, hh⟩ := hl i s hi
    exact ⟨hr, u, hu.adv k, hh.adv k (.inl hr)⟩
  | ms xs =>
    obtain ⟨b, ty, e, ho, hc, hb⟩ := h
    have hlt : b < w.heap.size := (Array.getElem?_eq_some_iff.1 hb).1
    have := k.own b (t, 0) hlt ho (hE 0)
    exact ⟨b, ty, e, this.1, this.2.1.trans hc, this.2.2.trans hb⟩
  | tb xs =>
    obtain ⟨b, hv, ho, hc, hr⟩ := h
    have := k.own b (t, 0) hr.lt ho (hE 0)
    exact ⟨b, hv.adv k, this.1, this.2.1.trans hc, hr.same this.2.2⟩
  | cms m p F xs =>
    obtain ⟨f, cs, u, b, e, hp, hv, hF, ho, hc, hr⟩ := h
    have := k.own b (t, 0) hr.lt ho (hE 0)
    exact ⟨f, cs, u, b, e, hp, hv.adv k, hF.adv k, this.1, this.2.1.trans hc, hr.same this.2.2⟩
  | al s al =>
    show RelAl P G' w' (a'.tmps.getD s undef) al v
    rw [ht s rfl]
    exact RelAl.adv h k
end

/-- Where a call began: what was fixed, and the slots of the tables that the caller gave. -/
structure C0 where
  com : Nat → Nat
  fx : List Nat
  val : Nat → Value

/-- The whole state of a call: where it began, and what its slots say. -/
structure Rel (P : Program) (S : Nat → Prop) (w0 : World) (c0 : C0) (X : List Nat) (G : Gh) (st : St) (a : Act) (w : World) : Prop where
  len : a.tmps.size = st.length
  defs : a.defers = []
  slot : ∀ t, RelA P G w a t (getS st t) (a.tmps.getD t undef)
  xs : ∀ t s, (getS st t).on = some s → s ∈ X ∧ ((getS st t).pinned = true → s ∈ c0.fx)
  fr : Fr S w0 w
  old : ∀ b, b < w0.heap.size → ¬ S b → G.com b = c0.com b ∧ G.own b = none
  fixX : ∀ s, s ∈ c0.fx → s ∈ X
  fix : ∀ s, s ∈ c0.fx → a.tmps.getD s undef = c0.val s

end Go.Proofs.Ytbgfgadekmemeaa.Ev
