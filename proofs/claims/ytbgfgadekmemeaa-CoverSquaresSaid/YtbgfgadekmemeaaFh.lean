/- The evaluator is sound, the single operation, sixth part: slices built, loads, addresses, cuts of slices. Conditions: a table of types that is so. -/
import Derived.Test.YtbgfgadekmemeaaFg
namespace Go.Proofs.Ytbgfgadekmemeaa.Ev
open Go.RowKit
set_option linter.unusedVariables false
set_option linter.unusedSimpArgs false
set_option linter.unusedSectionVars false

theorem foldl_set : ∀ (l : List Value) (n off : Nat) (cs : Array Value), off + n + l.length ≤ cs.size →
    ((l.zipIdx n).foldl (fun cs p => cs.setIfInBounds (off + p.2) p.1) cs).toList = cs.toList.take (off + n) ++ l ++ cs.toList.drop (off + n + l.length)
  | [], n, off, cs, _ => by simp
  | v :: l, n, off, cs, h => by
    simp only [List.zipIdx_cons, List.foldl_cons]
    rw [foldl_set l (n + 1) off _ (by simp at h ⊢; omega)]
    have e := list_seg_step cs.toList (off + n) v l (by simp at h ⊢; omega)
    simpa [Array.toList_setIfInBounds, Nat.add_assoc] using e

section
variable {P : Program} {S : Nat → Prop} {w0 w w' : World} {c0 : C0} {X : List Nat} {G G' : Gh} {st : St} {a : Act} {E : Nat × Nat → Prop}
variable {c : Ctx} {g : Nat → AV}

theorem elemOf_sound {ek : EK} {r : RV} {x : Arr} {v : Value} (e : elemOf ek r = some x) (h : ∀ t, RelRV P G w t r v) : Spells G w x v.cells.toList ∧ x.len = 1 ∧ x.kind = ek := by
  unfold elemOf at e
  split at e
  · split at e
    · rename_i n hk
      cases e
      have : v = .int .i64 n := h 0
      subst this
      exact ⟨rfl, rfl, hk.symm⟩
    · cases e
  · split at e
    · rename_i p q hk
      cases e
      obtain ⟨cs, rfl, hs, hc⟩ := h 0
      obtain ⟨u0, h0, e0⟩ := hc 0 _ rfl
      obtain ⟨u1, h1, e1⟩ := hc 1 _ rfl
      cases e0; cases e1
      have : cs = #[.int .i64 p, .int .i64 q] := by
        apply Array.ext_getElem?
        intro i
        match i with
        | 0 => simpa using h0
        | 1 => simpa using h1
        | i + 2 => simp at hs; simp [hs]
      subst this
      exact ⟨rfl, rfl, hk.symm⟩
    · cases e
  · split at e
    · rename_i p q r s hk
      cases e
      obtain ⟨cs, rfl, hs, hc⟩ := h 0
      obtain ⟨u0, h0, e0⟩ := hc 0 _ rfl
      obtain ⟨u1, h1, e1⟩ := hc 1 _ rfl
      obtain ⟨u2, h2, e2⟩ := hc 2 _ rfl
      obtain ⟨u3, h3, e3⟩ := hc 3 _ rfl
      cases e0; cases e1; cases e2; cases e3
      have : cs = #[.int .i64 p, .int .i64 q, .int .i64 r, .int .i64 s] := by
        apply Array.ext_getElem?
        intro i
        match i with
        | 0 => simpa using h0
        | 1 => simpa using h1
        | 2 => simpa using h2
        | 3 => simpa using h3
        | i + 4 => simp at hs; simp [hs]
      subst this
      exact ⟨rfl, rfl, hk.symm⟩
    · cases e
  · split at e
    · rename_i o l hk
      cases e
      obtain ⟨A, cap, rfl, hc, ⟨vs, hs, hr⟩, _⟩ := h 0
      cases hs
      refine ⟨⟨rfl, fun i m hi => ?_⟩, rfl, hk.symm⟩
      cases i with
      | zero => simp at hi; subst hi; exact ⟨A, cap, rfl, hc, hr⟩
      | succ i => simp at hi
    · cases e
  · split at e
    · rename_i hk
      cases e
      have : v = .slice none 0 0 := h 0
      subst this
      refine ⟨⟨rfl, fun i m hi => ?_⟩, rfl, hk.symm⟩
      cases i with
      | zero => simp at hi; subst hi; exact ⟨none, 0, rfl, Nat.le_refl _, fun j v hj => by simp at hj⟩
      | succ i => simp at hi
    · cases e
  · cases e

theorem mkArr_sound (hg : Sees st g) (h : Rel P S w0 c0 X G st a w) {ek : EK} : ∀ (ps : List (Nat × Operand)) (i : Nat) (x : Arr) (cs : Array Value), mkArr g ek i ps = some x → (i + ps.length) * ek.size ≤ cs.size →
    ∃ cs' flat, Instr.fill (fun i => some (i * ek.size, ek.size)) cs (ps.map fun p => (p.1, a.eval p.2)) = some cs' ∧ Spells G w x flat ∧ x.len = ps.length ∧ x.kind = ek ∧
      cs'.toList = cs.toList.take (i * ek.size) ++ flat ++ cs.toList.drop ((i + ps.length) * ek.size) := by
  intro ps
  induction ps with
  | nil =>
    intro i x cs e _
    simp [mkArr] at e; subst e
    refine ⟨cs, [], rfl, ?_, ?_, ?_, by simp⟩ <;> cases ek <;> simp [EK.empty, Spells, Arr.len, Arr.kind]
  | cons p ps ih =>
    intro i x cs e hsz
    obtain ⟨j, o⟩ := p
    simp only [mkArr] at e
    split at e
    · rename_i hj
      subst hj
      split at e
      · rename_i r y hr hy
        split at e
        · rename_i z hz
          obtain ⟨hro, hrr⟩ := opr_sound hg h hr
          obtain ⟨hs, hl1, hk⟩ := elemOf_sound hz hrr
          have hcl : (a.eval o).cells.toList.length = ek.size := by have := hs.length; rw [hl1, hk] at this; simpa using this
          have hcl' : (a.eval o).cells.size = ek.size := by simpa using hcl
          have hlen : (((j, o) :: ps).length) = ps.length + 1 := rfl
          rw [hlen] at hsz
          have e1 : (j + (ps.length + 1)) * ek.size = j * ek.size + ek.size + ps.length * ek.size := by rw [Nat.add_mul, Nat.succ_mul]; omega
          have hfit : j * ek.size + ek.size ≤ cs.size := by omega
          have hset := foldl_set (a.eval o).cells.toList 0 (j * ek.size) cs (by rw [hcl]; omega)
          rw [hcl, Nat.add_zero] at hset
          let cs1 := ((a.eval o).cells.toList.zipIdx 0).foldl (fun cs p => cs.setIfInBounds (j * ek.size + p.2) p.1) cs
          have hcs1 : cs1.toList = cs.toList.take (j * ek.size) ++ (a.eval o).cells.toList ++ cs.toList.drop (j * ek.size + ek.size) := hset
          have hcs1s : cs1.size = cs.size := by
            have := congrArg List.length hcs1
            simp at this
            omega
          have hih : (j + 1 + ps.length) * ek.size ≤ cs1.size := by
            rw [hcs1s]
            have : (j + 1 + ps.length) * ek.size = (j + (ps.length + 1)) * ek.size := by congr 1; omega
            omega
          obtain ⟨cs', flat, hf, hsp, hl2, hk2, ht⟩ := ih (j + 1) y cs1 hy hih
          obtain ⟨happ, hal, hak, _⟩ := hs.app hsp e
          refine ⟨cs', (a.eval o).cells.toList ++ flat, ?_, happ, by rw [hal, hl1, hl2]; simp; omega, by rw [hak, hk], ?_⟩
          · simp only [List.map_cons, Instr.fill, hcl']
            rw [if_neg (by simp; omega)]
            have hz : (a.eval o).cells.zipIdx.foldl (fun cs x => cs.setIfInBounds (j * ek.size + x.2) x.1) cs = cs1 := by
              rw [← Array.foldl_toList]
              simp [cs1]
            have hz' : (a.eval o).cells.zipIdx.foldl (fun cs x => match x with | (c, j_1) => cs.setIfInBounds (j * ek.size + j_1) c) cs = cs1 := hz
            first | (rw [hz']; exact hf) | (rw [hz]; exact hf) | (simpa [hz] using hf)
          · rw [ht, hcs1]
            have hlen1 : (cs.toList.take (j * ek.size) ++ (a.eval o).cells.toList).length = (j + 1) * ek.size := by
              rw [List.length_append, List.length_take, hcl, Nat.succ_mul]
              have : cs.toList.length = cs.size := by simp
              omega
            rw [← hlen1, List.append_assoc, ← List.append_assoc, List.take_left]
            rw [show j + 1 + ps.length = j + (ps.length + 1) by omega]
            have hd : (cs.toList.take (j * ek.size) ++ ((a.eval o).cells.toList ++ cs.toList.drop (j * ek.size + ek.size))).drop ((j + (ps.length + 1)) * ek.size) = cs.toList.drop ((j + (ps.length + 1)) * ek.size) := by
              rw [← List.append_assoc, List.drop_append, List.drop_eq_nil_of_le (by rw [hlen1, e1, Nat.succ_mul]; omega), List.nil_append, hlen1, List.drop_drop]
              congr 1
              rw [e1, Nat.succ_mul]; omega
            rw [← List.append_assoc] at hd
            simp only [List.append_assoc] at hd ⊢
            rw [hd]
            simp
        · cases e
      · cases e
    · cases e

theorem buildSlice_sound (hg : Sees st g) (h : Rel P S w0 c0 X G st a w) (hT : ∀ t, TyOk P t (c.T t)) {t e : TypeId} {ek : EK} {len d : Nat} {ps : Array (Nat × Operand)} {x : Arr} (hd : d ∉ X)
    (hts : c.T t = .sl e ek) (hm : mkArr g ek 0 ps.toList = some x) (hl : x.len = len) (h4 : len ≤ 4096) :
    ∃ v w' G', (Instr.buildSlice t len (ps.map fun (i, x) => (i, a.eval x))).run P w = .ok v w' ∧ Rel P S w0 c0 X G' (puts st [(d, .rv (.sc (.sl (some e) x)))]) (a.put (some d) v) w' := by
  have ht := hT t
  rw [hts] at ht
  obtain ⟨hu, _, i, z, hi, hsz, hby, hz, hzs, hzi⟩ := ht
  let cs0 : Array Value := (Array.range (len * ek.size)).map ((if len * ek.size = 0 then #[] else z.cells)[· % (if len * ek.size = 0 then (#[] : Array Value) else z.cells).size]!)
  have hcs0 : cs0.size = len * ek.size := by simp [cs0]
  have hpl : ps.size = len := by
    obtain ⟨_, _, _, _, hl2, _⟩ := mkArr_sound hg h ps.toList 0 x (Array.replicate ((0 + ps.toList.length) * ek.size) undef) hm (by simp)
    have : x.len = ps.size := by simpa using hl2
    omega
  obtain ⟨cs', flat, hf, hsp, hl2, hk2, hto⟩ := mkArr_sound hg h ps.toList 0 x cs0 hm (by rw [hcs0]; simp [hpl])
  have hflat : flat.length = len * ek.size := by have := hsp.length; rw [hl, hk2] at this; exact this
  have hcs' : cs' = flat.toArray := by
    apply Array.ext'
    rw [hto]
    simp only [Nat.zero_mul, List.take_zero, List.nil_append, Nat.zero_add, Array.length_toList, hpl]
    rw [List.drop_eq_nil_of_le (by simp [hcs0]), List.append_nil]
  subst hcs'
  have hmul : len * ek.size ≤ 16777216 := by
    have : ek.size ≤ 4 := by cases ek <;> simp [EK.size]
    calc len * ek.size ≤ 4096 * 4 := Nat.mul_le_mul h4 this
      _ ≤ 16777216 := by decide
  have hmap : (ps.map fun (i, x) => (i, a.eval x)).toList = ps.toList.map fun p => (p.1, a.eval p.2) := by simp
  have hrun : (Instr.buildSlice t len (ps.map fun (i, x) => (i, a.eval x))).run P w = .ok (.slice (some ⟨w.heap.size, 0, none⟩) len len) (w.alloc (.cells flat.toArray e)) := by
    by_cases h0 : len * ek.size = 0
    · have hf0 : Instr.fill (fun i => some (i * ek.size, ek.size)) ((Array.range (len * ek.size)).map ((#[] : Array Value)[· % (#[] : Array Value).size]!)) (ps.toList.map fun p => (p.1, a.eval p.2)) = some flat.toArray := by
        have := hf; simp only [cs0, h0, if_true] at this; rw [h0]; exact this
      simp only [Instr.buildSlice, Sem.run_bind, run_underlying hu, Result.andThen_ok, sizeOf, typeInfo, run_program, hi, Sem.run_pure, hsz, hmap]
      rw [if_neg (by omega), Sem.run_ite]
      simp only [h0, if_true, Sem.run_pure, Result.andThen_ok]
      rw [h0] at hf0
      simp only [hf0, newRow, Sem.run_bind, Sem.run_pure, Result.andThen_ok]
      rfl
    · have hf0 : Instr.fill (fun i => some (i * ek.size, ek.size)) ((Array.range (len * ek.size)).map (z.cells[· % z.cells.size]!)) (ps.toList.map fun p => (p.1, a.eval p.2)) = some flat.toArray := by
        have := hf; simp only [cs0, h0, if_false] at this; exact this
      simp only [Instr.buildSlice, Sem.run_bind, run_underlying hu, Result.andThen_ok, sizeOf, typeInfo, run_program, hi, Sem.run_pure, hsz, hmap]
      rw [if_neg (by omega), Sem.run_ite]
      simp only [h0, if_false, Sem.run_bind, zeroValue, typeInfo, run_program, hi, hz, Sem.run_pure, Result.andThen_ok, hf0, newRow]
      rfl
  refine ⟨_, _, G.born w.heap.size (some (d, 0)) (len * ek.size), hrun, ?_⟩
  have hadv := Adv.born G w (.cells flat.toArray e) (some (d, 0)) (len * ek.size)
  refine h.upd hadv (Fr.alloc (fun _ => False) w _) (fun _ _ e => e.elim) (old_born h _ _) (fun d' e => by cases e; exact ⟨hd, by simp⟩) (fun _ _ e => e.elim)
    (fun p hp hlt => ?_) (fun p hp q hq => ?_)
  · simp only [List.mem_singleton] at hp
    subst hp
    rw [put_getD, if_pos ⟨rfl, hlt⟩]
    have hsp' := hsp.adv hadv
    refine ⟨some ⟨w.heap.size, 0, none⟩, len, by rw [hl], by omega, ⟨flat, hsp', fun j u hj => ⟨_, rfl, ?_⟩⟩, fun e' he' => ?_⟩
    · rw [adds]
      have hlt' : j < flat.length := (List.getElem?_eq_some_iff.1 hj).1
      refine ⟨?_, ?_⟩
      · rw [cell_row (heap_alloc_at w _)]; simpa using hj
      · simp only [Gh.born, if_true]; omega
    · cases he'
      refine ⟨flat, hsp', ⟨by rw [hflat, hl, hk2], .inr ⟨w.heap.size, len, flat.toArray, by rw [hl], Nat.zero_le _, heap_alloc_at w _, by omega, by simp only [maxLen]; omega, by simp [hflat, hk2], ?_⟩⟩, fun b hb => ?_⟩
      · rw [hl, hk2, ← hflat]; simp
      · simp only [Value.ownBlock, Option.some.injEq] at hb
        subst hb
        exact ⟨by simp [Gh.born], by simp [Gh.born, hl, hk2]⟩
  · simp only [List.mem_singleton] at hp
    subst hp
    cases hq
end
end Go.Proofs.Ytbgfgadekmemeaa.Ev
