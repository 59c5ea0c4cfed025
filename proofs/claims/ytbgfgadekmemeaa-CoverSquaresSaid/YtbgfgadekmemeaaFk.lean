/- The evaluator is sound, the single operation, ninth part: addresses, cuts, makes and appends, closures. Conditions: a table of types that is so, contracts that are met. -/
import Derived.Test.YtbgfgadekmemeaaFj
namespace Go.Proofs.Ytbgfgadekmemeaa.Ev
open Go.RowKit
set_option linter.unusedVariables false
set_option linter.unusedSimpArgs false
set_option linter.unusedSectionVars false

section
variable {P : Program} {S : Nat → Prop} {w0 w w' : World} {c0 : C0} {X : List Nat} {G G' : Gh} {st : St} {a : Act} {E : Nat × Nat → Prop}
variable {c : Ctx} {g : Nat → AV}

theorem field_run {t : TypeId} {zs : List Sc} (ht : TyOk P t (.st zs)) {f : Nat} (hf : f < zs.length) (ad : Addr) (w : World) :
    (Instr.fieldAt t (.pointer (some ad)) f).run P w = .ok (.pointer (some (ad.add f))) w := by
  obtain ⟨fs, i, zc, hu, hi, hz, hsz, hfs, hst, hg, hzc, hff⟩ := ht
  have hlt : f < fs.size := by omega
  obtain ⟨ho, _, ⟨fi, h1, h2⟩, _⟩ := hff f fs[f] (by simp [hlt])
  have hs : (sizeOf fs[f].type).run P w = .ok 1 w := by simp [sizeOf, typeInfo, h1, h2]
  simp only [Instr.fieldAt, Sem.run_bind, run_underlying hu, Result.andThen_ok, Array.getElem?_eq_getElem hlt, Instr.sureAddr, Sem.run_pure, fieldPlace, hs, ho]
  simp

theorem fieldAddr_sound (hg : Sees st g) (h : Rel P S w0 c0 c.X G st a w) (hT : ∀ t, TyOk P t (c.T t)) {t : TypeId} {d f : Nat} {x : Operand} {ws : List (Nat × AV)} (hd : d ∉ c.X)
    (e : (match c.T t, x with
    | .st zs, .tmp s => if f < zs.length then match g s with
      | .box ty l => if ty = t then if l.length = zs.length then bif c.X.contains s then some [(d, AV.ref s f)] else none else none else none
      | .cbox ty l => if ty = t then if l.length = zs.length then some [(d, .eref (l.drop f))] else none else none
      | .eref l => if zs.length ≤ l.length then some [(d, .eref (l.drop f))] else none
      | _ => none
      else none
    | _, _ => none) = some ws) :
    ∃ v, (Instr.fieldAt t (a.eval x) f).run P w = .ok v w ∧ Rel P S w0 c0 c.X G (puts st ws) (a.put (some d) v) w := by
  have ht := hT t
  split at e
  · rename_i zs s hts
    rw [hts] at ht
    split at e
    · rename_i hf
      have hs := hg.rel h s
      split at e
      · rename_i ty l hgs
        rw [hgs] at hs
        split at e
        · split at e
          · cases hX : c.X.contains s with
            | false => rw [hX] at e; cases e
            | true =>
              rw [hX] at e
              cases e
              obtain ⟨b, cs, hv, _⟩ := hs
              have hev : a.eval (.tmp s) = .pointer (some ⟨b, 0, none⟩) := hv
              have hsX : s ∈ c.X := by simpa using hX
              have hsd : s ≠ d := fun e => hd (e ▸ hsX)
              rw [hev]
              refine ⟨_, field_run ht hf _ w, h.pure hd (fun q hq => ?_) ⟨b, ?_, by rw [adds]⟩⟩
              · cases hq; exact ⟨hsX, fun e => nomatch e⟩
              · rw [put_getD, if_neg (fun e => hsd e.1)]; exact hv
          · cases e
        · cases e
      · rename_i ty l hgs
        rw [hgs] at hs
        split at e
        · split at e
          · cases e
            obtain ⟨b, hv, hl⟩ := hs
            have hev : a.eval (.tmp s) = .pointer (some ⟨b, 0, none⟩) := hv
            rw [hev]
            refine ⟨_, field_run ht hf _ w, h.pure hd (by rintro q e; cases e) ⟨_, rfl, fun i s' hi => ?_⟩⟩
            rw [List.getElem?_drop] at hi
            obtain ⟨hro, u, hu, hr⟩ := hl _ s' hi
            refine ⟨hro, u, by rw [add_add, adds]; exact hu, ?_⟩
            have := RelSc.ro (loc' := (d, i + 1)) hr
            rwa [hro] at this
          · cases e
        · cases e
      · rename_i l hgs
        rw [hgs] at hs
        split at e
        · cases e
          obtain ⟨ad, hv, hl⟩ := hs
          have hev : a.eval (.tmp s) = .pointer (some ad) := hv
          rw [hev]
          refine ⟨_, field_run ht hf _ w, h.pure hd (by rintro q e; cases e) ⟨_, rfl, fun i s' hi => ?_⟩⟩
          rw [List.getElem?_drop] at hi
          obtain ⟨hro, u, hu, hr⟩ := hl _ s' hi
          refine ⟨hro, u, by rw [add_add]; exact hu, ?_⟩
          have := RelSc.ro (loc' := (d, i + 1)) hr
          rwa [hro] at this
        · cases e
      · cases e
    · cases e
  · cases e

theorem indexT_sound (hg : Sees st g) (h : Rel P S w0 c0 c.X G st a w) (hT : ∀ t, TyOk P t (c.T t)) {t e' : TypeId} {d : Nat} {x y : Operand} {k : IntKind} {i : Int} {ws : List (Nat × AV)} (hd : d ∉ c.X)
    (hts : c.T t = .sl e' .int) (hy : opInt g y = some (k, i)) (e : indexT g d x i some = some ws) :
    ∃ v, (Instr.indexAt t (a.eval x) (a.eval y)).run P w = .ok v w ∧ Rel P S w0 c0 c.X G (puts st ws) (a.put (some d) v) w := by
  have ht := hT t
  rw [hts] at ht
  obtain ⟨hu, _, inf, z, hi, hsz, _⟩ := ht
  have hyv := opInt_sound hg h hy
  have hel : P.elem t = e' := by simp [Program.elem, hu]
  rw [hyv]
  unfold indexT at e
  split at e
  case h_2 => cases e
  rename_i q
  have hq := hg.rel h q
  split at e
  case h_2 => cases e
  rename_i s al hgq
  rw [hgq] at hq
  have hgq' : getS st q = .al s al := by
    rcases hg q with e | e
    · rw [e] at hgq; cases hgq
    · rw [← e]; exact hgq
  have hsX := (h.xs q s (by rw [hgq']; rfl)).1
  have key : ∀ (m : TM) (xs : List Int) (b : Nat), a.eval (.tmp q) = .slice (some ⟨b, 0, none⟩) xs.length xs.length → TabOf G w m (a.tmps.getD s undef) b xs.length → (bif decide (0 ≤ i) && decide (i < xs.length) && (s != d) then some [(d, AV.al s (.el m i.toNat))] else none) = some ws →
      ∃ v, (Instr.indexAt t (a.eval (.tmp q)) (.int k i)).run P w = .ok v w ∧ Rel P S w0 c0 c.X G (puts st ws) (a.put (some d) v) w := by
    intro m xs b hv htab e
    cases hb : decide (0 ≤ i) && decide (i < xs.length) && (s != d) with
    | false => rw [hb] at e; cases e
    | true =>
      rw [hb] at e
      cases e
      simp only [Bool.and_eq_true, decide_eq_true_eq, bne_iff_ne, ne_eq] at hb
      rw [hv]
      refine ⟨.pointer (some ⟨b, i.toNat, none⟩), ?_, h.pure hd (fun q hq => by cases hq; exact ⟨hsX, fun e => nomatch e⟩) ?_⟩
      · rw [run_indexAt_slice w t ⟨b, 0, none⟩ xs.length xs.length k i (by rw [hel]; exact hu), if_pos ⟨hb.1.1, hb.1.2⟩, hel]
        simp [sizeOf, typeInfo, hi, hsz, EK.size, adds]
      · show RelAl P G w ((a.put (some d) _).tmps.getD s undef) (.el m i.toNat) _
        rw [put_getD, if_neg (fun e => hb.2 e.1)]
        exact ⟨b, _, htab, rfl⟩
  have hs := hg.rel h s
  split at e
  · rename_i xs hgs
    rw [hgs] at hs
    obtain ⟨b, ty, hv, _⟩ := hs
    have hq : a.tmps.getD q undef = a.tmps.getD s undef := hq
    exact key .sl xs b (by rw [show a.eval (.tmp q) = a.tmps.getD q undef from rfl, hq, hv]) hv e
  · rename_i xs hgs
    rw [hgs] at hs
    obtain ⟨b, ht, _⟩ := hs
    obtain ⟨b0, hv, hc⟩ := ht
    obtain ⟨b1, hv1, hc1⟩ := hq
    cases hv.symm.trans hv1
    refine key .box xs b ?_ ⟨b0, hv, hc⟩ e
    have := hc.1.symm.trans hc1.1
    exact (Option.some.inj this).symm
  · cases e

theorem indexAddr_sound (hg : Sees st g) (h : Rel P S w0 c0 c.X G st a w) (hT : ∀ t, TyOk P t (c.T t)) {t e' : TypeId} {ek : EK} {d : Nat} {x y : Operand} {o : Option TypeId} {b : Arr} {k : IntKind} {i : Int} (hd : d ∉ c.X)
    (hts : c.T t = .sl e' ek) (hx : opr g .other x = some (.sc (.sl o b))) (hy : opInt g y = some (k, i)) (hk : b.kind = ek) (h0 : 0 ≤ i) (h1 : i < b.len) :
    ∃ v, (Instr.indexAt t (a.eval x) (a.eval y)).run P w = .ok v w ∧ Rel P S w0 c0 c.X G (puts st [(d, .eref (b.at i.toNat))]) (a.put (some d) v) w := by
  have ht := hT t
  rw [hts] at ht
  obtain ⟨hu, _, inf, z, hi, hsz, _⟩ := ht
  obtain ⟨hro, hr⟩ := opr_sound hg h hx
  obtain ⟨A, cap, hv, hc, hh, _⟩ := hr 0
  have hyv := opInt_sound hg h hy
  have hlt : i.toNat < b.len := by omega
  obtain ⟨ad, rfl⟩ := hh.addr hlt
  rw [hv, hyv]
  have hel : P.elem t = e' := by simp [Program.elem, hu]
  refine ⟨.pointer (some (ad.add (i.toNat * ek.size))), ?_, h.pure hd (by rintro q e; cases e) ⟨_, rfl, fun j s hj => ?_⟩⟩
  · rw [run_indexAt_slice w t ad b.len cap k i (by rw [hel]; exact hu), if_pos ⟨h0, h1⟩, hel]
    simp [sizeOf, typeInfo, hi, hsz]
  · obtain ⟨vs, hs, hrd⟩ := hh
    obtain ⟨_, hat⟩ := hs.at (P := P) hlt
    obtain ⟨hro', u, hu', hrel⟩ := hat j s hj
    refine ⟨hro', u, ?_, hrel _⟩
    obtain ⟨ad', e1, hcm⟩ := hrd _ _ hu'
    cases e1
    rw [add_add, ← hk]
    exact hcm

theorem slice_sound (hg : Sees st g) (h : Rel P S w0 c0 c.X G st a w) (hT : ∀ t, TyOk P t (c.T t)) {t e' : TypeId} {ek : EK} {d : Nat} {x : Operand} {lo hi : Option Operand} {o : Option TypeId} {b : Arr} {l m : Int} (hd : d ∉ c.X)
    (hts : c.T t = .sl e' ek) (hx : opr g .other x = some (.sc (.sl o b))) (hk : b.kind = ek)
    (hlo : (match lo with | some l => opInt g l | none => some (IntKind.i64, (0 : Int))) = some (.i64, l)) (hhi : (match hi with | some h => opInt g h | none => some (IntKind.i64, (b.len : Int))) = some (.i64, m))
    (h0 : 0 ≤ l) (h1 : l ≤ m) (h2 : m ≤ b.len) :
    ∃ v, (Instr.sliceAt t (a.eval x) (lo.map a.eval) (hi.map a.eval) none).run P w = .ok v w ∧ Rel P S w0 c0 c.X G (puts st [(d, .rv (.sc (.sl none (b.sub l.toNat m.toNat))))]) (a.put (some d) v) w := by
  have ht := hT t
  rw [hts] at ht
  obtain ⟨hu, _, inf, z, hinf, hsz, _⟩ := ht
  obtain ⟨hro, hr⟩ := opr_sound hg h hx
  obtain ⟨A, cap, hv, hc, hh, _⟩ := hr 0
  rw [hv]
  have hln : ((l.toNat : Nat) : Int) = l := by omega
  have hmn : ((m.toNat : Nat) : Int) = m := by omega
  have hmc : m.toNat ≤ cap := by omega
  have hlm : l.toNat ≤ m.toNat := by omega
  have hb : ∀ (i : Int) (y : Nat) (code : BoundsCode), 0 ≤ i → i ≤ y → (Instr.sliceBound (.int .i64 i) y code).run P w = .ok i.toNat w := by
    intro i y code hi0 hi1
    simp only [Instr.sliceBound, asIntOf, Sem.run_bind, Sem.run_pure, Result.andThen_ok]
    rw [if_pos ⟨hi0, hi1⟩]
    rfl
  have hbound : (Instr.sliceBounds true b.len cap (lo.map a.eval) (hi.map a.eval) none).run P w = .ok (l.toNat, m.toNat, cap) w := by
    cases hi with
    | none =>
      simp only [Option.some.injEq, Prod.mk.injEq, true_and] at hhi
      have hbm : b.len = m.toNat := by omega
      cases lo with
      | none =>
        simp only [Option.some.injEq, Prod.mk.injEq, true_and] at hlo
        subst hlo
        simp [Instr.sliceBounds, hbm]
      | some y =>
        have hyv := opInt_sound hg h hlo
        have h3 := hb l b.len .sliceB h0 (by omega)
        simp [Instr.sliceBounds, hyv, h3, hbm]
        rw [← hbm, h3]; rfl
    | some z =>
      have hzv := opInt_sound hg h hhi
      have h4 := hb m cap .sliceAcap (by omega) (by omega)
      cases lo with
      | none =>
        simp only [Option.some.injEq, Prod.mk.injEq, true_and] at hlo
        subst hlo
        simp [Instr.sliceBounds, hzv, h4]
      | some y =>
        have hyv := opInt_sound hg h hlo
        have h3 := hb l m.toNat .sliceB h0 (by omega)
        simp [Instr.sliceBounds, hyv, hzv, h4, h3]
  have hrun : (Instr.sliceAt t (.slice A b.len cap) (lo.map a.eval) (hi.map a.eval) none).run P w =
      .ok (.slice (if cap = l.toNat then A else A.map (·.add (l.toNat * ek.size))) (m.toNat - l.toNat) (cap - l.toNat)) w := by
    simp only [Instr.sliceAt, Sem.run_bind, run_underlying hu, Result.andThen_ok, Instr.slice, hbound]
    simp [sizeOf, typeInfo, hinf, hsz]
  obtain ⟨vs, hs, hrd⟩ := hh
  obtain ⟨hsub, hsl⟩ := hs.sub l.toNat m.toNat (by omega) hlm
  refine ⟨_, hrun, h.pure hd (by rintro q e; cases e) ⟨_, _, by rw [hsl], by omega, ⟨_, hsub, fun j v hj => ?_⟩, fun e he => by cases he⟩⟩
  have hjlt := (List.getElem?_eq_some_iff.1 hj).1
  rw [List.length_take, List.length_drop] at hjlt
  have hpos : l.toNat < m.toNat := by
    apply Classical.byContradiction
    intro hn
    have : m.toNat - l.toNat = 0 := by omega
    rw [this] at hjlt
    simp at hjlt
  rw [if_neg (by omega)]
  rw [List.getElem?_take, if_pos (by omega), List.getElem?_drop] at hj
  obtain ⟨ad, e1, hcm⟩ := hrd _ _ hj
  subst e1
  exact ⟨_, rfl, by rw [add_add, ← hk]; exact hcm⟩

theorem made_zeros (n : Nat) : madeCells #[Value.int .i64 0] n = ((List.replicate n (0 : Int)).map (Value.int .i64)).toArray := by
  apply Array.ext_getElem?
  intro i
  by_cases hi : i < n
  · simp [madeCells, hi, Nat.mod_one]
  · simp [madeCells, hi]

theorem makeSlice_sound (hg : Sees st g) (h : Rel P S w0 c0 c.X G st a w) (hT : ∀ t, TyOk P t (c.T t)) {t e' : TypeId} {d : Nat} {x y : Operand} {n : Int} (hd : d ∉ c.X)
    (hts : c.T t = .sl e' .int) (hx : opInt g x = some (.i64, n)) (hy : opInt g y = some (.i64, n)) (h0 : 0 ≤ n) (h1 : n ≤ 1048576) :
    ∃ v w' G', (Instr.makeSlice t (a.eval x) (a.eval y)).run P w = .ok v w' ∧ Rel P S w0 c0 c.X G' (puts st [(d, .ms (List.replicate n.toNat 0))]) (a.put (some d) v) w' := by
  have ht := hT t
  rw [hts] at ht
  obtain ⟨hu, _, inf, z, hinf, hsz, hby, hz, hzs, hzi⟩ := ht
  have hz0 := hzi rfl
  subst hz0
  rw [opInt_sound hg h hx, opInt_sound hg h hy]
  have hrun := run_make (P := P) w t e' inf _ hu hinf hz .i64 .i64 n n h0 (Int.le_refl _) (by rw [hby]; simp only [EK.bytes]; omega) (by omega)
  have hcells : madeCells (Value.int .i64 0).cells (n.toNat * inf.size) = ((List.replicate n.toNat (0 : Int)).map (Value.int .i64)).toArray := by
    rw [hsz]; simp only [EK.size, Nat.mul_one]; exact made_zeros _
  rw [hcells] at hrun
  refine ⟨_, _, G.born w.heap.size (some (d, 0)) 0, hrun, ?_⟩
  refine h.upd (Adv.born G w _ _ 0) (Fr.alloc (fun _ => False) w _) (fun _ _ e => e.elim) (old_born h _ _) (fun d' e => by cases e; exact ⟨hd, by simp⟩) (fun _ _ e => e.elim)
    (fun p hp hlt => ?_) (fun p hp q hq => ?_)
  · simp only [List.mem_singleton] at hp
    subst hp
    rw [put_getD, if_pos ⟨rfl, hlt⟩]
    exact ⟨w.heap.size, e', by simp, by simp [Gh.born], by simp [Gh.born], heap_alloc_at w _⟩
  · simp only [List.mem_singleton] at hp
    subst hp
    cases hq
end
end Go.Proofs.Ytbgfgadekmemeaa.Ev
