/- The evaluator is sound, the single operation, seventh part: loads, stores, addresses, cuts, makes and appends. Conditions: a table of types that is so. -/
import Derived.Test.YtbgfgadekmemeaaFh
namespace Go.Proofs.Ytbgfgadekmemeaa.Ev
open Go.RowKit
set_option linter.unusedVariables false
set_option linter.unusedSimpArgs false
set_option linter.unusedSectionVars false

/-- The place l1 hands what it owns to the place l2. -/
def Gh.pass (G : Gh) (l1 l2 : Nat × Nat) : Gh := ⟨fun b => (G.own b).map fun l => if l = l1 then l2 else l, G.com⟩

theorem Adv.pass (G : Gh) (w : World) (l1 l2 : Nat × Nat) : Adv G w (G.pass l1 l2) w (fun l => l = l1) :=
  ⟨Nat.le_refl _, fun b o _ ho => ⟨rfl, ho⟩, fun b loc _ ho hE => ⟨by simp only [Gh.pass, ho, Option.map_some, if_neg hE], rfl, rfl⟩⟩

theorem Adv.trans {G1 G2 G3 : Gh} {w1 w2 w3 : World} {E F : Nat × Nat → Prop} (h : Adv G1 w1 G2 w2 E) (k : Adv G2 w2 G3 w3 F) : Adv G1 w1 G3 w3 (fun l => E l ∨ F l) := by
  refine ⟨Nat.le_trans h.size k.size, fun b o hb ho => ?_, fun b loc hb ho hE => ?_⟩
  · have h1 := h.cell b o hb ho
    have h2 := k.cell b o (Nat.lt_of_lt_of_le hb h.size) h1.2
    exact ⟨h2.1.trans h1.1, h2.2⟩
  · have h1 := h.own b loc hb ho (fun e => hE (.inl e))
    have h2 := k.own b loc (Nat.lt_of_lt_of_le hb h.size) h1.1 (fun e => hE (.inr e))
    exact ⟨h2.1, h2.2.1.trans h1.2.1, h2.2.2.trans h1.2.2⟩

theorem Adv.setRow {G : Gh} {w : World} {b : Nat} {loc : Nat × Nat} (ho : G.own b = some loc) (hc : G.com b = 0) (cs : Array Value) : Adv G w G (w.setRow b cs) (fun l => l = loc) := by
  refine ⟨by simp, fun b' o _ hlt => ⟨?_, hlt⟩, fun b' l _ hl hE => ⟨hl, rfl, ?_⟩⟩
  · by_cases h : b' = b
    · subst h; omega
    · exact cell_setRow_other w b cs ⟨b', o, none⟩ h
  · by_cases h : b' = b
    · subst h; rw [ho] at hl; cases hl; exact absurd rfl hE
    · exact setRow_other w b b' cs h

theorem Fr.setRow (w : World) (b : Nat) (cs : Array Value) : Fr (fun k => k = b) w (w.setRow b cs) :=
  ⟨rfl, rfl, rfl, by simp, fun k _ hk => setRow_other w b k cs hk⟩

section
variable {P : Program} {S : Nat → Prop} {w0 w w' : World} {c0 : C0} {X : List Nat} {G G' : Gh} {st : St} {a : Act} {E : Nat × Nat → Prop}
variable {c : Ctx} {g : Nat → AV}

theorem RelSc.pass {l1 l2 : Nat × Nat} {x : Sc} {v : Value} (h : RelSc P G w l1 x v) : RelSc P (G.pass l1 l2) w l2 x v := by
  cases x with
  | sl o y =>
    obtain ⟨A, cap, e, hc, hh, ho⟩ := h
    refine ⟨A, cap, e, hc, hh.adv (Adv.pass G w l1 l2), fun e' he => ?_⟩
    obtain ⟨vs, hs, hw, hb⟩ := ho e' he
    exact ⟨vs, hs.adv (Adv.pass G w l1 l2), hw, fun b hv => ⟨by simp only [Gh.pass, (hb b hv).1, Option.map_some, if_pos], (hb b hv).2⟩⟩
  | fn F => exact RelSc.adv (loc := l2) h (Adv.pass G w l1 l2) (.inl rfl)
  | _ => exact h

theorem old_pass (h : Rel P S w0 c0 X G st a w) (l1 l2 : Nat × Nat) : ∀ b, b < w0.heap.size → ¬ S b → (G.pass l1 l2).com b = G.com b ∧ (G.pass l1 l2).own b = G.own b := by
  intro b hb hs
  have := (h.old b hb hs).2
  exact ⟨rfl, by simp [Gh.pass, this]⟩

/-- Where an address of a box points. -/
theorem place_sound (hg : Sees st g) (h : Rel P S w0 c0 X G st a w) {x : Operand} {s off : Nat} {ty : TypeId} {l : List Sc} (e : place g x = some (s, off, ty, l)) :
    g s = .box ty l ∧ ∃ b cs, a.eval x = .pointer (some ⟨b, off, none⟩) ∧ a.tmps.getD s undef = .pointer (some ⟨b, 0, none⟩) ∧ G.own b = some (s, 0) ∧ G.com b = 0 ∧ w.heap[b]? = some (.cells cs ty (0, 0)) ∧ RelCells P G w s l cs := by
  unfold place at e
  split at e
  · rename_i t
    split at e
    · rename_i ty' l' hgt
      cases e
      have := hg.rel h s
      rw [hgt] at this
      obtain ⟨b, cs, hv, ho, hc, hb, hr⟩ := this
      exact ⟨hgt, b, cs, hv, hv, ho, hc, hb, hr⟩
    · rename_i s' off' hgt
      split at e
      · rename_i ty' l' hgs
        cases e
        have h1 := hg.rel h t
        rw [hgt] at h1
        have h2 := hg.rel h s
        rw [hgs] at h2
        obtain ⟨b, hv, hv2⟩ := h1
        obtain ⟨b', cs, hv', ho, hc, hb, hr⟩ := h2
        rw [hv] at hv'
        cases hv'
        exact ⟨hgs, b, cs, hv2, hv, ho, hc, hb, hr⟩
      · cases e
    · cases e
  · cases e

theorem placeRo_sound (hg : Sees st g) (h : Rel P S w0 c0 X G st a w) {x : Operand} {l : List Sc} (e : placeRo g x = some l) :
    ∃ ad, a.eval x = .pointer (some ad) ∧ ∀ (i : Nat) (s : Sc), l[i]? = some s → s.ro = s ∧ ∃ u, Cm G w (ad.add i) u ∧ ∀ loc, RelSc P G w loc s u := by
  unfold placeRo at e
  split at e
  · rename_i t
    have hr := hg.rel h t
    split at e
    · rename_i ty l' hgt
      cases e
      rw [hgt] at hr
      obtain ⟨b, hv, hl⟩ := hr
      refine ⟨⟨b, 0, none⟩, hv, fun i s hi => ?_⟩
      obtain ⟨hro, u, hu, hs⟩ := hl i s hi
      exact ⟨hro, u, by rw [adds]; exact hu, fun loc => by have := RelSc.ro (loc' := loc) hs; rwa [hro] at this⟩
    · rename_i l' hgt
      cases e
      rw [hgt] at hr
      obtain ⟨ad, hv, hl⟩ := hr
      refine ⟨ad, hv, fun i s hi => ?_⟩
      obtain ⟨hro, u, hu, hs⟩ := hl i s hi
      exact ⟨hro, u, hu, fun loc => by have := RelSc.ro (loc' := loc) hs; rwa [hro] at this⟩
    · cases e
  · cases e

theorem isAgg_st {t : TypeId} {zs : List Sc} (ht : TyOk P t (.st zs)) (w : World) : (isAgg t).run P w = .ok true w ∧ (sizeOf t).run P w = .ok zs.length w := by
  obtain ⟨fs, i, zc, hu, hi, hz, hsz, _⟩ := ht
  exact ⟨by simp [isAgg, run_underlying hu], by simp [sizeOf, typeInfo, hi, hsz]⟩

theorem isAgg_one {t : TypeId} {k : TK} (ht : TyOk P t k) (h1 : ∀ zs, k ≠ .st zs) (h2 : k ≠ .other) (w : World) : (isAgg t).run P w = .ok false w ∧ (sizeOf t).run P w = .ok 1 w := by
  cases k with
  | int k => obtain ⟨hu, i, hi, _, hs⟩ := ht; exact ⟨by simp [isAgg, run_underlying hu], by simp [sizeOf, typeInfo, hi, hs]⟩
  | bool => obtain ⟨hu, i, hi, _, hs⟩ := ht; exact ⟨by simp [isAgg, run_underlying hu], by simp [sizeOf, typeInfo, hi, hs]⟩
  | st zs => exact absurd rfl (h1 zs)
  | sl e ek => obtain ⟨hu, ⟨i, hi, _, hs⟩, _⟩ := ht; exact ⟨by simp [isAgg, run_underlying hu], by simp [sizeOf, typeInfo, hi, hs]⟩
  | fn => obtain ⟨x, y, z, hu, i, hi, hs⟩ := ht; exact ⟨by simp [isAgg, run_underlying hu], by simp [sizeOf, typeInfo, hi, hs]⟩
  | other => exact absurd rfl h2

theorem load_agg {t : TypeId} {zs : List Sc} (ht : TyOk P t (.st zs)) {ad : Addr} {vs : List Value} (hl : vs.length = zs.length) (h : ∀ (j : Nat) (v : Value), vs[j]? = some v → w.cell? (ad.add j) = some v) :
    (Instr.loadAt t (.pointer (some ad))).run P w = .ok (.agg vs.toArray) w := by
  have := run_loadCells_list (P := P) w ad vs h
  rw [hl] at this
  simp only [Instr.loadAt, Instr.sureAddr, Sem.run_bind, Sem.run_pure, Result.andThen_ok, loadVar, (isAgg_st ht w).1, (isAgg_st ht w).2, if_true, this]

theorem load_one {t : TypeId} {k : TK} (ht : TyOk P t k) (h1 : ∀ zs, k ≠ .st zs) (h2 : k ≠ .other) {ad : Addr} {v : Value} (h : w.cell? ad = some v) :
    (Instr.loadAt t (.pointer (some ad))).run P w = .ok v w := by
  simp only [Instr.loadAt, Instr.sureAddr, Sem.run_bind, Sem.run_pure, Result.andThen_ok, loadVar, (isAgg_one ht h1 h2 w).1, Bool.false_eq_true, if_false, run_load, h]

theorem add_zero (ad : Addr) : ad.add 0 = ad := by simp [Addr.add]

theorem readAs_sound {t : TypeId} {k : TK} (ht : TyOk P t k) {l : List Sc} {r : RV} (e : readAs k l = some r) {ad : Addr} (hl : ∀ (i : Nat) (s : Sc), l[i]? = some s → s.ro = s ∧ ∃ u, Cm G w (ad.add i) u ∧ ∀ loc, RelSc P G w loc s u) :
    ∃ v, (Instr.loadAt t (.pointer (some ad))).run P w = .ok v w ∧ r.ro = r ∧ ∀ i, RelRV P G w i r v := by
  unfold readAs at e
  split at e
  · rename_i zs
    split at e
    · rename_i hle
      cases e
      have hex : ∃ vs : List Value, vs.length = zs.length ∧ ∀ (j : Nat), j < zs.length → ∃ s u, l[j]? = some s ∧ vs[j]? = some u ∧ s.ro = s ∧ w.cell? (ad.add j) = some u ∧ ∀ loc, RelSc P G w loc s u := by
        refine ⟨(List.range zs.length).map fun j => (w.cell? (ad.add j)).getD undef, by simp, fun j hj => ?_⟩
        have hj' : j < l.length := by omega
        obtain ⟨hro, u, hu, hs⟩ := hl j l[j] (List.getElem?_eq_getElem hj')
        exact ⟨l[j], u, List.getElem?_eq_getElem hj', by simp [hj, hu.1], hro, hu.1, hs⟩
      obtain ⟨vs, hvl, hvs⟩ := hex
      refine ⟨.agg vs.toArray, load_agg ht hvl fun j v hj => ?_, RV.ro_ro (.agg (l.take zs.length)), fun i => ⟨_, rfl, by simp [hvl, hle], fun j s hj => ?_⟩⟩
      · have hlt : j < zs.length := by rw [← hvl]; exact (List.getElem?_eq_some_iff.1 hj).1
        obtain ⟨s, u, _, hu, _, hc, _⟩ := hvs j hlt
        rw [hj] at hu; cases hu; exact hc
      · rw [List.getElem?_map, List.getElem?_take] at hj
        by_cases hlt : j < zs.length
        · rw [if_pos hlt] at hj
          obtain ⟨s', u, hs', hu, hro, hc, hr⟩ := hvs j hlt
          rw [hs'] at hj
          simp at hj
          subst hj
          exact ⟨u, by simpa using hu, by rw [hro]; exact hr _⟩
        · rw [if_neg hlt] at hj; cases hj
    · cases e
  · cases e
  · rename_i h1 h2
    split at e
    · rename_i s r'
      cases e
      obtain ⟨hro, u, hu, hs⟩ := hl 0 s rfl
      rw [add_zero] at hu
      refine ⟨u, load_one ht (fun zs e => h1 zs e) (fun e => h2 e) hu.1, RV.ro_ro (.sc s), fun i => ?_⟩
      show RelSc P G w (i, 0) s.ro u
      rw [hro]
      exact hs _
    · cases e

theorem loadT_sound (hg : Sees st g) (h : Rel P S w0 c0 c.X G st a w) (hT : ∀ t, TyOk P t (c.T t)) {t : TypeId} {d : Nat} {x : Operand} {ws : List (Nat × AV)} (hd : d ∉ c.X) (e : loadT c g t d x some = some ws) :
    ∃ v G', (Instr.loadAt t (a.eval x)).run P w = .ok v w ∧ Rel P S w0 c0 c.X G' (puts st ws) (a.put (some d) v) w := by
  have ht := hT t
  unfold loadT at e
  split at e
  case h_2 => cases e
  rename_i p
  have hp := hg.rel h p
  split at e
  · rename_i e1 ys hts hgp
    rw [hgp] at hp
    rw [hts] at ht
    obtain ⟨b, ⟨b0, hv, hc⟩, _⟩ := hp
    cases hb : c.X.contains p && p != d with
    | false => rw [hb] at e; cases e
    | true =>
      rw [hb] at e
      cases e
      simp only [Bool.and_eq_true, bne_iff_ne, ne_eq] at hb
      have hev : a.eval (.tmp p) = .pointer (some ⟨b0, 0, none⟩) := hv
      rw [hev]
      refine ⟨_, G, load_one ht (fun zs e => nomatch e) (fun e => nomatch e) hc.1, h.pure hd (fun q hq => by cases hq; exact ⟨by simpa using hb.1, fun e => nomatch e⟩) ?_⟩
      show RelAl P G w ((a.put (some d) _).tmps.getD p undef) .cont _
      rw [put_getD, if_neg (fun e => hb.2 e.1)]
      exact ⟨b0, hv, hc⟩
  · rename_i e1 s hts hgp
    rw [hts] at ht
    have hgp' : getS st p = .al s .cell := by
      rcases hg p with e | e
      · rw [e] at hgp; cases hgp
      · rw [← e]; exact hgp
    rw [hgp] at hp
    obtain ⟨b0, hv, hc⟩ := hp
    cases hb : s != d with
    | false => rw [hb] at e; cases e
    | true =>
      rw [hb] at e
      cases e
      have hsd : s ≠ d := by simpa using hb
      have hev : a.eval (.tmp p) = .pointer (some ⟨b0, 0, none⟩) := hv
      rw [hev]
      refine ⟨_, G, load_one ht (fun zs e => nomatch e) (fun e => nomatch e) hc.1, h.pure hd (fun q hq => by cases hq; exact ⟨(h.xs p s (by rw [hgp']; rfl)).1, fun e => nomatch e⟩) ?_⟩
      show _ = (a.put (some d) _).tmps.getD s undef
      rw [put_getD, if_neg (fun e => hsd e.1)]
  · rename_i s m i hts hgp
    rw [hts] at ht
    rw [hgp] at hp
    split at e
    case h_2 => cases e
    rename_i m' xs hgs
    split at e
    case isFalse => cases e
    rename_i hm
    cases hb : decide (i < xs.length) with
    | false => rw [hb] at e; cases e
    | true =>
    rw [hb] at e
    cases e
    have hi : i < xs.length := by simpa using hb
    obtain ⟨n, hn⟩ : ∃ n, xs[i]? = some n := ⟨_, List.getElem?_eq_getElem hi⟩
    have hgd : xs.getD i 0 = n := by rw [List.getD_eq_getElem?_getD, hn]; rfl
    rw [hgd]
    subst hm
    obtain ⟨b, k, htab, hv⟩ := hp
    obtain ⟨q1, q2, q3, _⟩ := tmOf_spec (G := G) (w := w) hgs
    obtain ⟨b', hv', _, _, ⟨ty, _, hrow⟩, _⟩ := (relA_tab q1).1 (hg.rel h s)
    have htab' := q3 _ _ hv'
    obtain ⟨rfl, _⟩ := TabOf.det htab htab'
    have hev : a.eval (.tmp p) = .pointer (some ⟨b, i, none⟩) := hv
    rw [hev]
    exact ⟨.int .i64 n, G, load_one ht (fun zs e => nomatch e) (fun e => nomatch e) (by rw [cell_row hrow]; simp [hn]), h.pure hd (fun q hq => nomatch hq) rfl⟩
  · cases e

theorem load_sound (hg : Sees st g) (h : Rel P S w0 c0 c.X G st a w) (hT : ∀ t, TyOk P t (c.T t)) {t : TypeId} {d : Nat} {x : Operand} {ws : List (Nat × AV)} (hd : d ∉ c.X)
    (e : (match place g x with
    | some (s, off, ty, l) => match c.T t with
      | .st zs => if off = 0 then if l.length = zs.length then some [(d, AV.rv (.agg (l.map Sc.ro)))] else none else none
      | .other => none
      | _ => match l[off]? with
        | some v => bif c.tk.contains d && v.isOwn && (s != d) then some [(s, .box ty (l.set off v.ro)), (d, .rv (.sc v))] else some [(d, .rv (.sc v.ro))]
        | none => none
    | none => match placeRo g x with
      | some l => match readAs (c.T t) l with
        | some r => some [(d, .rv r)]
        | none => none
      | none => loadT c g t d x some) = some ws) :
    ∃ v G', (Instr.loadAt t (a.eval x)).run P w = .ok v w ∧ Rel P S w0 c0 c.X G' (puts st ws) (a.put (some d) v) w := by
  have ht := hT t
  split at e
  · rename_i s off ty l hp
    obtain ⟨hgs, b, cs, hv, hvs, ho, hc, hb, hr⟩ := place_sound hg h hp
    rw [hv]
    split at e
    · rename_i zs hts
      rw [hts] at ht
      split at e
      · rename_i h0
        split at e
        · rename_i hlen
          cases e
          subst h0
          have hrun := load_agg (w := w) ht (ad := ⟨b, 0, none⟩) (vs := cs.toList) (by simpa [hr.1] using hlen) (fun j v hj => by rw [adds, cell_row hb]; simpa using hj)
          rw [Array.toArray_toList] at hrun
          exact ⟨_, G, hrun, h.pure hd (by rintro q e; cases e) ⟨cs, rfl, hr.ro⟩⟩
        · cases e
      · cases e
    · cases e
    · rename_i h1 h2
      split at e
      · rename_i s0 hs0
        obtain ⟨u, hu, hs⟩ := hr.2 off s0 hs0
        have hrun := load_one (w := w) ht (fun zs e => h1 zs e) (fun e => h2 e) (ad := ⟨b, off, none⟩) (v := u) (by rw [cell_row hb]; exact hu)
        cases hk : c.tk.contains d && s0.isOwn && (s != d) with
        | false =>
          rw [hk] at e
          cases e
          exact ⟨u, G, hrun, h.pure hd (by rintro q e; cases e) (RelSc.ro (loc' := (d, 0)) hs)⟩
        | true =>
          rw [hk] at e
          cases e
          have hsd : s ≠ d := by
            simp only [Bool.and_eq_true, bne_iff_ne, ne_eq] at hk
            exact hk.2
          refine ⟨u, G.pass (s, off + 1) (d, 0), hrun, ?_⟩
          refine h.upd (Adv.pass G w (s, off + 1) (d, 0)) (Fr.refl (fun _ => False) w) (fun _ _ e => e.elim) (old_pass h _ _) (fun d' e => by cases e; exact ⟨hd, by simp⟩)
            (fun t i e => by cases e; simp) (fun p hp hlt => ?_) (fun p hp q hq => ?_)
          · simp only [List.mem_cons, List.not_mem_nil, or_false] at hp
            rcases hp with rfl | rfl
            · rw [put_getD, if_neg (fun e => hsd e.1)]
              rw [hvs]
              refine ⟨b, cs, rfl, ?_, hc, hb, by simp [hr.1], fun i s' hi => ?_⟩
              · simp [Gh.pass, ho]
              · rw [List.getElem?_set] at hi
                by_cases hio : off = i
                · subst hio
                  rw [if_pos rfl] at hi
                  split at hi
                  · cases hi
                    exact ⟨u, hu, (RelSc.ro hs).adv (Adv.pass G w _ _) (.inl (Sc.ro_ro s0))⟩
                  · cases hi
                · rw [if_neg hio] at hi
                  obtain ⟨u', hu', hs'⟩ := hr.2 i s' hi
                  exact ⟨u', hu', hs'.adv (Adv.pass G w _ _) (.inr (fun e => hio (by simp at e; exact e.symm)))⟩
            · rw [put_getD, if_pos ⟨rfl, hlt⟩]
              exact RelSc.pass hs
          · simp only [List.mem_cons, List.not_mem_nil, or_false] at hp
            rcases hp with rfl | rfl <;> cases hq
      · cases e
  · split at e
    · rename_i l hl
      split at e
      · rename_i r hr
        cases e
        obtain ⟨ad, hv, hls⟩ := placeRo_sound hg h hl
        obtain ⟨v, hrun, hro, hrr⟩ := readAs_sound ht hr hls
        rw [hv]
        exact ⟨v, G, hrun, h.pure hd (by rintro q e; cases e) (hrr d)⟩
      · cases e
    · exact loadT_sound hg h hT hd e
end
end Go.Proofs.Ytbgfgadekmemeaa.Ev
