/- The evaluator is sound, the single operation, tenth part: appends, closures and calls. Conditions: a table of types that is so, contracts that are met. -/
import Derived.Test.YtbgfgadekmemeaaFk
namespace Go.Proofs.Ytbgfgadekmemeaa.Ev
open Go.RowKit
set_option linter.unusedVariables false
set_option linter.unusedSimpArgs false
set_option linter.unusedSectionVars false

section
variable {P : Program} {S : Nat → Prop} {w0 w w' : World} {c0 : C0} {X : List Nat} {G G' : Gh} {st : St} {a : Act} {E : Nat × Nat → Prop}
variable {c : Ctx} {g : Nat → AV}

theorem appendTo_sound (hg : Sees st g) (h : Rel P S w0 c0 X G st a w) {e : TypeId} {ek : EK} {x : Operand} {y : Arr} {src : List (Nat × AV)} (hk : ek = y.kind ∨ True) (q : appendTo g e ek x = some (y, src)) :
    ∃ vs, Spells G w y vs ∧ w.ownsRow 0 e y.kind.size (a.eval x) y.len vs ∧ (∀ p ∈ src, p.2 = .unk) ∧
      ∀ b, (a.eval x).ownBlock = some b → ∃ s, G.own b = some (s, 0) ∧ s ∈ src.map (·.1) ∧ G.com b = y.len * y.kind.size := by
  unfold appendTo at q
  have hnil : ∀ (v : Value), v = .slice none 0 0 → w.ownsRow 0 e ek.empty.kind.size v ek.empty.len [] ∧ Spells G w ek.empty [] := by
    rintro v rfl
    cases ek <;> exact ⟨World.ownsRow_nil .., by simp [EK.empty, Spells]⟩
  split at q
  · rename_i s
    have hs := hg.rel h s
    split at q
    · rename_i e' b hgs
      rw [hgs] at hs
      split at q
      · rename_i he
        cases q
        subst he
        obtain ⟨A, cap, hv, hc, hh, ho⟩ := hs
        obtain ⟨vs, hsp, hown, hb⟩ := ho e' rfl
        exact ⟨vs, hsp, hown, by simp, fun b hb' => ⟨s, (hb b hb').1, by simp, (hb b hb').2⟩⟩
      · cases q
    · rename_i hgs
      rw [hgs] at hs
      cases q
      have hv : a.eval (.tmp s) = .slice none 0 0 := hs
      have := hnil _ hv
      exact ⟨[], this.2, this.1, by simp, fun b hb => by rw [hv] at hb; cases hb⟩
    · cases q
  · cases q
    have hv : a.eval (.const (.slice none 0 0)) = .slice none 0 0 := rfl
    have := hnil _ hv
    exact ⟨[], this.2, this.1, by simp, fun b hb => by rw [hv] at hb; cases hb⟩
  · cases q

theorem append_sound (hg : Sees st g) (h : Rel P S w0 c0 X G st a w) {t ty e : TypeId} {ek : EK} {d : Nat} {x y : Operand} {src : List (Nat × AV)} {u b r : Arr} {o : Option TypeId} (hd : d ∉ X)
    (ht : TyOk P t (.sl e ek)) (hto : appendTo g e ek x = some (u, src)) (hy : opr g .other y = some (.sc (.sl o b))) (happ : u.app b = some r) (hk : r.kind = ek) (hpos : 0 < b.len) (hsize : r.len * ek.bytes ≤ 140737488355328) :
    ∃ v w' G', (Builtin.append_ #[t, t] ty #[a.eval x, a.eval y]).run P w = .ok v w' ∧ Rel P S w0 c0 X G' (puts st (src ++ [(d, .rv (.sc (.sl (some e) r)))])) (a.put (some d) v) w' := by
  obtain ⟨hu, _, inf, z, hinf, hsz, hby, hz, hzs, hzi⟩ := ht
  obtain ⟨vs, hsp, hown, hsrc, hblk⟩ := appendTo_sound hg h (.inr trivial) hto
  obtain ⟨hro, hr⟩ := opr_sound hg h hy
  obtain ⟨B, cap, hv, hc, hh, _⟩ := hr 0
  obtain ⟨ad, rfl⟩ := hh.addr hpos
  obtain ⟨us, hus, hrd⟩ := hh
  obtain ⟨hrs, hrl, hrk, hbk⟩ := hsp.app hus happ
  have huk : u.kind = ek := by rw [← hrk, hk]
  have hbk' : b.kind = ek := by rw [← hbk, huk]
  have hbytes1 : 1 ≤ ek.bytes := by cases ek <;> simp [EK.bytes]
  have hsmall : r.len ≤ 140737488355328 := by
    have : r.len * 1 ≤ r.len * ek.bytes := Nat.mul_le_mul_left _ hbytes1
    omega
  have hnews : ∀ (j : Nat) (v : Value), us[j]? = some v → w.cell? (ad.add j) = some v := fun j v hj => by
    obtain ⟨ad', e1, hcm⟩ := hrd j v hj
    cases e1
    exact hcm.1
  have hul : us.length = b.len * inf.size := by rw [hus.length, hbk', hsz]
  have hvl : vs.length = u.len * inf.size := by rw [hsp.length, huk, hsz]
  rw [hv]
  have hdst : ∀ d', some d = some d' → d' ∉ X ∧ d' ∈ (src ++ [(d, AV.rv (.sc (.sl (some e) r)))]).map (·.1) := fun d' e => by cases e; exact ⟨hd, by simp⟩
  have hnoref : ∀ p ∈ src ++ [(d, AV.rv (.sc (.sl (some e) r)))], ∀ s, p.2.on = some s → s ∈ X ∧ (p.2.pinned = true → s ∈ c0.fx) := fun p hp q hq => by
    rw [List.mem_append] at hp
    rcases hp with hp | hp
    · rw [hsrc p hp] at hq; cases hq
    · simp only [List.mem_singleton] at hp; subst hp; cases hq
  -- a new row
  have fresh : ∀ (newcap : Nat), r.len ≤ newcap → newcap ≤ maxLen → ∀ (rest : List Value), rest.length = (newcap - r.len) * ek.size → ∀ (own' : Nat → Option (Nat × Nat)),
      Rel P S w0 c0 X (G.born w.heap.size (some (d, 0)) (r.len * ek.size)) (puts st (src ++ [(d, .rv (.sc (.sl (some e) r)))])) (a.put (some d) (.slice (some ⟨w.heap.size, 0, none⟩) r.len newcap)) (w.drew.alloc (.cells (vs ++ us ++ rest).toArray e)) := by
    intro newcap hge hle rest hrest _
    have hadv : Adv G w (G.born w.heap.size (some (d, 0)) (r.len * ek.size)) (w.drew.alloc (.cells (vs ++ us ++ rest).toArray e)) (fun _ => False) := by
      have h0 := Adv.born G w (.cells (vs ++ us ++ rest).toArray e) (some (d, 0)) (r.len * ek.size)
      exact ⟨h0.size, h0.cell, h0.own⟩
    have hfr : Fr (fun _ => False) w (w.drew.alloc (.cells (vs ++ us ++ rest).toArray e)) := by
      have h0 := Fr.alloc (fun _ => False) w (.cells (vs ++ us ++ rest).toArray e)
      exact ⟨h0.os, h0.tape, h0.output, h0.size, h0.block⟩
    have hat : (w.drew.alloc (.cells (vs ++ us ++ rest).toArray e)).heap[w.heap.size]? = some (.cells (vs ++ us ++ rest).toArray e) := heap_alloc_at w _
    refine h.upd hadv hfr (fun _ _ e => e.elim) (old_born h _ _) hdst (fun _ _ e => e.elim) (fun p hp hlt => ?_) hnoref
    rw [List.mem_append] at hp
    rcases hp with hp | hp
    · rw [hsrc p hp]; trivial
    · simp only [List.mem_singleton] at hp
      subst hp
      rw [put_getD, if_pos ⟨rfl, hlt⟩]
      have hrs' := hrs.adv hadv
      have hlen : (vs ++ us).length = r.len * ek.size := by rw [hrs.length, hk]
      refine ⟨some ⟨w.heap.size, 0, none⟩, newcap, rfl, hge, ⟨vs ++ us, hrs', fun j v hj => ⟨_, rfl, ?_⟩⟩, fun e' he' => ?_⟩
      · rw [adds]
        have hjl := (List.getElem?_eq_some_iff.1 hj).1
        refine ⟨?_, by simp only [Gh.born, if_true]; omega⟩
        rw [cell_row hat]
        simp only [List.getElem?_toArray]
        rw [List.getElem?_append_left hjl]
        exact hj
      · cases he'
        refine ⟨vs ++ us, hrs', ⟨by rw [hlen, hk], .inr ⟨w.heap.size, newcap, _, rfl, Nat.zero_le _, hat, hge, hle, ?_, ?_⟩⟩, fun b' hb' => ?_⟩
        · simp only [List.size_toArray, List.length_append (as := vs ++ us), hlen, hrest, hk]
          rw [← Nat.add_mul]; congr 1; omega
        · simp only [hk]; rw [← hlen]; exact List.take_left
        · simp only [Value.ownBlock, Option.some.injEq] at hb'
          subst hb'
          exact ⟨by simp [Gh.born], by simp [Gh.born, hk]⟩
  rcases hown.2 with ⟨hnil, hn0⟩ | ⟨b0, cap0, cur, hv0, _, hb0, hnc, hcm, hcs, htake⟩
  · have hvs : vs = [] := List.eq_nil_of_length_eq_zero (by rw [hvl, hn0]; simp)
    subst hvs
    rw [hnil]
    have hrb : r.len = b.len := by rw [hrl, hn0]; omega
    have hrun := run_append_nil (P := P) w t ty e inf z hu hinf hz ad b.len cap us hul hnews hpos (by omega) (by rw [hby, ← hrb]; omega)
    have hge := grownCap_ge w b.len 0 e
    have hle := grownCap_le_maxLen w b.len 0 e (by simp only [maxLen]; omega)
    have key := fresh (grownCap w b.len 0 e) (by omega) hle (Builtin.zeroCells z.cells (grownCap w b.len 0 e - b.len)).toList (by simp [size_zeroCells, hzs, hrb]) G.own
    rw [hrb] at key
    refine ⟨_, _, G.born w.heap.size (some (d, 0)) (b.len * ek.size), hrun, ?_⟩
    have harr : ([] ++ us ++ (Builtin.zeroCells z.cells (grownCap w b.len 0 e - b.len)).toList).toArray = us.toArray ++ Builtin.zeroCells z.cells (grownCap w b.len 0 e - b.len) := by
      apply Array.ext'; simp
    rw [harr] at key
    exact key
  · rw [hv0]
    obtain ⟨s, hos, hss, hcomb⟩ := hblk b0 (by rw [hv0]; rfl)
    by_cases hroom : u.len + b.len ≤ cap0
    · have hcs' : cur.size = cap0 * inf.size := by rw [hcs, huk, hsz]
      have hfit : u.len * inf.size + us.length ≤ cur.size := by rw [hul, hcs', ← Nat.add_mul]; exact Nat.mul_le_mul_right _ hroom
      have hrun := run_append_room (P := P) w t ty e inf hu hinf b0 u.len cap0 cur hb0 ad b.len cap us hul hnews hus.one hroom hfit
      have hrb : r.len = u.len + b.len := hrl
      have htake' : cur.toList.take (u.len * inf.size) = vs := by rw [← huk] at hsz; rw [hsz]; exact htake
      have hrow : cur.toList.take (u.len * inf.size) ++ us ++ cur.toList.drop (u.len * inf.size + us.length) = vs ++ us ++ cur.toList.drop (u.len * inf.size + us.length) := by rw [htake']
      rw [hrow] at hrun
      let cs' : Array Value := (vs ++ us ++ cur.toList.drop (u.len * inf.size + us.length)).toArray
      have hlen : (vs ++ us).length = r.len * ek.size := by rw [hrs.length, hk]
      let G' : Gh := ⟨fun k => if k = b0 then some (d, 0) else G.own k, fun k => if k = b0 then r.len * ek.size else G.com k⟩
      have hcomlt : G.com b0 ≤ r.len * ek.size := by rw [hcomb, huk, hrb]; exact Nat.mul_le_mul_right _ (by omega)
      have hadv : Adv G w G' (w.setRow b0 cs') (fun l => l.1 = s) := by
        refine ⟨by simp, fun k i hk' hi => ?_, fun k loc hk' ho hE => ?_⟩
        · by_cases hkb : k = b0
          · subst hkb
            refine ⟨?_, by simp only [G', if_true]; omega⟩
            rw [cell_setRow_same w k i cur cs' e (0, 0) hb0, cell_row hb0]
            have hi' : i < u.len * inf.size := by rw [hcomb, huk, ← hsz] at hi; exact hi
            have hiv : i < vs.length := by rw [hvl]; exact hi'
            have h1 : cs'[i]? = vs[i]? := by
              simp only [cs', List.getElem?_toArray]
              rw [List.append_assoc, List.getElem?_append_left hiv]
            rw [h1, ← htake', List.getElem?_take, if_pos hi']
            simp
          · exact ⟨cell_setRow_other w b0 cs' ⟨k, i, none⟩ hkb, by simp only [G', if_neg hkb]; exact hi⟩
        · have hkb : k ≠ b0 := fun e => by subst e; rw [hos] at ho; cases ho; exact hE rfl
          exact ⟨by simp only [G', if_neg hkb]; exact ho, by simp only [G', if_neg hkb], setRow_other w b0 k cs' hkb⟩
      refine ⟨_, _, G', hrun, ?_⟩
      have hold : ∀ k, k < w0.heap.size → ¬ S k → G'.com k = G.com k ∧ G'.own k = G.own k := by
        intro k hk' hS
        have hkb : k ≠ b0 := fun e => by subst e; have := (h.old k hk' hS).2; rw [hos] at this; cases this
        simp only [G', if_neg hkb, and_self]
      refine h.upd hadv (Fr.setRow w b0 cs') (fun k hk' e => ?_) hold hdst (fun t' i e => ?_) (fun p hp hlt => ?_) hnoref
      · subst e
        apply Classical.byContradiction
        intro hS
        have := (h.old k hk' hS).2
        rw [hos] at this; cases this
      · have e' : t' = s := e
        rw [e', List.map_append, List.mem_append]
        exact .inl hss
      · rw [List.mem_append] at hp
        rcases hp with hp | hp
        · rw [hsrc p hp]; trivial
        · simp only [List.mem_singleton] at hp
          subst hp
          rw [put_getD, if_pos ⟨rfl, hlt⟩]
          have hrs' := hrs.adv hadv
          have hat : (w.setRow b0 cs').heap[b0]? = some (.cells cs' e (0, 0)) := setRow_heap w b0 cur cs' e (0, 0) hb0
          have hcsl : cs'.size = cap0 * ek.size := by
            simp only [cs', List.size_toArray, List.length_append, List.length_drop, Array.length_toList]
            rw [hvl, hul, hcs', hsz] at *
            have : u.len * ek.size + b.len * ek.size ≤ cap0 * ek.size := by rw [← Nat.add_mul]; exact Nat.mul_le_mul_right _ hroom
            omega
          refine ⟨some ⟨b0, 0, none⟩, cap0, by rw [hrb], by omega, ⟨vs ++ us, hrs', fun j v hj => ⟨_, rfl, ?_⟩⟩, fun e' he' => ?_⟩
          · rw [adds]
            have hjl := (List.getElem?_eq_some_iff.1 hj).1
            refine ⟨?_, by simp only [G', if_true]; omega⟩
            rw [cell_row hat]
            simp only [cs', List.getElem?_toArray]
            rw [List.getElem?_append_left hjl]
            exact hj
          · cases he'
            refine ⟨vs ++ us, hrs', ⟨by rw [hlen, hk], .inr ⟨b0, cap0, cs', by rw [hrb], Nat.zero_le _, hat, by omega, hcm, by rw [hcsl, hk], ?_⟩⟩, fun b' hb' => ?_⟩
            · simp only [cs', hk]; rw [← hlen]; exact List.take_left
            · simp only [Value.ownBlock, Option.some.injEq] at hb'
              subst hb'
              exact ⟨by simp [G'], by simp [G', hk]⟩
    · have holds : ∀ (j : Nat) (v : Value), vs[j]? = some v → w.cell? ((⟨b0, 0, none⟩ : Addr).add j) = some v := hown.cells (g := b0) (by rw [hv0]; rfl)
      have hrb : r.len = u.len + b.len := hrl
      have hrun := run_append_grow (P := P) w t ty e inf z hu hinf hz ⟨b0, 0, none⟩ u.len cap0 vs hvl holds ad b.len cap us hul hnews (by omega) (by omega) (growslice_fits (by omega) (by rw [hby, ← hrb]; exact hsize))
      have hge := grownCap_ge w (u.len + b.len) cap0 e
      have hle := grownCap_le_maxLen w (u.len + b.len) cap0 e (by simp only [maxLen]; omega)
      have key := fresh (grownCap w (u.len + b.len) cap0 e) (by omega) hle (Builtin.zeroCells z.cells (grownCap w (u.len + b.len) cap0 e - (u.len + b.len))).toList (by simp [size_zeroCells, hzs, hrb]) G.own
      rw [hrb] at key
      refine ⟨_, _, G.born w.heap.size (some (d, 0)) ((u.len + b.len) * ek.size), hrun, ?_⟩
      have harr : (vs ++ us ++ (Builtin.zeroCells z.cells (grownCap w (u.len + b.len) cap0 e - (u.len + b.len))).toList).toArray = vs.toArray ++ us.toArray ++ Builtin.zeroCells z.cells (grownCap w (u.len + b.len) cap0 e - (u.len + b.len)) := by
        apply Array.ext'; simp
      rw [harr] at key
      exact key
end
end Go.Proofs.Ytbgfgadekmemeaa.Ev
