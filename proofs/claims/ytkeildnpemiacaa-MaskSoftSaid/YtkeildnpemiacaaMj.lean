/- That the laws of combining and of the algebra answer true. Conditions: none. -/
import Derived.Test.YtkeildnpemiacaaMf
import Derived.Test.YtkeildnpemiacaaMi
namespace Go.Proofs.Ytkeildnpemiacaa.Ev
open Go.Proofs
set_option linter.unusedVariables false
set_option linter.unusedSimpArgs false
set_option maxRecDepth 100000
set_option maxHeartbeats 1000000

theorem seqs_le {a b : Mk} {how : Int} : (combM a b how).1.2.2.length ≤ 65536 := by
  unfold combM
  by_cases hc : checkM a = 0
  · by_cases hc' : checkM b = 0
    · rw [if_neg (fun h => h hc), if_neg (fun h => h hc')]
      by_cases hh : how < 0 ∨ how > 4
      · rw [if_pos hh]; exact Nat.zero_le _
      · rw [if_neg hh]
        by_cases hq : clashS a b = true
        · rw [if_pos hq]; exact Nat.zero_le _
        · rw [if_neg hq]
          obtain ⟨a, b', l⟩ := a
          obtain ⟨a', b'', l'⟩ := b
          obtain ⟨ho, hz, hu⟩ := check_ok hc
          obtain ⟨ho', hz', hu'⟩ := check_ok hc'
          have hs := (okSize_iff _ _ _).mp ho
          have hs' := (okSize_iff _ _ _).mp ho'
          simp only at hz hz'
          have hq2 : ¬ (a ≠ 0 ∧ a' ≠ 0 ∧ (a ≠ a' ∨ b' ≠ b'')) := fun h => hq (decide_eq_true h)
          obtain ⟨s1, s2, s3, s4, s5, s6⟩ := sides (by omega) (by omega) hz hz' hq2
          show (combL how _ _).length ≤ 65536
          unfold combL
          rw [seqL_len]
          exact (size_le s1 s2 s3 s4).1
    · rw [if_neg (fun h => h hc), if_pos hc']; exact Nat.zero_le _
  · rw [if_pos hc]; exact Nat.zero_le _
theorem invs_le {a : Mk} : (invM a).1.2.2.length ≤ 65536 := by
  unfold invM
  by_cases hc : checkM a = 0
  · rw [if_neg (fun h => h hc)]
    obtain ⟨a, b, l⟩ := a
    have hs := (okSize_iff _ _ _).mp (check_ok hc).1
    show (invL _).length ≤ 65536
    unfold invL
    rw [seqL_len]
    exact (size_le hs.1 hs.2.1 hs.2.2.1 hs.2.2.2.1).1
  · rw [if_pos hc]; exact Nat.zero_le _
def gl (m : Mk) (K : Option (AV × List AV)) : Option (AV × List AV) := bif decide (m.2.2.length < 4611686018427387904) then K else none
theorem gl_ok {m : Mk} (h : m.2.2.length ≤ 65536) (K : Option (AV × List AV)) : gl m K = K := by unfold gl; rw [decide_eq_true (by omega)]; rfl
abbrev p17 : List AV → Bool := ps dMM fun a => decide (a.1.2.2.length < 4611686018427387904)
def L11 (co : Mk → Mk → Int → Mk × Int) (inv : Mk → Mk × Int) (sm : Mk → Mk → Bool) : List Entry := [(42, pT dMMI, sp dMMI fun a => mev (co a.1 a.2.1 a.2.2)), (43, pT dMMI, sp dMMI fun a => mev (co a.1 a.2.1 a.2.2)), (44, pT dM, sp dM fun a => mev (inv a)), (45, pT dM, sp dM fun a => mev (inv a)),
  (16, pT d0, sp d0 fun _ => bw true), (17, p17, sp dMM fun a => bw (sm a.1 a.2))]
theorem g11 : ∀ f, Meets Try.prog f ((EG (L11 combM invM sameM)).sp f) := eg_cons m42 (eg_cons m43 (eg_cons m44 (eg_cons m45 (eg_cons m16 (eg_cons m17 eg_nil)))))
theorem t11 (co : Mk → Mk → Int → Mk × Int) (inv : Mk → Mk × Int) (sm : Mk → Mk → Bool) (a b a' b' : Int) (l l' : List Int) (h : Int) : evalF (EG (L11 co inv sm)) Try.f11 [mk3 a b l, mk3 a' b' l', iv h] =
    bif (co (a, b, l) (a', b', l') h).2 == (co (a, b, l) (a', b', l') h).2 then gl (co (a, b, l) (a', b', l') h).1 (bif sm (co (a, b, l) (a', b', l') h).1 (co (a, b, l) (a', b', l') h).1 then
      bif (inv (a, b, l)).2 == (inv (a, b, l)).2 then gl (inv (a, b, l)).1 (ob (sm (inv (a, b, l)).1 (inv (a, b, l)).1)) else ob false else ob false) else ob false := by kernel_rfl
theorem m11 : Meets Try.prog 11 (gate (pT dMMI) (sp dMMI fun _ => bw true)) := mG (rdE g11 (fn := Try.f11) (k := 3) (by kernel_rfl) (by kernel_rfl) (of_decide_eq_true (by kernel_rfl)) (by kernel_rfl)) (fun _ _ => hMMI) (fun _ => ⟨rfl, Nat.le_refl _⟩)
  fun ⟨⟨a, b, l⟩, ⟨a', b', l'⟩, h⟩ _ => by
    refine (t11 combM invM sameM a b a' b' l l' h).trans ?_
    rw [gl_ok seqs_le, gl_ok invs_le, sameM_self, sameM_self, beq_self_eq_true, beq_self_eq_true]
    rfl
/-! ### The algebra -/
def isM (m : Mk) (e : Int) (w : Mk) : Bool := (e == 0) && sameM m w
abbrev p41 : List AV → Bool := ps dMIM fun a => decide (a.1.2.2.length < 4611686018427387904)
theorem t41 (sm : Mk → Mk → Bool) (a b a' b' : Int) (l l' : List Int) (e : Int) : evalF (EG [(17, p17, sp dMM fun a => bw (sm a.1 a.2))]) Try.f41 [mk3 a b l, iv e, mk3 a' b' l'] = bif e == 0 then gl (a, b, l) (ob (sm (a, b, l) (a', b', l'))) else ob false := by kernel_rfl
theorem m41 : Meets Try.prog 41 (gate p41 (sp dMIM fun a => bw (isM a.1 a.2.1 a.2.2))) := mG (rdE (l := [(17, p17, sp dMM fun a => bw (sameM a.1 a.2))]) (eg_cons m17 eg_nil) (fn := Try.f41) (k := 3) (by kernel_rfl) (by kernel_rfl) (of_decide_eq_true (by kernel_rfl)) (by kernel_rfl)) (fun _ _ => hMIM) (fun _ => ⟨rfl, Nat.le_refl _⟩)
  fun ⟨⟨a, b, l⟩, e, ⟨a', b', l'⟩⟩ hp => by
    have hp : decide (l.length < 4611686018427387904) = true := hp
    refine (t41 sameM a b a' b' l l' e).trans ?_
    unfold gl isM
    rw [hp]
    cases e == 0 <;> rfl
theorem allU_get : ∀ {l : List Int}, allU l = true → ∀ k, k < l.length → 0 ≤ l.getD k 0 ∧ l.getD k 0 ≤ 65535
  | [], _, _, h => absurd h (by simp)
  | v :: l, h, 0, _ => by
    simp only [allU, Bool.and_eq_true, decide_eq_true_eq] at h
    exact h.1
  | v :: l, h, k + 1, hk => by
    simp only [allU, Bool.and_eq_true, decide_eq_true_eq] at h
    exact allU_get h.2 k (by simpa using hk)
theorem allU_seq (v : Nat → Int) : ∀ (k i : Nat), (∀ j, i ≤ j → j < i + k → 0 ≤ v j ∧ v j ≤ 65535) → allU (seqL v k i) = true
  | 0, _, _ => rfl
  | k + 1, i, h => by
    rw [seqL, allU, decide_eq_true (h i (Nat.le_refl _) (by omega)), allU_seq v k (i + 1) fun j h1 h2 => h j (by omega) (by omega)]
    rfl
/-- A valid mask, in plain words. -/
structure Good (w h : Int) (l : List Int) (n : Nat) : Prop where
  size : 0 ≤ w ∧ w ≤ 256 ∧ 0 ≤ h ∧ h ≤ 256 ∧ (w = 0 ↔ h = 0)
  num : w.toNat * h.toNat = n
  len : l.length = n
  all : allU l = true
theorem good_of {w h : Int} {l : List Int} (hc : checkM (w, h, l) = 0) : Good w h l (w.toNat * h.toNat) := by
  obtain ⟨ho, hz, hu⟩ := check_ok hc
  have hs := (okSize_iff _ _ _).mp ho
  have := size_le hs.1 hs.2.1 hs.2.2.1 hs.2.2.2.1
  exact ⟨⟨hs.1, hs.2.1, hs.2.2.1, hs.2.2.2.1, hz⟩, rfl, by omega, hu⟩
theorem Good.check {w h : Int} {l : List Int} {n : Nat} (g : Good w h l n) : checkM (w, h, l) = 0 := by
  have hs := size_le g.size.1 g.size.2.1 g.size.2.2.1 g.size.2.2.2.1
  unfold checkM
  rw [if_pos ⟨(okSize_iff _ _ _).mpr ⟨g.size.1, g.size.2.1, g.size.2.2.1, g.size.2.2.2.1, by have := g.len; have := g.num; omega⟩, g.size.2.2.2.2⟩, if_pos g.all]
theorem Good.seq {w h : Int} {l : List Int} {n : Nat} (g : Good w h l n) {v : Nat → Int} (hv : ∀ j, j < n → 0 ≤ v j ∧ v j ≤ 65535) : Good w h (seqL v n 0) n :=
  ⟨g.size, g.num, seqL_len .., allU_seq v n 0 fun j _ h2 => hv j (by omega)⟩
theorem Good.get {w h : Int} {l : List Int} {n : Nat} (g : Good w h l n) {k : Nat} (hk : k < n) : 0 ≤ l.getD k 0 ∧ l.getD k 0 ≤ 65535 := allU_get g.all k (by rw [g.len]; exact hk)
theorem Good.self {w h : Int} {l : List Int} {n : Nat} (g : Good w h l n) : seqL (fun k => l.getD k 0) n 0 = l := by
  have := seqL_id l []
  rw [g.len] at this
  exact this
theorem Good.inv {w h : Int} {l : List Int} {n : Nat} (g : Good w h l n) : invM (w, h, l) = ((w, h, seqL (fun k => 65535 - l.getD k 0) n 0), 0) := by
  unfold invM invL
  rw [if_neg (fun h => h g.check)]
  simp only
  rw [g.num, seqL_congr n 0 (v' := fun k => 65535 - l.getD k 0) fun j _ hj => by
    have := g.get (k := j) (by omega)
    exact W_small (by omega) (by omega)]
/-- How two values are combined. -/
def comb2 (how p q : Int) : Int := if how = 1 then mx p q else if how = 2 then mn p (65535 - q) else mn p q
theorem Good.comb {w h : Int} {l l' : List Int} {n : Nat} (g : Good w h l n) (g' : Good w h l' n) {how : Int} (hh : how = 1 ∨ how = 2 ∨ how = 3) : combM (w, h, l) (w, h, l') how = ((w, h, seqL (fun k => comb2 how (l.getD k 0) (l'.getD k 0)) n 0), 0) := by
  unfold combM combL
  have hcl : clashS (w, h, l) (w, h, l') = false := decide_eq_false (by simp only; omega)
  rw [if_neg (fun h => h g.check), if_neg (fun h => h g'.check), if_neg (by omega), if_neg (by rw [hcl]; decide)]
  simp only
  rw [show mx w w = w by unfold mx; split <;> rfl, show mx h h = h by unfold mx; split <;> rfl, g.num, seqL_congr n 0 (v' := fun k => comb2 how (l.getD k 0) (l'.getD k 0)) fun j _ hj => by
    have h1 := g.get (k := j) (by omega)
    have h2 := g'.get (k := j) (by omega)
    have h0 : ¬ w = 0 := by
      intro h0
      have := g.num
      rw [h0] at this
      simp only [Int.toNat_zero, Nat.zero_mul] at this
      omega
    unfold atV combV comb2
    simp only
    rw [if_neg h0, if_neg h0, W_small (n := 65535 - l'.getD j 0) (by omega) (by omega)]
    rcases hh with hh | hh | hh <;> subst hh <;> rfl]
theorem Good.le {w h : Int} {l : List Int} {n : Nat} (g : Good w h l n) : n ≤ 65536 := by
  have := size_le g.size.1 g.size.2.1 g.size.2.2.1 g.size.2.2.2.1
  have := g.num
  omega
def L12 (ck : Mk → Int) (co : Mk → Mk → Int → Mk × Int) (inv : Mk → Mk × Int) (iz : Mk → Int → Mk → Bool) : List Entry := [(30, pT dM, sp dM fun m => iv (ck m)), (42, pT dMMI, sp dMMI fun a => mev (co a.1 a.2.1 a.2.2)), (44, pT dM, sp dM fun a => mev (inv a)), (16, pT d0, sp d0 fun _ => bw true), (41, p41, sp dMIM fun a => bw (iz a.1 a.2.1 a.2.2))]
def tree12 (ck : Mk → Int) (co : Mk → Mk → Int → Mk × Int) (inv : Mk → Mk × Int) (iz : Mk → Int → Mk → Bool) (A B : Mk) : Option (AV × List AV) :=
  bif ck A != 0 then ob true else bif ck B != 0 then ob true else bif A.1 != B.1 then ob true else bif A.2.1 != B.2.1 then ob true else
  bif (inv A).2 != 0 then ob false else bif (inv B).2 != 0 then ob false else gl (inv (inv A).1).1 (bif !iz (inv (inv A).1).1 (inv (inv A).1).2 A then ob false else
  bif (co A B 1).2 != 0 then ob false else gl (co B A 1).1 (bif !iz (co B A 1).1 (co B A 1).2 (co A B 1).1 then ob false else
  bif (co A B 3).2 != 0 then ob false else gl (co B A 3).1 (bif !iz (co B A 3).1 (co B A 3).2 (co A B 3).1 then ob false else
  bif (inv (co A B 1).1).2 != 0 then ob false else gl (co (inv A).1 (inv B).1 3).1 (bif !iz (co (inv A).1 (inv B).1 3).1 (co (inv A).1 (inv B).1 3).2 (inv (co A B 1).1).1 then ob false else
  bif (co A B 2).2 == 0 then gl (co A (inv B).1 3).1 (ob (iz (co A (inv B).1 3).1 (co A (inv B).1 3).2 (co A B 2).1)) else ob false))))
theorem t12 (ck : Mk → Int) (co : Mk → Mk → Int → Mk × Int) (inv : Mk → Mk × Int) (iz : Mk → Int → Mk → Bool) (a b a' b' : Int) (l l' : List Int) : evalF (EG (L12 ck co inv iz)) Try.f12 [mk3 a b l, mk3 a' b' l'] = tree12 ck co inv iz (a, b, l) (a', b', l') := by kernel_rfl
theorem isM_self (m : Mk) : isM m 0 m = true := by unfold isM; rw [sameM_self]; rfl
theorem mx_comm (a b : Int) : mx a b = mx b a := by unfold mx; split <;> split <;> omega
theorem mn_comm (a b : Int) : mn a b = mn b a := by unfold mn; split <;> split <;> omega
theorem tree12_true (A B : Mk) : tree12 checkM combM invM isM A B = ob true := by
  obtain ⟨a, b, l⟩ := A
  obtain ⟨a', b', l'⟩ := B
  unfold tree12
  by_cases c1 : checkM (a, b, l) = 0
  rotate_left
  · rw [bne_iff_ne.mpr c1]; rfl
  by_cases c2 : checkM (a', b', l') = 0
  rotate_left
  · rw [bne_iff_ne.mpr c2]; cases checkM (a, b, l) != 0 <;> rfl
  by_cases c3 : a = a'
  rotate_left
  · rw [bne_iff_ne.mpr c3]; cases checkM (a, b, l) != 0 <;> cases checkM (a', b', l') != 0 <;> rfl
  by_cases c4 : b = b'
  rotate_left
  · rw [bne_iff_ne.mpr c4]; cases checkM (a, b, l) != 0 <;> cases checkM (a', b', l') != 0 <;> cases a != a' <;> rfl
  subst c3 c4
  have g := good_of c1
  have g' := good_of c2
  generalize hn : a.toNat * b.toNat = n at g g'
  have hle := g.le
  have gi := g.seq (v := fun k => 65535 - l.getD k 0) fun j hj => by have := g.get hj; omega
  have gi' := g'.seq (v := fun k => 65535 - l'.getD k 0) fun j hj => by have := g'.get hj; omega
  have ga := g.seq (v := fun k => comb2 1 (l.getD k 0) (l'.getD k 0)) fun j hj => by
    have := g.get hj
    have := g'.get hj
    show 0 ≤ mx _ _ ∧ mx _ _ ≤ 65535
    unfold mx; split <;> omega
  have e1 : seqL (fun k => 65535 - (seqL (fun k => 65535 - l.getD k 0) n 0).getD k 0) n 0 = l := by
    rw [seqL_congr n 0 (v' := fun k => l.getD k 0) fun j _ hj => by
      rw [seqL_get _ n 0 j (by omega), Nat.zero_add]
      omega]
    exact g.self
  have e2 : seqL (fun k => comb2 1 (l'.getD k 0) (l.getD k 0)) n 0 = seqL (fun k => comb2 1 (l.getD k 0) (l'.getD k 0)) n 0 := seqL_congr n 0 fun j _ _ => mx_comm _ _
  have e3 : seqL (fun k => comb2 3 (l'.getD k 0) (l.getD k 0)) n 0 = seqL (fun k => comb2 3 (l.getD k 0) (l'.getD k 0)) n 0 := seqL_congr n 0 fun j _ _ => mn_comm _ _
  have e4 : seqL (fun k => comb2 3 ((seqL (fun k => 65535 - l.getD k 0) n 0).getD k 0) ((seqL (fun k => 65535 - l'.getD k 0) n 0).getD k 0)) n 0 = seqL (fun k => 65535 - (seqL (fun k => comb2 1 (l.getD k 0) (l'.getD k 0)) n 0).getD k 0) n 0 :=
    seqL_congr n 0 fun j _ hj => by
      rw [seqL_get _ n 0 j (by omega), seqL_get _ n 0 j (by omega), seqL_get _ n 0 j (by omega), Nat.zero_add]
      show mn _ _ = 65535 - mx _ _
      unfold mn mx
      split <;> split <;> omega
  have e5 : seqL (fun k => comb2 3 (l.getD k 0) ((seqL (fun k => 65535 - l'.getD k 0) n 0).getD k 0)) n 0 = seqL (fun k => comb2 2 (l.getD k 0) (l'.getD k 0)) n 0 :=
    seqL_congr n 0 fun j _ hj => by
      rw [seqL_get _ n 0 j (by omega), Nat.zero_add]
      rfl
  rw [c1, c2, g.inv, g'.inv, g.comb g' (.inl rfl), g'.comb g (.inl rfl), g.comb g' (.inr (.inr rfl)), g'.comb g (.inr (.inr rfl)), g.comb g' (.inr (.inl rfl))]
  simp only
  rw [gi.inv, ga.inv, gi.comb gi' (.inr (.inr rfl)), g.comb gi' (.inr (.inr rfl)), e1, e2, e3, e4, e5]
  simp only
  have gle : ∀ (v : Nat → Int) (K : Option (AV × List AV)), gl (a, b, seqL v n 0) K = K := fun v K => gl_ok (by rw [seqL_len]; exact hle) K
  have gll : ∀ (K : Option (AV × List AV)), gl (a, b, l) K = K := fun K => gl_ok (by rw [g.len]; exact hle) K
  rw [gll, gle, gle, gle, gle]
  simp only [isM_self, bne_self_eq_false, Bool.not_true, cond_false, cond_true, beq_self_eq_true]
abbrev mm2 : List AV → Bool := pT dMM
theorem g12 : ∀ f, Meets Try.prog f ((EG (L12 checkM combM invM isM)).sp f) := eg_cons m30 (eg_cons m42 (eg_cons m44 (eg_cons m16 (eg_cons m41 eg_nil))))
theorem m12 : Meets Try.prog 12 (gate (pT dMM) (sp dMM fun _ => bw true)) := mG (rdE g12 (fn := Try.f12) (k := 2) (by kernel_rfl) (by kernel_rfl) (of_decide_eq_true (by kernel_rfl)) (by kernel_rfl)) (fun _ _ => hMM) (fun _ => ⟨rfl, Nat.le_refl _⟩)
  fun ⟨⟨a, b, l⟩, a', b', l'⟩ _ => (t12 checkM combM invM isM a b a' b' l l').trans (tree12_true _ _)
end Go.Proofs.Ytkeildnpemiacaa.Ev
