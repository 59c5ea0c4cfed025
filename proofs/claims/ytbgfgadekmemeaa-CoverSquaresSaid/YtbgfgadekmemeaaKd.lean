/- Reading a loop's kept slots; filling a mask, checking one, comparing two. Conditions: none. Printed by gen.py of this session. -/
import Derived.Test.YtbgfgadekmemeaaKc
namespace Go.Proofs.Ytbgfgadekmemeaa.Ev
open Go.Proofs
set_option linter.unusedVariables false
set_option linter.unusedSimpArgs false
set_option maxRecDepth 100000
set_option maxHeartbeats 1000000

def gI (st : St) (t : Nat) {R : Type} (K : Int → Option R) : Option R := match getS st t with
  | .rv (.sc (.int .i64 n)) => K n
  | _ => none
def gL (st : St) (t : Nat) {R : Type} (K : List Int → Option R) : Option R := match getS st t with
  | .rv (.sc (.sl none (.ints l))) => K l
  | _ => none
/-- A box of a mask: it may be appended to, or not. -/
def gB (st : St) (t : Nat) {R : Type} (K : Mk → Option R) : Option R := match getS st t with
  | .box 34 [.int .i64 a, .int .i64 b, .sl (some 3) (.ints l)] => K (a, b, l)
  | _ => none
def gM (st : St) (t : Nat) {R : Type} (K : Mk → Option R) : Option R := match getS st t with
  | .box 34 [.int .i64 a, .int .i64 b, .sl none (.ints l)] => K (a, b, l)
  | _ => none
def gQ (st : St) (t : Nat) {R : Type} (K : Q → Option R) : Option R := match getS st t with
  | .box 27 [.int .i64 a, .int .i64 b, .int .i64 c, .int .i64 d] => K (a, b, c, d)
  | _ => none
def gF (st : St) (t : Nat) {R : Type} (K : Fn2 → Option R) : Option R := match getS st t with
  | .rv (.sc (.fn F)) => K F
  | _ => none
def req (p : Bool) {R : Type} (x : Option R) : Option R := bif p then x else none
@[reducible] def bB (m : Mk) : AV := .box 34 [.int .i64 m.1, .int .i64 m.2.1, .sl (some 3) (.ints m.2.2)]
@[reducible] def bM (m : Mk) : AV := .box 34 [.int .i64 m.1, .int .i64 m.2.1, .sl none (.ints m.2.2)]
@[reducible] def bQ (r : Q) : AV := .box 27 [.int .i64 r.1, .int .i64 r.2.1, .int .i64 r.2.2.1, .int .i64 r.2.2.2]
section
variable {st : St} {t : Nat} {R : Type} {r : R}
theorem gI_some {K : Int → Option R} (h : gI st t K = some r) : ∃ n, getS st t = iv n ∧ K n = some r := by
  unfold gI at h
  split at h
  · exact ⟨_, ‹_›, h⟩
  · cases h
theorem gL_some {K : List Int → Option R} (h : gL st t K = some r) : ∃ n, getS st t = isv n ∧ K n = some r := by
  unfold gL at h
  split at h
  · exact ⟨_, ‹_›, h⟩
  · cases h
theorem gB_some {K : Mk → Option R} (h : gB st t K = some r) : ∃ n, getS st t = bB n ∧ K n = some r := by
  unfold gB at h
  split at h
  · exact ⟨(_, _, _), ‹_›, h⟩
  · cases h
theorem gM_some {K : Mk → Option R} (h : gM st t K = some r) : ∃ n, getS st t = bM n ∧ K n = some r := by
  unfold gM at h
  split at h
  · exact ⟨(_, _, _), ‹_›, h⟩
  · cases h
theorem gQ_some {K : Q → Option R} (h : gQ st t K = some r) : ∃ n, getS st t = bQ n ∧ K n = some r := by
  unfold gQ at h
  split at h
  · exact ⟨(_, _, _, _), ‹_›, h⟩
  · cases h
theorem gF_some {K : Fn2 → Option R} (h : gF st t K = some r) : ∃ n, getS st t = fv n ∧ K n = some r := by
  unfold gF at h
  split at h
  · exact ⟨_, ‹_›, h⟩
  · cases h
theorem req_some {p : Bool} {x : Option R} (h : req p x = some r) : p = true ∧ x = some r := by
  unfold req at h
  cases p
  · cases h
  · exact ⟨rfl, h⟩
theorem puts_self (s : St) : ∀ (l : List Nat) (base : St), base.length = s.length → (∀ i, i ∈ l ∨ base[i]? = s[i]?) → puts base (l.map fun i => (i, getS s i)) = s := by
  intro l
  induction l with
  | nil =>
    intro base hl h
    exact List.ext_getElem? fun i => (h i).resolve_left (by simp)
  | cons k l ih =>
    intro base hl h
    show puts (base.set k (getS s k)) _ = s
    refine ih _ (by rw [List.length_set, hl]) fun i => ?_
    by_cases hik : i = k
    · subst hik
      refine .inr ?_
      by_cases hlt : i < base.length
      · rw [List.getElem?_set_self hlt]
        unfold getS
        rw [List.getD_eq_getElem?_getD, List.getElem?_eq_getElem (by omega)]
        rfl
      · rw [List.getElem?_eq_none (by rw [List.length_set]; omega), List.getElem?_eq_none (by omega)]
    · rw [List.getElem?_set_ne (fun hh => hik hh.symm)]
      exact (h i).imp_left fun hh => (List.mem_cons.mp hh).resolve_left hik
theorem keep_mk {lv : List Nat} {n : Nat} (h : (keep lv st).length = n) : keep lv st = mk n (lv.map fun i => (i, getS (keep lv st) i)) := by
  refine (puts_self (keep lv st) lv _ ?_ fun i => ?_).symm
  · rw [List.length_replicate, h]
  · by_cases hi : i ∈ lv
    · exact .inl hi
    · refine .inr ?_
      by_cases hlt : i < n
      · rw [List.getElem?_replicate, if_pos hlt]
        unfold keep at h ⊢
        rw [List.length_mapIdx] at h
        rw [List.getElem?_mapIdx, List.getElem?_eq_getElem (by omega)]
        simp only [Option.map_some, List.contains_eq_mem]
        rw [decide_eq_false hi]
        rfl
      · rw [List.getElem?_eq_none (by rw [List.length_replicate]; omega), List.getElem?_eq_none (by omega)]
end
theorem getD_at {l : List Int} {i : Nat} (h : i < l.length) : l.getD i 0 = l[i] := by rw [List.getD_eq_getElem?_getD, List.getElem?_eq_getElem h]; rfl
def sameL : List Int → List Int → Bool
  | a :: l, b :: m => (a == b) && sameL l m
  | _, _ => true
def sameM (a b : Mk) : Bool := (a.1 == b.1) && ((a.2.1 == b.2.1) && (((a.2.2.length : Int) == b.2.2.length) && sameL a.2.2 b.2.2))
def lp20 (st : St) (R : Type) (K : Ex → St → Option R) : Option R := req (decide (st.length = 45)) (gM st 2 fun a => gM st 3 fun b => gI st 29 fun k => gI st 30 fun i =>
  req (decide (i = 0) && decide (k = a.2.2.length) && decide (a.2.2.length = b.2.2.length) && decide (a.2.2.length < 4611686018427387904)) (bif sameL a.2.2 b.2.2 then K (.exit 0) (mk 45 []) else K .ret (mk 45 [(4, bw false)])))
def E20 : Env := { EG [] with lv := fun _ => [2, 3, 29, 30], lx := fun _ => [4], lp := fun _ => lp20 }
def st20 (a b : Mk) (k i : Int) : St := mk 45 [(2, bM a), (3, bM b), (29, iv k), (30, iv i)]
theorem b20 (a b : Mk) (k i : Int) : evalCode E20 (loopAt Try.f20 0) 0 (st20 a b k i) (kp E20 0) = bif decide (i < k) then bif decide (0 ≤ i) && decide (i < (a.2.2.length : Int)) then bif decide (0 ≤ i) && decide (i < (b.2.2.length : Int)) then
    bif a.2.2.getD i.toNat 0 != b.2.2.getD i.toNat 0 then some (.ret, mk 45 [(4, bw false)]) else some (.normal, st20 a b k (W (i + 1))) else none else none
    else some (.exit 0, mk 45 []) := by kernel_rfl
theorem t20 (w h : Int) (l : List Int) (w' h' : Int) (l' : List Int) : evalF E20 Try.f20 [mk3 w h l, mk3 w' h' l'] = bif w != w' then ob false else bif h != h' then ob false else bif (l.length : Int) != l'.length then ob false else
    bif decide ((0 : Int) = 0) && decide ((l.length : Int) = l.length) && decide (l.length = l'.length) && decide (l.length < 4611686018427387904) then bif sameL l l' then ob true else ob false else none := by kernel_rfl
theorem runs20 (a b a' b' : Int) (l m : List Int) (hlm : l.length = m.length) (hl : l.length < 4611686018427387904) : ∀ (k i : Nat), i + k = l.length →
    (sameL (l.drop i) (m.drop i) = true → Runs E20 0 (loopAt Try.f20 0) (st20 (a, b, l) (a', b', m) l.length i) (.exit 0) (mk 45 [])) ∧ (sameL (l.drop i) (m.drop i) = false → Runs E20 0 (loopAt Try.f20 0) (st20 (a, b, l) (a', b', m) l.length i) .ret (mk 45 [(4, bw false)])) := by
  intro k
  induction k with
  | zero =>
    intro i hi
    rw [List.drop_eq_nil_of_le (by omega)]
    refine ⟨fun _ => .stop ?_ (by simp), fun h => nomatch h⟩
    rw [b20, decide_eq_false (by omega)]
    rfl
  | succ k ih =>
    intro i hi
    have h1 : i < l.length := by omega
    rw [List.drop_eq_getElem_cons h1, List.drop_eq_getElem_cons (l := m) (by omega)]
    have hbd := b20 (a, b, l) (a', b', m) l.length i
    simp only at hbd
    rw [decide_eq_true (by omega : (i : Int) < l.length), decide_eq_true (by omega : (0 : Int) ≤ i), decide_eq_true (by omega : (i : Int) < m.length), Int.toNat_natCast, getD_at h1, getD_at (l := m) (by omega), W_small (n := (i : Int) + 1) (by omega) (by omega)] at hbd
    rw [sameL]
    by_cases c : l[i] = m[i]
    · rw [bne_eq_false_iff_eq.mpr c] at hbd
      rw [beq_iff_eq.mpr c, Bool.true_and]
      exact ⟨fun h => .step hbd ((ih (i + 1) (by omega)).1 h), fun h => .step hbd ((ih (i + 1) (by omega)).2 h)⟩
    · rw [bne_iff_ne.mpr c] at hbd
      rw [beq_eq_false_iff_ne.mpr c, Bool.false_and]
      exact ⟨fun h => (nomatch h), fun _ => .stop hbd (by simp)⟩
theorem loop20 : LoopOk E20 0 (loopAt Try.f20 0) := by
  intro st R K z h
  obtain ⟨hn, h⟩ := req_some h
  obtain ⟨a, e0, h⟩ := gM_some h
  obtain ⟨b, e1, h⟩ := gM_some h
  obtain ⟨k, e2, h⟩ := gI_some h
  obtain ⟨i, e3, h⟩ := gI_some h
  obtain ⟨hc, h⟩ := req_some h
  simp only [Bool.and_eq_true, decide_eq_true_eq] at hc
  obtain ⟨⟨⟨h1, h2⟩, h3⟩, h4⟩ := hc
  rw [keep_mk (of_decide_eq_true hn)]
  have e := runs20 a.1 a.2.1 b.1 b.2.1 a.2.2 b.2.2 h3 h4 a.2.2.length 0 (by omega)
  have es : mk 45 ((E20.lv 0).map fun i => (i, getS (keep (E20.lv 0) st) i)) = st20 (a.1, a.2.1, a.2.2) (b.1, b.2.1, b.2.2) a.2.2.length (0 : Nat) := by
    show mk 45 [(2, getS (keep (E20.lv 0) st) 2), (3, getS (keep (E20.lv 0) st) 3), (29, getS (keep (E20.lv 0) st) 29), (30, getS (keep (E20.lv 0) st) 30)] = _
    rw [e0, e1, e2, e3, h1, h2]
    rfl
  rw [es]
  rw [List.drop_zero, List.drop_zero] at e
  cases ha : sameL a.2.2 b.2.2
  · rw [ha] at h; exact ⟨_, _, e.2 ha, h⟩
  · rw [ha] at h; exact ⟨_, _, e.1 ha, h⟩
theorem m20 : Meets Try.prog 20 (gate (ps dMM fun a => decide (a.1.2.2.length < 4611686018427387904)) (sp dMM fun a => bw (sameM a.1 a.2))) := mG (rdL (e := E20) rfl eg_nil (fn := Try.f20) (k := 2) (by kernel_rfl) (by kernel_rfl) (of_decide_eq_true (by kernel_rfl)) (show loopsOf Try.f20 = [(0, loopAt Try.f20 0)] by kernel_rfl) (fun p hp => by cases List.mem_singleton.mp hp; exact loop20)) (fun _ _ => hMM) (fun _ => ⟨rfl, Nat.le_refl _⟩)
  fun ⟨⟨w, h, l⟩, w', h', l'⟩ hp => by
    have hp := of_decide_eq_true hp
    simp only at hp
    refine (t20 w h l w' h' l').trans ?_
    unfold sameM
    simp only
    by_cases c1 : w = w'
    · rw [bne_eq_false_iff_eq.mpr c1, beq_iff_eq.mpr c1]
      by_cases c2 : h = h'
      · rw [bne_eq_false_iff_eq.mpr c2, beq_iff_eq.mpr c2]
        by_cases c3 : (l.length : Int) = l'.length
        · rw [bne_eq_false_iff_eq.mpr c3, beq_iff_eq.mpr c3, decide_eq_true (by omega : l.length = l'.length), decide_eq_true hp]
          simp only [decide_true, Bool.and_self, cond_true, cond_false]
          cases sameL l l' <;> rfl
        · rw [bne_iff_ne.mpr c3, beq_eq_false_iff_ne.mpr c3]; rfl
      · rw [bne_iff_ne.mpr c2, beq_eq_false_iff_ne.mpr c2]; rfl
    · rw [bne_iff_ne.mpr c1, beq_eq_false_iff_ne.mpr c1]; rfl
theorem sameL_self : ∀ l, sameL l l = true
  | [] => rfl
  | a :: l => by rw [sameL, sameL_self l, beq_self_eq_true]; rfl
theorem sameM_self (a : Mk) : sameM a a = true := by unfold sameM; rw [sameL_self, beq_self_eq_true, beq_self_eq_true, beq_self_eq_true]; rfl
end Go.Proofs.Ytbgfgadekmemeaa.Ev

