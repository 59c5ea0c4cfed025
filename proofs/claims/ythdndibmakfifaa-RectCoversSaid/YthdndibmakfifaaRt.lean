/- That the law of covering answers true. Conditions: none. -/
import Derived.Test.YthdndibmakfifaaRs
namespace Go.Proofs.Ythdndibmakfifaa.Ev
open Go.Proofs
set_option linter.unusedVariables false
set_option maxRecDepth 100000
set_option maxHeartbeats 0

def okT (f : Pt → Int) (l : List Pt) : Bool := allPos f l && decide (tot f l ≤ 4398046511104)
def lp10 (f : Q → Pt → Int) (st : St) (R : Type) (K : Ex → St → Option R) : Option R := req (decide (st.length = 53)) (gR st 1 fun r => gI st 4 fun s => gPs st 32 fun l => gI st 33 fun n => gI st 34 fun i =>
  req (decide (s = 0) && decide (n = l.length) && decide (i = 0) && decide (l.length ≤ 4096) && okT (f r) l) (K (.exit 0) (mk 53 [(1, bx r), (4, iv (tot (f r) l))])))
def E10 (ti : Q → List Pt) (o : Pt → Q) (m : Q → Q → Q) (ar : Q → Int) (em : Q → Bool) (f : Q → Pt → Int) : Env :=
  { E [(37, sR fun r => psv (ti r)), (12, s0 (bw true)), (15, sR fun r => bw (em r)), (34, sP fun p => qv (o p)), (23, sRR fun a b => qv (m a b)), (19, sR fun r => iv (ar r))] with lv := fun _ => [1, 4, 32, 33, 34], lx := fun _ => [1, 2, 4], lp := fun _ => lp10 f }
def st10 (r : Q) (s : Int) (l : List Pt) (n i : Int) : St := mk 53 [(1, bx r), (4, iv s), (32, psv l), (33, iv n), (34, iv i)]
theorem b10 (ti : Q → List Pt) (o : Pt → Q) (m : Q → Q → Q) (ar : Q → Int) (em : Q → Bool) (f : Q → Pt → Int) (r : Q) (s : Int) (l : List Pt) (n i : Int) : evalCode (E10 ti o m ar em f) (loopAt Try.f10 0) 0 (st10 r s l n i) (kp (E10 ti o m ar em f) 0) =
    bif decide (i < n) then bif decide (0 ≤ i) && decide (i < (l.length : Int)) then
      bif decide (ar (m (o (l.getD i.toNat (0, 0))) r) < 1) then some (.ret, mk 53 [(1, bx r), (2, bw false), (4, iv s)])
      else some (.normal, st10 r (W (s + ar (m (o (l.getD i.toNat (0, 0))) r))) l n (W (i + 1))) else none
    else some (.exit 0, mk 53 [(1, bx r), (4, iv s)]) := by kernel_rfl
theorem t10 (ti : Q → List Pt) (o : Pt → Q) (m : Q → Q → Q) (ar : Q → Int) (em : Q → Bool) (f : Q → Pt → Int) (a b c d : Int) : evalF (E10 ti o m ar em f) Try.f10 [q4 a b c d] =
    bif decide (((ti (a, b, c, d)).length : Int) > 4096) then ob false else bif ((ti (a, b, c, d)).length : Int) == 0 then
      bif em (a, b, c, d) then ob true else bif decide (c > 100) then ob true else ob (decide (d > 100))
    else bif decide ((0 : Int) = 0) && decide (((ti (a, b, c, d)).length : Int) = (ti (a, b, c, d)).length) && decide ((0 : Int) = 0) && decide ((ti (a, b, c, d)).length ≤ 4096) && okT (f (a, b, c, d)) (ti (a, b, c, d)) then
      ob (tot (f (a, b, c, d)) (ti (a, b, c, d)) == ar (a, b, c, d)) else none := by kernel_rfl
abbrev EC : Env := E10 tiles ofTile meetR area empty tileW
theorem runs10 (r : Q) (l : List Pt) (hl : l.length ≤ 4096) : ∀ (k i : Nat) (s : Int), i + k = l.length → 0 ≤ s → s + tot (tileW r) (l.drop i) ≤ 4398046511104 → allPos (tileW r) (l.drop i) = true →
    Runs EC 0 (loopAt Try.f10 0) (st10 r s l l.length i) (.exit 0) (mk 53 [(1, bx r), (4, iv (s + tot (tileW r) (l.drop i)))]) := by
  intro k
  induction k with
  | zero =>
    intro i s hi h0 _ _
    rw [List.drop_eq_nil_of_le (by omega)]
    refine .stop ?_ (by simp)
    rw [b10, decide_eq_false (by omega), show tot (tileW r) [] = 0 from rfl, Int.add_zero]
    rfl
  | succ k ih =>
    intro i s hi h0 ha hp
    have h1 : i < l.length := by omega
    have e1 : l.getD i (0, 0) = l[i] := by rw [List.getD_eq_getElem?_getD, List.getElem?_eq_getElem h1]; rfl
    rw [List.drop_eq_getElem_cons h1] at ha hp ⊢
    simp only [allPos, tot, Bool.and_eq_true, decide_eq_true_eq] at ha hp ⊢
    have ht := tot_nonneg (tileW r) _ hp.2
    have hf : tileW r l[i] = area (meetR (ofTile l[i]) r) := rfl
    have hbd := b10 tiles ofTile meetR area empty tileW r s l l.length i
    rw [decide_eq_true (by omega : (i : Int) < l.length), decide_eq_true (by omega : (0 : Int) ≤ i), Int.toNat_natCast, e1, ← hf, decide_eq_false (by omega : ¬ tileW r l[i] < 1),
      W_small (n := s + tileW r l[i]) (by omega) (by omega), W_small (n := (i : Int) + 1) (by omega) (by omega)] at hbd
    have := ih (i + 1) (s + tileW r l[i]) (by omega) (by omega) (by omega) hp.2
    rw [Int.add_assoc] at this
    exact .step hbd this
theorem loop10 : LoopOk EC 0 (loopAt Try.f10 0) := by
  intro st R K x h
  obtain ⟨hn, h⟩ := req_some h
  obtain ⟨r, e0, h⟩ := gR_some h
  obtain ⟨s, e1, h⟩ := gI_some h
  obtain ⟨l, e2, h⟩ := gPs_some h
  obtain ⟨n, e3, h⟩ := gI_some h
  obtain ⟨i, e4, h⟩ := gI_some h
  obtain ⟨hc, h⟩ := req_some h
  simp only [Bool.and_eq_true, decide_eq_true_eq, okT] at hc
  obtain ⟨⟨⟨⟨h1, h2⟩, h3⟩, h4⟩, h5, h6⟩ := hc
  rw [keep_mk (of_decide_eq_true hn)]
  have e := runs10 r l h4 l.length 0 0 (by omega) (Int.le_refl _) (by rw [List.drop_zero]; omega) h5
  rw [List.drop_zero, Int.zero_add] at e
  have es : mk 53 ((EC.lv 0).map fun i => (i, getS (keep (EC.lv 0) st) i)) = st10 r 0 l l.length (0 : Nat) := by
    show mk 53 [(1, getS (keep (EC.lv 0) st) 1), (4, getS (keep (EC.lv 0) st) 4), (32, getS (keep (EC.lv 0) st) 32), (33, getS (keep (EC.lv 0) st) 33), (34, getS (keep (EC.lv 0) st) 34)] = _
    rw [e0, e1, e2, e3, e4, h1, h2, h3]
    rfl
  rw [es]
  exact ⟨_, _, e, h⟩
theorem e10 (a b c d : Int) : evalF EC Try.f10 [q4 a b c d] = ob true := by
  rw [t10]
  have hl := tiles_len (a, b, c, d)
  rw [decide_eq_false (by omega)]
  rcases tiles_cover (a, b, c, d) with ⟨h1, h2⟩ | ⟨h1, h2, h3, h4⟩
  · rw [h1]
    rcases h2 with h2 | h2 | h2
    · rw [h2]; rfl
    · rw [decide_eq_true (show c > 100 from h2)]; cases empty (a, b, c, d) <;> rfl
    · rw [decide_eq_true (show d > 100 from h2)]; cases empty (a, b, c, d) <;> cases decide (c > 100) <;> rfl
  · have hp := List.length_pos_iff.mpr h1
    have hne : (((tiles (a, b, c, d)).length : Int) == 0) = false := by rw [beq_eq_false_iff_ne]; omega
    rw [hne, okT, h3, h2, decide_eq_true h4, decide_eq_true hl]
    simp
theorem g10 : ∀ f, Meets Try.prog f (EC.sp f) := specs_cons m37 (specs_cons m12 (specs_cons m15 (specs_cons m34 (specs_cons m23 (specs_cons m19 specs_nil)))))
theorem m10 : Meets Try.prog 10 (sR fun _ => bw true) := mR (rdL (e := EC) rfl g10 (n := 10) (fn := Try.f10) (k := 1) (by kernel_rfl) (by kernel_rfl) (of_decide_eq_true (by kernel_rfl)) (show loopsOf Try.f10 = [(0, loopAt Try.f10 0)] by kernel_rfl) (fun p hp => by cases List.mem_singleton.mp hp; exact loop10)) e10
end Go.Proofs.Ythdndibmakfifaa.Ev
