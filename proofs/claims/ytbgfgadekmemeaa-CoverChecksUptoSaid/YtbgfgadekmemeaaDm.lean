/- That the law of checks of polygons answers true where the number of points is no more than a number can tell. Conditions: that number. Printed by gen.py of this session. -/
import Derived.Test.YtbgfgadekmemeaaDl
namespace Go.Proofs.Ytbgfgadekmemeaa.Ev
open Go.Proofs
set_option linter.unusedVariables false
set_option linter.unusedSimpArgs false
set_option maxRecDepth 100000
set_option maxHeartbeats 1000000

abbrev CkF := Ps → Int → Int
abbrev BxF := Ps → Q
def lp3 (tw tr : TwF) (st : St) (R : Type) (K : Ex → St → Option R) : Option R := req (decide (st.length = 37)) (gPl st 25 fun ps => gI st 26 fun n => gI st 27 fun i =>
  req (decide (n = ps.length ∧ i = 0) && shortPs ps && ps.all fun l => tw l == tr l) (K (.exit 0) (mk 37 [])))
def L3 (ck cr : CkF) (bx br : BxF) (tw tr : TwF) : List Entry := [(11, pT d0, sp d0 fun _ => bw true), (12, pCk, sp dPR fun a => iv (ck a.1 a.2)), (13, pCk, sp dPR fun a => iv (cr a.1 a.2)), (14, pBx, sp dPls fun a => qv (bx a)), (15, pBxR, sp dPls fun a => qv (br a)), (16, pTw, sp dPs fun l => iv (tw l)), (17, pTw, sp dPs fun l => iv (tr l))]
def E3 (ck cr : CkF) (bx br : BxF) (tw tr : TwF) : Env := { EG (L3 ck cr bx br tw tr) with lv := fun _ => [25, 26, 27], lx := fun _ => [], lp := fun _ => lp3 tw tr }
def st3 (ps : Ps) (n i : Int) : St := mk 37 [(25, plv ps), (26, iv n), (27, iv i)]
theorem b3 (ck cr : CkF) (bx br : BxF) (tw tr : TwF) (ps : Ps) (n i : Int) : evalCode (E3 ck cr bx br tw tr) (loopAt Try.f3 0) 0 (st3 ps n i) (kp (E3 ck cr bx br tw tr) 0) = bif decide (i < n) then bif decide (0 ≤ i) && decide (i < ps.length) then
      bif shortL (ps.getD i.toNat []) then bif shortL (ps.getD i.toNat []) then bif tw (ps.getD i.toNat []) != tr (ps.getD i.toNat []) then some (.ret, mk 37 []) else some (.normal, st3 ps n (W (i + 1))) else none else none else none
    else some (.exit 0, mk 37 []) := by kernel_rfl
theorem runs3 (ck cr : CkF) (bx br : BxF) (tw tr : TwF) (ps : Ps) (hs : shortPs ps = true) (ht : (ps.all fun l => tw l == tr l) = true) : ∀ (c i : Nat), i + c = ps.length →
    Runs (E3 ck cr bx br tw tr) 0 (loopAt Try.f3 0) (st3 ps ps.length i) (.exit 0) (mk 37 []) := by
  simp only [shortPs, Bool.and_eq_true, decide_eq_true_eq] at hs
  intro c
  induction c with
  | zero =>
    intro i hi
    refine .stop ?_ (by simp)
    rw [b3, decide_eq_false (by omega)]
    rfl
  | succ c ih =>
    intro i hi
    have h1 : i < ps.length := by omega
    have h2 : shortL ps[i] = true := List.all_eq_true.1 hs.2 _ (List.getElem_mem h1)
    have h3 := List.all_eq_true.1 ht _ (List.getElem_mem h1)
    have hbd := b3 ck cr bx br tw tr ps ps.length i
    rw [decide_eq_true (by omega : (i : Int) < ps.length), decide_eq_true (by omega : (0 : Int) ≤ i), Int.toNat_natCast, getL_at h1, h2, eq_of_beq h3, bne_self_eq_false, W_small (n := (i : Int) + 1) (by omega) (by omega)] at hbd
    exact .step hbd (ih (i + 1) (by omega))
theorem loop3 (ck cr : CkF) (bx br : BxF) (tw tr : TwF) : LoopOk (E3 ck cr bx br tw tr) 0 (loopAt Try.f3 0) := by
  intro st R K z h
  obtain ⟨hn, h⟩ := req_some h
  obtain ⟨ps, e0, h⟩ := gPl_some h
  obtain ⟨n, e1, h⟩ := gI_some h
  obtain ⟨i, e2, h⟩ := gI_some h
  obtain ⟨hc, h⟩ := req_some h
  simp only [Bool.and_eq_true, decide_eq_true_eq] at hc
  obtain ⟨⟨⟨h1, h2⟩, h3⟩, h4⟩ := hc
  rw [keep_mk (of_decide_eq_true hn)]
  have e := runs3 ck cr bx br tw tr ps h3 h4 ps.length 0 (by omega)
  have es : mk 37 (((E3 ck cr bx br tw tr).lv 0).map fun i => (i, getS (keep ((E3 ck cr bx br tw tr).lv 0) st) i)) = st3 ps ps.length (0 : Nat) := by
    show mk 37 [(25, getS (keep ((E3 ck cr bx br tw tr).lv 0) st) 25), (26, getS (keep ((E3 ck cr bx br tw tr).lv 0) st) 26), (27, getS (keep ((E3 ck cr bx br tw tr).lv 0) st) 27)] = _
    rw [e0, e1, e2, h1, h2]
    rfl
  rw [es]
  exact ⟨_, _, e, h⟩
def q4e (a b : Q) : Bool := (a.1 == b.1) && ((a.2.1 == b.2.1) && ((a.2.2.1 == b.2.2.1) && ((a.2.2.2 == b.2.2.2) && true)))
def gBxR {R : Type} (l : Ps) (K : Option R) : Option R := bif shortPs l && decide (totN l < 9223372036854775808) then K else none
theorem t3 (ck cr : CkF) (bx br : BxF) (tw tr : TwF) (ps : Ps) (rule : Int) : evalF (E3 ck cr bx br tw tr) Try.f3 (nPR (ps, rule)) = gSp ps (gSp ps (bif ck ps rule != cr ps rule then ob false else gSp ps (gBxR ps (bif !q4e (bx ps) (br ps) then ob false else
    bif decide ((ps.length : Int) = ps.length ∧ (0 : Int) = 0) && shortPs ps && (ps.all fun l => tw l == tr l) then ob true else none)))) := by kernel_rfl
theorem m3 : Meets Try.prog 3 (gate (ps dPR fun a => okSz a.1) (sp dPR fun _ => bw true)) := mG (rdL (e := E3 chkC chkR boxP boxP twice twice) rfl (eg_cons mAw (eg_cons m88 (eg_cons m91 (eg_cons mBx (eg_cons mBxR (eg_cons mTw (eg_cons mRT eg_nil))))))) (fn := Try.f3) (k := 2) (by kernel_rfl) (by kernel_rfl) (of_decide_eq_true (by kernel_rfl)) (show loopsOf Try.f3 = [(0, loopAt Try.f3 0)] by kernel_rfl)
    (fun p hp => by cases List.mem_singleton.mp hp; exact loop3 chkC chkR boxP boxP twice twice)) (fun _ _ => hPR) (fun _ => ⟨rfl, Nat.le_refl _⟩)
  fun ⟨p, rule⟩ hp => by
    have hp : okSz p = true := hp
    simp only [okSz, Bool.and_eq_true, decide_eq_true_eq] at hp
    refine (t3 chkC chkR boxP boxP twice twice p rule).trans ?_
    have ht : (p.all fun l => twice l == twice l) = true := List.all_eq_true.2 fun l _ => beq_self_eq_true _
    unfold gSp gBxR q4e
    rw [← chk_eq (by omega) rule, hp.1, bne_self_eq_false, decide_eq_true (by omega : totN p < 9223372036854775808), beq_self_eq_true, beq_self_eq_true, beq_self_eq_true, beq_self_eq_true, ht, decide_eq_true (⟨rfl, rfl⟩ : (p.length : Int) = p.length ∧ (0 : Int) = 0)]
    rfl
theorem hS3 {l : Ps} {rule : Int} (h1 : l.length < 4611686018427387904 ∧ (l.all fun x => decide (x.length < 4611686018427387904)) = true) (h2 : totN l < 4611686018427387904) : (gate (ps dPR fun a => okSz a.1) (sp dPR fun _ => bw true)) [plv l, iv rule] = some (bw true, []) := by
  show (bif okSz l then some (bw true, []) else none) = _
  have : okSz l = true := by
    unfold okSz shortPs
    rw [h1.2, decide_eq_true h1.1, decide_eq_true h2]; rfl
  rw [this]; rfl
end Go.Proofs.Ytbgfgadekmemeaa.Ev

