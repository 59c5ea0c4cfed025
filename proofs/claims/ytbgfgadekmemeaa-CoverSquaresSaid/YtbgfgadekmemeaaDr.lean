/- That the law of parts of masks answers true: the walk. Conditions: none. -/
import Derived.Test.YtbgfgadekmemeaaDn
namespace Go.Proofs.Ytbgfgadekmemeaa.Ev
open Go.Proofs
set_option linter.unusedVariables false
set_option linter.unusedSimpArgs false
set_option maxRecDepth 100000
set_option maxHeartbeats 1000000

/-- Where a pixel of the part lies in the part's values and in the whole's. -/
def ixN (n : Mk) (y j : Int) : Int := W (W (y * n.1) + j)
def ixM (o r : Q) (m : Mk) (y j : Int) : Int := W (W (W (W (W (W (r.2.1 - o.2.1) + y) * m.1) + r.1) - o.1) + j)
def inL (l : List Int) (i : Int) : Bool := decide (0 ≤ i) && decide (i < l.length)
def okCell (o : Q) (m : Mk) (r : Q) (n : Mk) (y j : Int) : Bool := inL n.2.2 (ixN n y j) && inL m.2.2 (ixM o r m y j) && (n.2.2.getD (ixN n y j).toNat 0 == m.2.2.getD (ixM o r m y j).toNat 0)
def okRow (o : Q) (m : Mk) (r : Q) (n : Mk) (y : Int) : Bool := (List.range r.2.2.1.toNat).all fun j => okCell o m r n y j
def okPart (o : Q) (m : Mk) (r : Q) (n : Mk) : Bool := (List.range r.2.2.2.toNat).all fun i => okRow o m r n i
def lp9a (st : St) (R : Type) (K : Ex → St → Option R) : Option R := req (decide (st.length = 150)) (gQ st 6 fun o => gM st 9 fun m => gQ st 11 fun r => gM st 12 fun n => gI st 106 fun h => gI st 107 fun i =>
  req (decide (h = r.2.2.2 ∧ i = 0 ∧ r.2.2.1 ≤ 256 ∧ r.2.2.2 ≤ 256) && okPart o m r n) (K (.exit 0) (mk 150 [])))
def lp9b (st : St) (R : Type) (K : Ex → St → Option R) : Option R := req (decide (st.length = 150)) (gQ st 6 fun o => gM st 9 fun m => gQ st 11 fun r => gM st 12 fun n => gI st 13 fun y => gI st 106 fun h => gI st 107 fun i => gI st 111 fun w => gI st 112 fun j =>
  req (decide (w = r.2.2.1 ∧ j = 0 ∧ r.2.2.1 ≤ 256) && okRow o m r n y) (K (.exit 2) (mk 150 [(6, bQ o), (9, bM m), (11, bQ r), (12, bM n), (106, iv h), (107, iv i)])))
abbrev MeF := Q → Q → Q
abbrev WiF := Q → Q → Bool
def L9 (mk' : MkF) (sm : SmF) (me : MeF) (wi : WiF) : List Entry := [(11, pT d0, sp d0 fun _ => bw true), (18, pMk, sp dPRQ fun a => mev (mk' a.1 a.2.1 a.2.2)), (20, pSm, sp dMM fun a => bw (sm a.1 a.2)), (27, pT dQQ, sp dQQ fun a => qv (me a.1 a.2)), (24, pT dQ, sEy), (28, pT dQQ, sp dQQ fun a => bw (wi a.1 a.2))]
def E9 (mk' : MkF) (sm : SmF) (me : MeF) (wi : WiF) : Env := { EG (L9 mk' sm me wi) with lv := fun id => match id with | 0 => [6, 9, 11, 12, 106, 107] | _ => [6, 9, 11, 12, 13, 106, 107, 111, 112], lx := fun id => match id with | 0 => [] | _ => [6, 9, 11, 12, 106, 107], lp := fun id => match id with | 0 => lp9a | _ => lp9b }
def st9a (o : Q) (m : Mk) (r : Q) (n : Mk) (h i : Int) : St := mk 150 [(6, bQ o), (9, bM m), (11, bQ r), (12, bM n), (106, iv h), (107, iv i)]
def st9b (o : Q) (m : Mk) (r : Q) (n : Mk) (y h i w j : Int) : St := mk 150 [(6, bQ o), (9, bM m), (11, bQ r), (12, bM n), (13, iv y), (106, iv h), (107, iv i), (111, iv w), (112, iv j)]
theorem b9b (mk' : MkF) (sm : SmF) (me : MeF) (wi : WiF) (o : Q) (m : Mk) (r : Q) (n : Mk) (y h i w j : Int) : evalCode (E9 mk' sm me wi) (loopAt Try.f9 1) 2 (st9b o m r n y h i w j) (kp (E9 mk' sm me wi) 2) = bif decide (j < w) then
      bif inL n.2.2 (ixN n y j) then bif inL m.2.2 (ixM o r m y j) then bif n.2.2.getD (ixN n y j).toNat 0 != m.2.2.getD (ixM o r m y j).toNat 0 then some (.ret, mk 150 [(6, bQ o), (9, bM m), (11, bQ r), (12, bM n), (106, iv h), (107, iv i)]) else some (.normal, st9b o m r n y h i w (W (j + 1))) else none else none
    else some (.exit 2, mk 150 [(6, bQ o), (9, bM m), (11, bQ r), (12, bM n), (106, iv h), (107, iv i)]) := by kernel_rfl
theorem b9a (mk' : MkF) (sm : SmF) (me : MeF) (wi : WiF) (o : Q) (m : Mk) (r : Q) (n : Mk) (h i : Int) : evalCode (E9 mk' sm me wi) (loopAt Try.f9 0) 0 (st9a o m r n h i) (kp (E9 mk' sm me wi) 0) = bif decide (i < h) then
      bif decide (r.2.2.1 = r.2.2.1 ∧ (0 : Int) = 0 ∧ r.2.2.1 ≤ 256) && okRow o m r n i then some (.normal, st9a o m r n h (W (i + 1))) else none
    else some (.exit 0, mk 150 []) := by kernel_rfl
/-- What is asked of the whole's mask and the part's. -/
def tail9 (sm : SmF) (wi : WiF) (z r : Q) (m n : Mk) : Option (AV × List AV) := bif (m.2.2.length : Int) != W (m.1 * m.2.1) then ob false else bif (n.2.2.length : Int) != W (n.1 * n.2.1) then ob false else
    bif empty r then gLn n (ob (sm n (0, 0, []))) else bif n.1 != r.2.2.1 then ob false else bif n.2.1 != r.2.2.2 then ob false else bif m.1 != z.2.2.1 then ob false else bif m.2.1 != z.2.2.2 then ob false else bif !wi r z then ob false else
    bif decide (r.2.2.2 = r.2.2.2 ∧ (0 : Int) = 0 ∧ r.2.2.1 ≤ 256 ∧ r.2.2.2 ≤ 256) && okPart z m r n then ob true else none
def tree9 (mk' : MkF) (sm : SmF) (wi : WiF) (ps : Ps) (rule : Int) (z r : Q) : Option (AV × List AV) := gSp ps (bif (mk' ps rule z).2 != 0 then gLn (mk' ps rule z).1 (ob (sm (mk' ps rule z).1 (0, 0, []))) else gSp ps (bif (mk' ps rule r).2 != 0 then ob false else tail9 sm wi z r (mk' ps rule z).1 (mk' ps rule r).1))
theorem t9 (mk' : MkF) (sm : SmF) (me : MeF) (wi : WiF) (ps : Ps) (rule x y z t x' y' z' t' : Int) : evalF (E9 mk' sm me wi) Try.f9 [plv ps, iv rule, q4 x y z t, q4 x' y' z' t'] = tree9 mk' sm wi ps rule (x, y, z, t) (me (x, y, z, t) (x', y', z', t')) := by kernel_rfl
end Go.Proofs.Ytbgfgadekmemeaa.Ev
