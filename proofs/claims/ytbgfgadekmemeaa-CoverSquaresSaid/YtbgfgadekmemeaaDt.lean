/- That the law of squares answers true: the walk. Conditions: none. -/
import Derived.Test.YtbgfgadekmemeaaDs
namespace Go.Proofs.Ytbgfgadekmemeaa.Ev
open Go.Proofs
set_option linter.unusedVariables false
set_option linter.unusedSimpArgs false
set_option maxRecDepth 100000
set_option maxHeartbeats 1000000

def inL8 (l : List Int) (i : Int) : Bool := decide (0 ≤ i) && decide (i < l.length)
/-- How many samples of the sixteen from s on lie between p and q. -/
def clipW (p q s : Int) : Int := hi2 0 (W (lo2 (hi2 p q) (W (s + 16)) - hi2 (lo2 p q) s))
def areaW (a b c d X Y : Int) : Int := W (W (65535 * clipW a c (W (16 * X))) * clipW b d (W (16 * Y)))
def colW (o : Q) (m : Mk) (k : Int) : Int := W (o.1 + k.tmod m.1)
def rowW (o : Q) (m : Mk) (k : Int) : Int := W (o.2.1 + W (k.tdiv m.1))
def okDv8 (a : Int) : Bool := decide (0 ≤ a ∧ a ≤ 4503599627370496 ∧ (1 : Int) ≤ 256 ∧ (256 : Int) ≤ 1099511627776)
abbrev DvF := Int → Int → Int
abbrev HsF := Q → Pt → Bool
def okPix (dv : DvF) (hs : HsF) (o : Q) (a b c d : Int) (m : Mk) (bx : Q) (k : Int) : Bool := decide (m.1 ≠ 0) && okDv8 (areaW a b c d (colW o m k) (rowW o m k)) && (m.2.2.getD k.toNat 0 == dv (areaW a b c d (colW o m k) (rowW o m k)) 256) && (m.2.2.getD k.toNat 0 == 0 || hs bx (colW o m k, rowW o m k))
def okSq (dv : DvF) (hs : HsF) (o : Q) (a b c d : Int) (m : Mk) (bx : Q) : Bool := (List.range m.2.2.length).all fun k => okPix dv hs o a b c d m bx k
def lp8 (dv : DvF) (hs : HsF) (st : St) (R : Type) (K : Ex → St → Option R) : Option R := req (decide (st.length = 163)) (gQ st 9 fun o => gI st 11 fun a => gI st 12 fun b => gI st 13 fun c => gI st 14 fun d => gM st 16 fun m => gQ st 18 fun bx => gL st 92 fun vs => gI st 93 fun n => gI st 94 fun k =>
  req (decide (vs = m.2.2 ∧ n = vs.length ∧ k = 0 ∧ vs.length ≤ 65536) && okSq dv hs o a b c d m bx) (K (.exit 0) (mk 163 [])))
abbrev BxF := Ps → Q
def L8 (mk' : MkF) (sm : SmF) (bx : BxF) (dv : DvF) (hs : HsF) : List Entry := [(11, pT d0, sp d0 fun _ => bw true), (18, pMk, sp dPRQ fun a => mev (mk' a.1 a.2.1 a.2.2)), (20, pSm, sp dMM fun a => bw (sm a.1 a.2)), (14, pBx, sp dPls fun a => qv (bx a)), (24, pT dQ, sEy), (23, pT dI4, sSq), (25, pD, sp dII fun a => iv (dv a.1 a.2)), (26, pT dQP, sp dQP fun a => bw (hs a.1 a.2))]
def E8 (mk' : MkF) (sm : SmF) (bx : BxF) (dv : DvF) (hs : HsF) : Env := { EG (L8 mk' sm bx dv hs) with lv := fun _ => [9, 11, 12, 13, 14, 16, 18, 92, 93, 94], lx := fun _ => [], lp := fun _ => lp8 dv hs }
def st8 (o : Q) (a b c d : Int) (m : Mk) (bx : Q) (vs : List Int) (n k : Int) : St := mk 163 [(9, bQ o), (11, iv a), (12, iv b), (13, iv c), (14, iv d), (16, bM m), (18, bQ bx), (92, isv vs), (93, iv n), (94, iv k)]
theorem b8 (mk' : MkF) (sm : SmF) (bx' : BxF) (dv : DvF) (hs : HsF) (o : Q) (a b c d : Int) (m : Mk) (bx : Q) (vs : List Int) (n k : Int) : evalCode (E8 mk' sm bx' dv hs) (loopAt Try.f8 0) 0 (st8 o a b c d m bx vs n k) (kp (E8 mk' sm bx' dv hs) 0) = bif decide (k < n) then
      bif inL8 vs k then bif decide (m.1 = 0) then none else bif decide (m.1 = 0) then none else bif okDv8 (areaW a b c d (colW o m k) (rowW o m k)) then
      bif vs.getD k.toNat 0 != dv (areaW a b c d (colW o m k) (rowW o m k)) 256 then some (.ret, mk 163 []) else bif vs.getD k.toNat 0 != 0 then bif !hs bx (colW o m k, rowW o m k) then some (.ret, mk 163 []) else some (.normal, st8 o a b c d m bx vs n (W (k + 1))) else some (.normal, st8 o a b c d m bx vs n (W (k + 1)))
      else none else none
    else some (.exit 0, mk 163 []) := by kernel_rfl
@[reducible] def u8v (n : Int) : AV := .rv (.sc (.int .u8 n))
/-- What is asked of the mask. -/
def tree8 (mk' : MkF) (sm : SmF) (bx : BxF) (dv : DvF) (hs : HsF) (a b c d : Int) (o : Q) : Option (AV × List AV) := bif (mk' [sqr a b c d] 0 o).2 != 0 then gLn (mk' [sqr a b c d] 0 o).1 (ob (sm (mk' [sqr a b c d] 0 o).1 (0, 0, []))) else
    bif empty o then gLn (mk' [sqr a b c d] 0 o).1 (ob (sm (mk' [sqr a b c d] 0 o).1 (0, 0, []))) else
    bif (mk' [sqr a b c d] 0 o).1.1 != o.2.2.1 then ob false else bif (mk' [sqr a b c d] 0 o).1.2.1 != o.2.2.2 then ob false else bif ((mk' [sqr a b c d] 0 o).1.2.2.length : Int) != W ((mk' [sqr a b c d] 0 o).1.1 * (mk' [sqr a b c d] 0 o).1.2.1) then ob false else
    bif decide ((mk' [sqr a b c d] 0 o).1.2.2 = (mk' [sqr a b c d] 0 o).1.2.2 ∧ ((mk' [sqr a b c d] 0 o).1.2.2.length : Int) = (mk' [sqr a b c d] 0 o).1.2.2.length ∧ (0 : Int) = 0 ∧ (mk' [sqr a b c d] 0 o).1.2.2.length ≤ 65536) && okSq dv hs o a b c d (mk' [sqr a b c d] 0 o).1 (bx [sqr a b c d]) then ob true else none
theorem t8 (mk' : MkF) (sm : SmF) (bx : BxF) (dv : DvF) (hs : HsF) (x0 y0 x1 y1 x y z t : Int) : evalF (E8 mk' sm bx dv hs) Try.f8 [u8v x0, u8v y0, u8v x1, u8v y1, q4 x y z t] = tree8 mk' sm bx dv hs ((W x0).tmod 200) ((W y0).tmod 200) ((W x1).tmod 200) ((W y1).tmod 200) (x, y, z, t) := by kernel_rfl
end Go.Proofs.Ytbgfgadekmemeaa.Ev
