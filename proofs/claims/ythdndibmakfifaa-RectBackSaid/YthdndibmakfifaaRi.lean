/- What the loops of Minus and Tiles come to, told ahead. Conditions: none; definitions only. -/
import Derived.Test.YthdndibmakfifaaRg
namespace Go.Proofs.Ythdndibmakfifaa.Ev
open Go.Proofs
set_option linter.unusedVariables false

def ne : List Q → List Q
  | [] => []
  | r :: l => if empty r = true then ne l else r :: ne l
def lp32 (st : St) (R : Type) (K : Ex → St → Option R) : Option R := req (decide (st.length = 89)) (gQo st 8 fun acc => gQo st 74 fun l => gI st 75 fun n => gI st 76 fun i =>
  req (decide (n = l.length) && decide (acc.length + l.length ≤ 100000) && decide (0 ≤ i) && decide (i ≤ n)) (K (.exit 0) (mk 89 [(8, qso (acc ++ nz (l.drop i.toNat)))])))
def lp33 (st : St) (R : Type) (K : Ex → St → Option R) : Option R := req (decide (st.length = 91)) (gQo st 14 fun l => gQo st 15 fun acc => gI st 16 fun i =>
  req (decide (acc.length + l.length ≤ 100000) && decide (0 ≤ i) && decide (i ≤ l.length)) (K (.exit 0) (mk 91 [(15, qso (acc ++ ne (l.drop i.toNat)))])))
def E32 : Env := { E L5 with lv := fun _ => [8, 74, 75, 76], lx := fun _ => [8], lp := fun _ => lp32 }
def E33 : Env := { E L5 with lv := fun _ => [14, 15, 16], lx := fun _ => [15], lp := fun _ => lp33 }
def lp37o (st : St) (R : Type) (K : Ex → St → Option R) : Option R := req (decide (st.length = 61)) (gI st 3 fun x0 => gI st 4 fun x1 => gI st 6 fun y1 => gPo st 7 fun l => gI st 8 fun y =>
  req (decide (-1000000000 ≤ x0) && decide (x0 ≤ x1) && decide (x1 ≤ 1000000000) && decide (-1000000000 ≤ y) && decide (y ≤ y1 + 1) && decide (y1 ≤ 1000000000) && decide (((l.length : Int) + (x1 - x0 + 1) * (y1 - y + 1)) ≤ 100000))
    (K (.exit 0) (mk 61 [(7, pso (l ++ rows x0 (x1 - x0 + 1).toNat y (y1 - y + 1).toNat))])))
def lp37i (st : St) (R : Type) (K : Ex → St → Option R) : Option R := req (decide (st.length = 61)) (gI st 3 fun x0 => gI st 4 fun x1 => gI st 6 fun y1 => gPo st 7 fun l => gI st 8 fun y => gI st 9 fun x =>
  req (decide (-1000000000 ≤ x) && decide (x ≤ x1 + 1) && decide (x1 ≤ 1000000000) && decide (((l.length : Int) + (x1 - x + 1)) ≤ 100000))
    (K (.exit 2) (mk 61 [(3, iv x0), (4, iv x1), (6, iv y1), (7, pso (l ++ row y x (x1 - x + 1).toNat)), (8, iv y)])))
def E37 : Env := { E L5 with lv := fun id => match id with | 0 => [3, 4, 6, 7, 8] | _ => [3, 4, 6, 7, 8, 9], lx := fun id => match id with | 0 => [7] | _ => [3, 4, 6, 7, 8], lp := fun id => match id with | 0 => lp37o | _ => lp37i }
def lp38o (st : St) (R : Type) (K : Ex → St → Option R) : Option R := req (decide (st.length = 59)) (gI st 3 fun x0 => gI st 4 fun x1 => gI st 6 fun y1 => gPo st 7 fun l => gI st 8 fun y =>
  req (decide (-1000000000 ≤ tileR x0) && decide (tileR x0 ≤ tileR x1) && decide (tileR x1 ≤ 1000000000) && decide (-1000000000 ≤ y) && decide (y ≤ tileR y1 + 1) && decide (tileR y1 ≤ 1000000000) && decide (((l.length : Int) + (tileR x1 - tileR x0 + 1) * (tileR y1 - y + 1)) ≤ 100000))
    (K (.exit 0) (mk 59 [(7, pso (l ++ rows (tileR x0) (tileR x1 - tileR x0 + 1).toNat y (tileR y1 - y + 1).toNat))])))
def lp38i (st : St) (R : Type) (K : Ex → St → Option R) : Option R := req (decide (st.length = 59)) (gI st 3 fun x0 => gI st 4 fun x1 => gI st 6 fun y1 => gPo st 7 fun l => gI st 8 fun y => gI st 9 fun x =>
  req (decide (-1000000000 ≤ x) && decide (x ≤ tileR x1 + 1) && decide (tileR x1 ≤ 1000000000) && decide (((l.length : Int) + (tileR x1 - x + 1)) ≤ 100000))
    (K (.exit 2) (mk 59 [(3, iv x0), (4, iv x1), (6, iv y1), (7, pso (l ++ row y x (tileR x1 - x + 1).toNat)), (8, iv y)])))
def E38 : Env := { E L5 with lv := fun id => match id with | 0 => [3, 4, 6, 7, 8] | _ => [3, 4, 6, 7, 8, 9], lx := fun id => match id with | 0 => [7] | _ => [3, 4, 6, 7, 8], lp := fun id => match id with | 0 => lp38o | _ => lp38i }
end Go.Proofs.Ythdndibmakfifaa.Ev
