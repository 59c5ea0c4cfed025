/- What the reference's functions and the lists of this program's functions are, in plain words. Conditions: none; definitions only. -/
import Derived.Test.YthdndibmakfifaaRb
namespace Go.Proofs.Ythdndibmakfifaa.Ev
open Go.Proofs
set_option linter.unusedVariables false

def rlo (r : Q) (n : Int) : Int := if empty r = true then 0 else if n = 0 then r.1 else r.2.1
def rhi (r : Q) (n : Int) : Int := if empty r = true then -1 else if n = 0 then r.1 + r.2.2.1 - 1 else r.2.1 + r.2.2.2 - 1
@[reducible] def tv (a b : Int) : AV := .tup [.sc (.int .i64 a), .sc (.int .i64 b)]
/-- The rectangle of first and last coordinates; its sides may be wrapped round. -/
def ofQ (x0 x1 y0 y1 : Int) : Q := if x1 < x0 ∨ y1 < y0 then (0, 0, 0, 0) else (x0, y0, IntKind.i64.wrap (IntKind.i64.wrap (x1 - x0) + 1), IntKind.i64.wrap (IntKind.i64.wrap (y1 - y0) + 1))
def lim3 (n : Int) : Int := mn (mx n (-3145728)) 3145728
def worldR (x0 x1 y0 y1 : Int) : Q := ofQ (mx x0 (-1048576)) (mn x1 1048575) (mx y0 (-1048576)) (mn y1 1048575)
def tileR (x : Int) : Int := IntKind.i64.wrap (IntKind.i64.wrap (Int.tdiv (IntKind.i64.wrap (x + 1048576)) 16) - 65536)
def zq (r : Q) : Bool := r.1 == 0 && (r.2.1 == 0 && (r.2.2.1 == 0 && (r.2.2.2 == 0 && true)))
/-- The rectangles of a list that are not the zero one. -/
def nz : List Q → List Q
  | [] => []
  | r :: l => if zq r = true then nz l else r :: nz l
/-- The four parts of a around m. -/
def parts (a m : Q) : List Q := [between a.1 a.2.1 (a.1 + a.2.2.1) m.2.1, between a.1 m.2.1 m.1 (m.2.1 + m.2.2.2),
  between (m.1 + m.2.2.1) m.2.1 (a.1 + a.2.2.1) (m.2.1 + m.2.2.2), between a.1 (m.2.1 + m.2.2.2) (a.1 + a.2.2.1) (a.2.1 + a.2.2.2)]
def minus (a b : Q) : List Q := if empty a = true then [] else if empty (meetR a b) = true then [a] else nz (parts a (meetR a b))
def row (y : Int) (x0 : Int) : Nat → List Pt
  | 0 => []
  | k + 1 => (x0, y) :: row y (x0 + 1) k
def rows (x0 : Int) (w : Nat) (y : Int) : Nat → List Pt
  | 0 => []
  | k + 1 => row y x0 w ++ rows x0 w (y + 1) k
def tiles (r : Q) : List Pt := if empty r = true then [] else
  let x0 := r.1 / 16; let x1 := (r.1 + r.2.2.1 - 1) / 16; let y0 := r.2.1 / 16; let y1 := (r.2.1 + r.2.2.2 - 1) / 16
  if (x1 - x0 + 1) * (y1 - y0 + 1) > 4096 then [] else rows x0 (x1 - x0 + 1).toNat y0 (y1 - y0 + 1).toNat
def sameQ : List Q → List Q → Bool
  | [], [] => true
  | a :: l, b :: m => decide (a = b) && sameQ l m
  | _, _ => false
def sameP : List Pt → List Pt → Bool
  | [], [] => true
  | a :: l, b :: m => decide (a = b) && sameP l m
  | _, _ => false
/-! The functions' contracts, layer by layer: a function of a layer calls those of the layers ahead of it. -/
def L0 : List (FuncId × Spec) := []
def L1 : List (FuncId × Spec) := (39, sII fun a b => bw (spn a b)) :: (14, sR fun r => bw (valid r)) :: (44, sIIII fun a b c d => qv (between a b c d)) :: (43, sIIII fun a b c d => qv (ofQ a b c d)) :: (45, sI fun n => iv (limit n)) :: (46, s0 (qv worldQ)) :: (48, sI fun n => iv (lim3 n)) :: (49, sI fun n => iv (tileR n)) :: (34, sP fun r => qv (ofTile r)) :: (35, sP fun r => qv (ofTile r)) :: (31, sQQ fun l m => bw (sameQ l m)) :: (36, sPP fun l m => bw (sameP l m)) :: L0
def L2 : List (FuncId × Spec) := (13, sR fun r => bw (valid r)) :: L1
def L3 : List (FuncId × Spec) := (40, sR fun r => qv (known r)) :: (16, sR fun r => bw (empty r)) :: (41, sRI fun r n => tv (rlo r n) (rhi r n)) :: L2
def L4 : List (FuncId × Spec) := (15, sR fun r => bw (empty r)) :: (17, sRP fun r p => bw (has r p)) :: (19, sR fun r => iv (area r)) :: (18, sRP fun r p => bw (has r p)) :: (20, sR fun r => iv (area r)) :: (42, sRR fun a b => qv (meet a b)) :: (47, sIIII fun a b c d => qv (worldR a b c d)) :: L3
def L5 : List (FuncId × Spec) := (21, sRR fun a b => bw (within a b)) :: (22, sRR fun a b => bw (within a b)) :: (23, sRR fun a b => qv (meetR a b)) :: (24, sRR fun a b => qv (meetR a b)) :: (25, sRR fun a b => qv (join a b)) :: (26, sRR fun a b => qv (join a b)) :: (27, sRP fun r p => qv (move r p)) :: (28, sRP fun r p => qv (move r p)) :: (29, sRI fun r p => qv (grow r p)) :: (30, sRI fun r p => qv (grow r p)) :: L4
def L6 : List (FuncId × Spec) := (32, sRR fun a b => qsv (minus a b)) :: (33, sRR fun a b => qsv (minus a b)) :: (37, sR fun r => psv (tiles r)) :: (38, sR fun r => psv (tiles r)) :: L5
def L7 : List (FuncId × Spec) := (12, s0 (bw true)) :: L6
end Go.Proofs.Ythdndibmakfifaa.Ev
