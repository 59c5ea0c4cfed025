/- The table of types of this program, and that it is so. Conditions: none. -/
import Derived.Test.YtbgfgadekmemeaaFr
import Derived.Test.YtbgfgadekmemeaaProg
import Derived.KernelRfl
namespace Go.Proofs.Ytbgfgadekmemeaa.Ev
open Go.Proofs

def z0 : Sc := .int .i64 0
def tyTab : List (TypeId × TK) :=
  [(3, .int .i64), (4, .bool), (5, .int .u8), (59, .int .i8), (49, .int .u16), (32, .sl 3 .int), (34, .st [z0, z0, .sl (some 3) (.ints [])]), (27, .st [z0, z0, z0, z0]), (24, .int .i64), (29, .sl 48 .pt), (41, .sl 40 .quad),
   (43, .st [z0, z0, .sl (some 40) (.quads [])]), (40, .st [z0, z0, z0, z0]), (22, .sl 29 .pts), (48, .st [z0, z0])]
def T : TypeId → TK := tabOf tyTab
theorem tab_all : tyTab.all (fun p => tyB Try.prog p.1 p.2) = true := by kernel_rfl
theorem hT : ∀ t, TyOk Try.prog t (T t) := tab_ok tab_all
theorem hM : Try.prog.follows .mixedOrders = true := by kernel_rfl
/-- The surroundings of a function: its callees' contracts, its loops' slots. -/
def E (l : List (FuncId × Spec)) : Env := { T := T, σ := specsOf l, made := [], fz := [], lv := fun _ => [], lx := fun _ => [], lp := fun _ _ _ _ => none }
abbrev Q := Int × Int × Int × Int
abbrev Pt := Int × Int
/-- A mask: its sides, its values. -/
abbrev Mk := Int × Int × List Int
/-- An image: its sides, its pixels. -/
abbrev Im := Int × Int × List Q
@[reducible] def iv (n : Int) : AV := .rv (.sc (.int .i64 n))
@[reducible] def qv (r : Q) : AV := .rv (.agg [.int .i64 r.1, .int .i64 r.2.1, .int .i64 r.2.2.1, .int .i64 r.2.2.2])
@[reducible] def pv (p : Pt) : AV := .rv (.agg [.int .i64 p.1, .int .i64 p.2])
@[reducible] def mv (m : Mk) : AV := .rv (.agg [.int .i64 m.1, .int .i64 m.2.1, .sl none (.ints m.2.2)])
@[reducible] def imv (m : Im) : AV := .rv (.agg [.int .i64 m.1, .int .i64 m.2.1, .sl none (.quads m.2.2)])
@[reducible] def isv (l : List Int) : AV := .rv (.sc (.sl none (.ints l)))
@[reducible] def psv (l : List Pt) : AV := .rv (.sc (.sl none (.pts l)))
@[reducible] def fv (F : List Value → Option Value) : AV := .rv (.sc (.fn F))
/-- A mask and an error. -/
@[reducible] def mev (x : Mk × Int) : AV := .tup [.agg [.int .i64 x.1.1, .int .i64 x.1.2.1, .sl none (.ints x.1.2.2)], .sc (.int .i64 x.2)]
@[reducible] def iev (x : Im × Int) : AV := .tup [.agg [.int .i64 x.1.1, .int .i64 x.1.2.1, .sl none (.quads x.1.2.2)], .sc (.int .i64 x.2)]
@[reducible] def q4 (a b c d : Int) : AV := .rv (.agg [.int .i64 a, .int .i64 b, .int .i64 c, .int .i64 d])
@[reducible] def p2 (a b : Int) : AV := .rv (.agg [.int .i64 a, .int .i64 b])
@[reducible] def mk3 (w h : Int) (l : List Int) : AV := .rv (.agg [.int .i64 w, .int .i64 h, .sl none (.ints l)])
@[reducible] def im3 (w h : Int) (l : List Q) : AV := .rv (.agg [.int .i64 w, .int .i64 h, .sl none (.quads l)])
end Go.Proofs.Ytbgfgadekmemeaa.Ev
