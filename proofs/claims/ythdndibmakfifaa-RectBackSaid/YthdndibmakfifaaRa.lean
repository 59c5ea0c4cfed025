/- The table of types of this program, and that it is so. Conditions: none. -/
import Derived.Test.YthdndibmakfifaaFr
import Derived.Test.YthdndibmakfifaaProg
import Derived.KernelRfl
namespace Go.Proofs.Ythdndibmakfifaa.Ev
open Go.Proofs

def z0 : Sc := .int .i64 0
def tab : List (TypeId × TK) :=
  [(3, .int .i64), (4, .bool), (5, .int .u8), (22, .st [z0, z0, z0, z0]), (23, .st [z0, z0, z0, z0]), (24, .st [z0, z0]), (25, .st [z0, z0]), (36, .sl 23 .quad), (40, .sl 25 .pt)]
def T : TypeId → TK := tabOf tab
theorem tab_all : tab.all (fun p => tyB Try.prog p.1 p.2) = true := by kernel_rfl
theorem hT : ∀ t, TyOk Try.prog t (T t) := tab_ok tab_all
theorem hM : Try.prog.follows .mixedOrders = true := by kernel_rfl
/-- The surroundings of a function: its callees' contracts, its loops' slots. -/
def E (l : List (FuncId × Spec)) : Env := { T := T, σ := specsOf l, made := [], fz := [], lv := fun _ => [], lx := fun _ => [], lp := fun _ _ _ _ => none }
@[reducible] def q4 (a b c d : Int) : AV := .rv (.agg [.int .i64 a, .int .i64 b, .int .i64 c, .int .i64 d])
@[reducible] def p2 (a b : Int) : AV := .rv (.agg [.int .i64 a, .int .i64 b])
end Go.Proofs.Ythdndibmakfifaa.Ev
