/- The evaluator: abstract values of the machine's slots, and what each operation of the model's code does to them. Conditions: none; definitions only. -/
import Derived.Calls
namespace Go.Proofs.Ytbgfgadekmemeaa.Ev
set_option linter.unusedVariables false

/-- The content of a slice. -/
inductive Arr where
  | ints (xs : List Int)
  | pts (xs : List (Int × Int))
  | quads (xs : List (Int × Int × Int × Int))
  | polys (xs : List (List (Int × Int)))

/-- A value of one cell. -/
inductive Sc where
  | int (k : IntKind) (n : Int)
  | bool (b : Bool)
  | nil
  | sl (own : Option TypeId) (a : Arr)   -- 'some e': the slice, of elements of type e, may be appended to
  | fn (F : List Value → Option Value)
  | fnc (f : FuncId)   -- a function without captured variables
  | nofn
  | ln (n : Nat)   -- a slice of which the length alone is known

/-- A value: one cell or a struct. -/
inductive RV where
  | sc (s : Sc)
  | agg (l : List Sc)

/-- How a value leads to a table of integers: it is the slice; it points at the table; it points at a cell that holds the slice. -/
inductive TM where
  | sl | ptr (t : TypeId) | box
  deriving DecidableEq

/-- How a value hangs on the slot that it names. -/
inductive AL where
  | same   -- it is the same value
  | cell   -- it points at a cell that holds the same value
  | cont   -- it is what the cell holds at which the slot points
  | el (m : TM) (i : Nat)   -- it points at an entry of the slot's table
  | clo (m : TM) (p : Nat) (F : List Value → List Int → Option (List Int))   -- a closure that captures the slot's value, and what a call of it does to the table

/-- What a slot holds. -/
inductive AV where
  | unk
  | skip
  | rv (r : RV)
  | tup (l : List RV)
  | box (t : TypeId) (l : List Sc)
  | cbox (t : TypeId) (l : List Sc)
  | ref (s off : Nat)
  | eref (l : List Sc)
  | ms (xs : List Int)
  | tb (xs : List Int)   -- a box that holds a made slice
  | cms (m : TM) (p : Nat) (F : List Value → List Int → Option (List Int)) (xs : List Int)   -- a closure with its table
  | al (s : Nat) (k : AL)

abbrev St := List AV

/-- The slot that a value names. -/
def AV.on : AV → Option Nat
  | .ref s _ => some s
  | .al s _ => some s
  | _ => none
/-- Does it stay beyond its region? -/
def AV.pinned : AV → Bool
  | .al _ .cell => true
  | _ => false

/-! Tables of integers that may be written. -/
def tab : AV → Option (List Int)
  | .ms xs => some xs
  | .tb xs => some xs
  | .cms _ _ _ xs => some xs
  | .box _ [.int .i64 n] => some [n]
  | _ => none
def setTab (ys : List Int) : AV → AV
  | .ms _ => .ms ys
  | .tb _ => .tb ys
  | .cms m p F _ => .cms m p F ys
  | .box t _ => .box t (ys.map (.int .i64))
  | x => x
def tmOf : AV → Option (TM × List Int)
  | .ms xs => some (.sl, xs)
  | .tb xs => some (.box, xs)
  | .box t [.int .i64 n] => some (.ptr t, [n])
  | _ => none
/-- What a function is given that gets a value with its table. -/
def argT (k : AL) (z : AV) : Option AV :=
  match k, tmOf z with
  | .same, some (.sl, xs) => some (.ms xs)
  | .clo m p F, some (m', xs) => if m' = m then some (.cms m p F xs) else none
  | _, _ => none

/-- The kinds of elements of slices. -/
inductive EK where
  | int | pt | quad | pts
  deriving DecidableEq

/-- What is known of a type. -/
inductive TK where
  | int (k : IntKind)
  | bool
  | st (zs : List Sc)
  | sl (e : TypeId) (ek : EK)
  | fn
  | other

/-- What a function answers: the result, and what becomes of the arguments. -/
abbrev Spec := List AV → Option (AV × List AV)
abbrev Specs := FuncId → Spec

@[reducible] def iw (k : IntKind) (n : Int) : AV := .rv (.sc (.int k n))
@[reducible] def bw (b : Bool) : AV := .rv (.sc (.bool b))

def EK.empty : EK → Arr
  | .int => .ints [] | .pt => .pts [] | .quad => .quads [] | .pts => .polys []
def EK.size : EK → Nat
  | .int => 1 | .pt => 2 | .quad => 4 | .pts => 1
def EK.bytes : EK → Nat
  | .int => 8 | .pt => 16 | .quad => 32 | .pts => 24
def Arr.kind : Arr → EK
  | .ints _ => .int | .pts _ => .pt | .quads _ => .quad | .polys _ => .pts
def Arr.len : Arr → Nat
  | .ints xs => xs.length | .pts xs => xs.length | .quads xs => xs.length | .polys xs => xs.length
def Arr.app : Arr → Arr → Option Arr
  | .ints xs, .ints ys => some (.ints (xs ++ ys))
  | .pts xs, .pts ys => some (.pts (xs ++ ys))
  | .quads xs, .quads ys => some (.quads (xs ++ ys))
  | .polys xs, .polys ys => some (.polys (xs ++ ys))
  | _, _ => none
def Arr.sub (lo hi : Nat) : Arr → Arr
  | .ints xs => .ints ((xs.drop lo).take (hi - lo))
  | .pts xs => .pts ((xs.drop lo).take (hi - lo))
  | .quads xs => .quads ((xs.drop lo).take (hi - lo))
  | .polys xs => .polys ((xs.drop lo).take (hi - lo))
/-- The cells of an element. -/
def Arr.at (i : Nat) : Arr → List Sc
  | .ints xs => [.int .i64 (xs.getD i 0)]
  | .pts xs => let p := xs.getD i (0, 0); [.int .i64 p.1, .int .i64 p.2]
  | .quads xs => let p := xs.getD i (0, 0, 0, 0); [.int .i64 p.1, .int .i64 p.2.1, .int .i64 p.2.2.1, .int .i64 p.2.2.2]
  | .polys xs => [.sl none (.pts (xs.getD i []))]

def Sc.ro : Sc → Sc
  | .sl _ a => .sl none a
  | s => s
def Sc.isOwn : Sc → Bool
  | .sl (some _) _ => true
  | .nil => false
  | _ => false
def Sc.isInt : Sc → Bool
  | .int _ _ => true
  | _ => false
def RV.ro : RV → RV
  | .sc s => .sc s.ro
  | .agg l => .agg (l.map Sc.ro)
def RV.isOwn : RV → Bool
  | .sc s => s.isOwn
  | .agg l => l.any Sc.isOwn
def RV.cells : RV → List Sc
  | .sc s => [s]
  | .agg l => l

/-- A constant. -/
def constSc (ty : TK) : Value → Option Sc
  | .int k n => some (.int k n)
  | .bool b => some (.bool b)
  | .slice none 0 0 => match ty with
    | .sl e ek => some (.sl (some e) ek.empty)
    | _ => some .nil
  | _ => none

/-- First-order values, for closures. -/
def ofV : Value → Option RV
  | .int k n => some (.sc (.int k n))
  | .bool b => some (.sc (.bool b))
  | _ => none
def toV : RV → Option Value
  | .sc (.int k n) => some (.int k n)
  | .sc (.bool b) => some (.bool b)
  | _ => none

def ofVs : List Value → Option (List AV)
  | [] => some []
  | v :: vs => match ofV v, ofVs vs with
    | some r, some l => some (.rv r :: l)
    | _, _ => none

structure Ctx where
  T : TypeId → TK
  σ : Specs
  ψ : FuncId → List AV → Bool
  X : List Nat        -- slots that addresses may point into
  tk : List Nat       -- slots that take an own slice with them
  fz : List Nat       -- slots whose filling freezes a made slice
  made : List Nat     -- slots of made slices
  fx : List Nat       -- slots of tables that the caller gave

/-- A contract with what it asks for. -/
def Ctx.sp (c : Ctx) (f : FuncId) : Spec := fun us => bif c.ψ f us then c.σ f us else none

section
variable (c : Ctx) (g : Nat → AV)

/-- An operand's value, read only. -/
def opr (ty : TK) : Operand → Option RV
  | .tmp t => match g t with
    | .rv r => some r.ro
    | _ => none
  | .const v => match constSc ty v with
    | some s => some (.sc s.ro)
    | none => none
  | _ => none

def oprs (ty : TK) : List Operand → Option (List RV)
  | [] => some []
  | x :: xs => match opr g ty x, oprs ty xs with
    | some r, some l => some (r :: l)
    | _, _ => none

def opInt (x : Operand) : Option (IntKind × Int) :=
  match opr g .other x with
  | some (.sc (.int k n)) => some (k, n)
  | _ => none
def opBool (x : Operand) : Option Bool :=
  match opr g .other x with
  | some (.sc (.bool b)) => some b
  | _ => none

/-- An argument of a call. -/
def arg (ty : TK) : Operand → Option AV
  | .tmp t => match g t with
    | .rv r => some (.rv r.ro)
    | .al s k => argT k (g s)
    | _ => none
  | x => match opr g ty x with
    | some r => some (.rv r)
    | none => none
def args (T : TypeId → TK) : List Operand → List TypeId → Option (List AV)
  | [], _ => some []
  | x :: xs, t :: ts => match arg g (T t) x, args T xs ts with
    | some a, some l => some (a :: l)
    | _, _ => none
  | _ :: _, [] => none

/-- What is written back to the slots of made slices behind a call. -/
def backs : List Operand → List AV → List (Nat × AV)
  | .tmp t :: xs, fin => match g t with
    | .al s _ => (s, match tab (fin.headD .unk) with
      | some ys => setTab ys (g s)
      | none => .unk) :: backs xs fin.tail
    | _ => backs xs fin.tail
  | _ :: xs, fin => backs xs fin.tail
  | [], _ => []

def intOp (op : BinOp) (k : IntKind) (x y : Int) {R : Type} (K : Sc → Option R) : Option R :=
  match op with
  | .add => K (.int k (k.wrap (x + y)))
  | .sub => K (.int k (k.wrap (x - y)))
  | .mul => K (.int k (k.wrap (x * y)))
  | .quo => bif decide (y = 0) then none else K (.int k (k.wrap (x.tdiv y)))
  | .rem => bif decide (y = 0) then none else K (.int k (x.tmod y))
  | .and => K (.int k (k.wrap (BitVec.ofInt k.bits x &&& BitVec.ofInt k.bits y).toNat))
  | .eql => K (.bool (x == y))
  | .neq => K (.bool (x != y))
  | .lss => K (.bool (decide (x < y)))
  | .leq => K (.bool (decide (x ≤ y)))
  | .gtr => K (.bool (decide (x > y)))
  | .geq => K (.bool (decide (x ≥ y)))
  | _ => none

def shOp (op : BinOp) (k : IntKind) (x y : Int) {R : Type} (K : Sc → Option R) : Option R :=
  bif decide (y < 0) then none else
  match op with
  | .shl => K (.int k (k.wrap (x * 2 ^ (min y.toNat k.bits))))
  | .shr => K (.int k (x.fdiv (2 ^ (min y.toNat k.bits))))
  | _ => none

/-- Are two rows of integers the same? -/
def sameInts : List Sc → List Sc → Option Bool
  | [], [] => some true
  | .int k a :: l, .int k' b :: m => if k = k' then
      match sameInts l m with
      | some r => some ((a == b) && r)
      | none => none
    else none
  | _, _ => none

def minInts (x : Int) : List RV → Option Int
  | [] => some x
  | .sc (.int .i64 y) :: l => minInts (if y < x then y else x) l
  | _ => none
def maxInts (x : Int) : List RV → Option Int
  | [] => some x
  | .sc (.int .i64 y) :: l => maxInts (if y > x then y else x) l
  | _ => none

def setParts (l : List Sc) : List (Nat × Operand) → Option (List Sc)
  | [] => some l
  | (i, x) :: ps => match opr g .other x with
    | some (.sc s) => if i < l.length then setParts (l.set i s) ps else none
    | _ => none

/-- An element out of its value. -/
def elemOf (ek : EK) : RV → Option Arr
  | .sc (.int .i64 n) => if ek = .int then some (.ints [n]) else none
  | .agg [.int .i64 a, .int .i64 b] => if ek = .pt then some (.pts [(a, b)]) else none
  | .agg [.int .i64 a, .int .i64 b, .int .i64 x, .int .i64 y] => if ek = .quad then some (.quads [(a, b, x, y)]) else none
  | .sc (.sl _ (.pts l)) => if ek = .pts then some (.polys [l]) else none
  | .sc .nil => if ek = .pts then some (.polys [[]]) else none
  | _ => none

def mkArr (ek : EK) (i : Nat) : List (Nat × Operand) → Option Arr
  | [] => some ek.empty
  | (j, x) :: ps => if j = i then
      match opr g .other x, mkArr ek (i + 1) ps with
      | some r, some a => match elemOf ek r with
        | some e => e.app a
        | none => none
      | _, _ => none
    else none

/-- The boxes that a closure takes. -/
def caps : List Operand → Option (List (Nat × AV))
  | [] => some []
  | .tmp t :: xs => match g t, caps xs with
    | .box ty l, some r => some ((t, .cbox ty (l.map Sc.ro)) :: r)
    | .cbox ty l, some r => some ((t, .cbox ty l) :: r)
    | _, _ => none
  | _ => none

def closure (f : FuncId) (cs : List AV) : List Value → Option Value := fun vs =>
  match ofVs vs with
  | some as => match c.sp f (as ++ cs) with
    | some (.rv r, _) => toV r
    | _ => none
  | none => none

/-! What a closure answers, cell by cell. -/
def okInt (k : IntKind) : Option Value → Bool
  | some (.int k' _) => decide (k' = k)
  | _ => false
def valInt : Option Value → Int
  | some (.int _ n) => n
  | _ => 0
def okBool : Option Value → Bool
  | some (.bool _) => true
  | _ => false
def valBool : Option Value → Bool
  | some (.bool b) => b
  | _ => false

/-- A copy into slot d. -/
def copy (take : Bool) (ty : TK) (d : Nat) (x : Operand) {R : Type} (K : List (Nat × AV) → Option R) : Option R :=
  match x with
  | .tmp s => if s = d then none else match g s with
    | .rv r => bif take && r.isOwn then K [(s, .rv r.ro), (d, .rv r)] else K [(d, .rv r.ro)]
    | .tup l => K [(d, .tup l)]
    | .ms xs => bif c.fz.contains d then K [(s, .rv (.sc (.sl none (.ints xs)))), (d, .rv (.sc (.sl none (.ints xs))))]
        else bif take && c.made.contains d then K [(s, .unk), (d, .ms xs)]
        else bif c.X.contains s then K [(d, .al s .same)] else none
    | .cms _ _ _ _ => bif c.X.contains s then K [(d, .al s .same)] else none
    | _ => none
  | .const v => match constSc ty v with
    | some s => K [(d, .rv (.sc s))]
    | none => none
  | _ => none

/-- What lies in a box behind an address: the slot, the place in it, and the box. -/
def place : Operand → Option (Nat × Nat × TypeId × List Sc)
  | .tmp t => match g t with
    | .box ty l => some (t, 0, ty, l)
    | .ref s off => match g s with
      | .box ty l => some (s, off, ty, l)
      | _ => none
    | _ => none
  | _ => none

/-- What lies behind an address that is only read. -/
def placeRo : Operand → Option (List Sc)
  | .tmp t => match g t with
    | .cbox _ l => some l
    | .eref l => some l
    | _ => none
  | _ => none

def readAs (ty : TK) (l : List Sc) : Option RV :=
  match ty with
  | .st zs => if zs.length ≤ l.length then some (.agg ((l.take zs.length).map Sc.ro)) else none
  | .other => none
  | _ => match l with
    | s :: _ => some (.sc s.ro)
    | [] => none

/-- What is appended to: the content, and the slots that lose it. -/
def appendTo (e : TypeId) (ek : EK) : Operand → Option (Arr × List (Nat × AV))
  | .tmp s => match g s with
    | .rv (.sc (.sl (some e') a)) => if e' = e then some (a, [(s, .unk)]) else none
    | .rv (.sc .nil) => some (ek.empty, [])
    | _ => none
  | .const (.slice none 0 0) => some (ek.empty, [])
  | _ => none

/-- An append. -/
def appendSem (dst : Nat) (x y : Operand) (t : TypeId) {R : Type} (K : List (Nat × AV) → Option R) : Option R :=
  match c.T t with
  | .sl e ek => match appendTo g e ek x, opr g .other y with
    | some (a, src), some (.sc (.sl _ b)) => match a.app b with
      | some r => if r.kind = ek then
          bif decide (0 < b.len) && decide (r.len * ek.bytes ≤ 140737488355328) then K (src ++ [(dst, .rv (.sc (.sl (some e) r)))]) else none
        else none
      | none => none
    | _, _ => none
  | _ => none

/-- A call of a function. -/
def callF (f : FuncId) (xs : List Operand) (ts : List TypeId) (d : Nat) {R : Type} (K : List (Nat × AV) → Option R) : Option R :=
  match args g c.T xs ts with
  | some as => match c.σ f as with
    | some (r, fin) => bif c.ψ f as then (if (backs g xs fin).all (fun p => p.1 != d) && decide ((backs g xs fin).length ≤ 1) then K (backs g xs fin ++ [(d, r)]) else none) else none
    | none => none
  | none => none

/-! Tables: the operations that read and write them. -/
def boxT (d : Nat) (x : Operand) {R : Type} (K : List (Nat × AV) → Option R) : Option R :=
  match x with
  | .tmp s => match g s with
    | .ms _ => bif c.fx.contains s && (s != d) then K [(d, .al s .cell)] else none
    | _ => none
  | _ => none
def loadT (t : TypeId) (d : Nat) (x : Operand) {R : Type} (K : List (Nat × AV) → Option R) : Option R :=
  match x with
  | .tmp p => match c.T t, g p with
    | .sl _ .int, .tb _ => bif c.X.contains p && (p != d) then K [(d, .al p .cont)] else none
    | .sl _ .int, .al s .cell => bif s != d then K [(d, .al s .same)] else none
    | .int .i64, .al s (.el m i) => match tmOf (g s) with
      | some (m', xs) => if m' = m then bif decide (i < xs.length) then K [(d, iw .i64 (xs.getD i 0))] else none else none
      | none => none
    | _, _ => none
  | _ => none
def storeT (t : TypeId) (x y : Operand) {R : Type} (K : List (Nat × AV) → Option R) : Option R :=
  match x with
  | .tmp p => match c.T t, g p, opInt g y with
    | .int .i64, .al s (.el m i), some (.i64, v) => match tmOf (g s) with
      | some (m', xs) => if m' = m then bif decide (i < xs.length) then K [(s, setTab (xs.set i v) (g s))] else none else none
      | none => none
    | _, _, _ => none
  | _ => none
def indexT (d : Nat) (x : Operand) (i : Int) {R : Type} (K : List (Nat × AV) → Option R) : Option R :=
  match x with
  | .tmp q => match g q with
    | .al s k => match k, g s with
      | .same, .ms xs => bif decide (0 ≤ i) && decide (i < xs.length) && (s != d) then K [(d, .al s (.el .sl i.toNat))] else none
      | .cont, .tb xs => bif decide (0 ≤ i) && decide (i < xs.length) && (s != d) then K [(d, .al s (.el .box i.toNat))] else none
      | _, _ => none
    | _ => none
  | _ => none

/-- What a closure takes that may write a table. -/
def capsT : List Operand → Option (List AV)
  | [] => some []
  | .tmp t :: xs => match capsT xs with
    | some r => match g t with
      | .box ty [.int .i64 n] => some (.box ty [.int .i64 n] :: r)
      | .cbox ty l => some (.cbox ty l :: r)
      | .tb ys => some (.tb ys :: r)
      | .al s .cell => match g s with
        | .ms ys => some (.cbox 0 [.ln ys.length] :: r)
        | _ => none
      | _ => none
    | none => none
  | _ => none
def inMade (made : List Nat) : Operand → Bool
  | .tmp t => made.contains t
  | _ => false
def isTab (x : AV) : Bool := (tab x).isSome
def agV : List Sc → Option (List Value)
  | [] => some []
  | .int k n :: l => match agV l with
    | some r => some (.int k n :: r)
    | none => none
  | _ => none
def vAg : List Value → Option (List Sc)
  | [] => some []
  | .int k n :: l => match vAg l with
    | some r => some (.int k n :: r)
    | none => none
  | _ => none
def toVA : RV → Option Value
  | .agg l => match agV l with
    | some r => some (.agg r.toArray)
    | none => none
  | r => toV r
def ofVA : Value → Option RV
  | .agg cs => match vAg cs.toList with
    | some l => some (.agg l)
    | none => none
  | v => ofV v
def toVsA : List RV → Option (List Value)
  | [] => some []
  | r :: rs => match toVA r, toVsA rs with
    | some v, some l => some (v :: l)
    | _, _ => none
def ofVsA : List Value → Option (List AV)
  | [] => some []
  | v :: vs => match ofVA v, ofVsA vs with
    | some r, some l => some (.rv r :: l)
    | _, _ => none
/-- What a call of a closure does to the table that it captures. -/
def closureT (f : FuncId) (cs : List AV) (p : Nat) (tb : AV) : List Value → List Int → Option (List Int) := fun vs xs =>
  match ofVsA vs with
  | some as => match c.sp f (as ++ cs.set p (setTab xs tb)) with
    | some (.tup [], fin) => match fin[as.length + p]? with
      | some x => tab x
      | none => none
    | _ => none
  | none => none
def makeFuncT (f : FuncId) (captured : List Operand) (d : Nat) {R : Type} (K : List (Nat × AV) → Option R) : Option R :=
  match capsT g captured with
  | some cs => bif decide ((cs.filter isTab).length = 1) then match captured[cs.findIdx isTab]?, cs[cs.findIdx isTab]? with
    | some (.tmp s), some tb => bif c.X.contains s && (s != d) then match tmOf tb with
      | some (m, _) => K [(d, .al s (.clo m (cs.findIdx isTab) (closureT c f cs (cs.findIdx isTab) tb)))]
      | none => none else none
    | _, _ => none else none
  | none => none
def okT : Option (List Int) → Bool
  | some _ => true
  | none => false
def valT : Option (List Int) → List Int
  | some ys => ys
  | none => []
/-- A call of a closure that holds its table. -/
def callT (s : Nat) (m : TM) (p : Nat) (F : List Value → List Int → Option (List Int)) (xs : List Int) (as : List Operand) (d : Nat) {R : Type} (K : List (Nat × AV) → Option R) : Option R :=
  match oprs g .other as with
  | some rs => match toVsA rs with
    | some vs => bif okT (F vs xs) && (s != d) then K [(s, .cms m p F (valT (F vs xs))), (d, .tup [])] else none
    | none => none
  | none => none

/-- What an operation does: the slots that it writes, in order. -/
def sem (o : Oper) {R : Type} (K : List (Nat × AV) → Option R) : Option R :=
  match o.op, o.dst with
  | .move x, some d => copy c g (c.tk.contains d) (c.T o.type) d x K
  | .assign x, some d => copy c g true (c.T o.type) d x K
  | .pick b x y, some d => match opBool g b with
    | some t => bif t then copy c g false (c.T o.type) d x K else copy c g false (c.T o.type) d y K
    | none => none
  | .alloc t, some d => match c.T t with
    | .st zs => K [(d, .box t zs)]
    | .int k => K [(d, .box t [.int k 0])]
    | .bool => K [(d, .box t [.bool false])]
    | .sl e ek => K [(d, .box t [.sl (some e) ek.empty])]
    | .fn => K [(d, .box t [.nofn])]
    | _ => none
  | .box t x, some d => match opr g (c.T t) x, c.T t with
    | some (.agg l), .st zs => if l.length = zs.length then K [(d, .box t l)] else none
    | some (.agg _), _ => none
    | some (.sc s), .st _ => none
    | some (.sc s), _ => bif c.fz.contains d then K [(d, .cbox t [s])] else K [(d, .box t [s])]
    | none, .sl _ .int => boxT c g d x K
    | none, _ => none
  | .build t ps, some d => match c.T t with
    | .st zs => match setParts g zs ps.toList with
      | some l => K [(d, .rv (.agg l))]
      | none => none
    | _ => none
  | .buildSlice t len ps, some d => match c.T t with
    | .sl e ek => match mkArr g ek 0 ps.toList with
      | some a => if a.len = len then if len ≤ 4096 then K [(d, .rv (.sc (.sl (some e) a)))] else none else none
      | none => none
    | _ => none
  | .load t x, some d => match place g x with
    | some (s, off, ty, l) => match c.T t with
      | .st zs => if off = 0 then if l.length = zs.length then K [(d, .rv (.agg (l.map Sc.ro)))] else none else none
      | .other => none
      | _ => match l[off]? with
        | some v => bif c.tk.contains d && v.isOwn && (s != d) then K [(s, .box ty (l.set off v.ro)), (d, .rv (.sc v))] else K [(d, .rv (.sc v.ro))]
        | none => none
    | none => match placeRo g x with
      | some l => match readAs (c.T t) l with
        | some r => K [(d, .rv r)]
        | none => none
      | none => loadT c g t d x K
  | .store t x y, none => match place g x, y with
    | some (s, off, ty, l), .tmp u => match g u, c.T t with
      | .rv (.agg m), .st zs => if off = 0 then if m.length = l.length then if m.length = zs.length then K [(u, .rv (.agg (m.map Sc.ro))), (s, .box ty m)] else none else none else none
      | .rv (.sc v), .st _ => none
      | .rv (.sc v), .other => none
      | .rv (.sc v), _ => if off < l.length then K [(u, .rv (.sc v.ro)), (s, .box ty (l.set off v))] else none
      | .ms xs, .sl _ .int => if off = 0 then if l.length = 1 then if s != u then K [(u, .unk), (s, .tb xs)] else none else none else none
      | _, _ => none
    | some (s, off, ty, l), .const v => match constSc (c.T t) v, c.T t with
      | some v, .st _ => none
      | some v, .other => none
      | some v, _ => if off < l.length then K [(s, .box ty (l.set off v))] else none
      | none, _ => none
    | some (s, off, ty, l), .func f => match c.T t with
      | .fn => if off < l.length then K [(s, .box ty (l.set off (.fnc f)))] else none
      | _ => none
    | none, y => storeT c g t x y K
    | _, _ => none
  | .binOp op t x y _, some d => match opr g .other x, opr g .other y with
    | some (.sc (.int k a)), some (.sc (.int k' b)) => match op with
      | .shl | .shr => shOp op k a b fun s => K [(d, .rv (.sc s))]
      | _ => if k = k' then intOp op k a b fun s => K [(d, .rv (.sc s))] else none
    | some (.sc (.bool a)), some (.sc (.bool b)) => match op, c.T t with
      | .eql, .bool => K [(d, bw (a == b))]
      | .neq, .bool => K [(d, bw (a != b))]
      | _, _ => none
    | some (.agg l), some (.agg m) => match op, c.T t with
      | .eql, .st zs => if l.length = zs.length && zs.all Sc.isInt then match sameInts l m with
        | some b => K [(d, bw b)]
        | none => none else none
      | .neq, .st zs => if l.length = zs.length && zs.all Sc.isInt then match sameInts l m with
        | some b => K [(d, bw (!b))]
        | none => none else none
      | _, _ => none
    | _, _ => none
  | .unOp op _ x, some d => match op, opr g .other x with
    | .neg, some (.sc (.int k n)) => K [(d, iw k (k.wrap (0 - n)))]
    | .not, some (.sc (.bool b)) => K [(d, bw (!b))]
    | _, _ => none
  | .convert s t x, some d => match c.T s, c.T t, opInt g x with
    | .int _, .int k, some (_, n) => K [(d, iw k (k.wrap n))]
    | _, _, _ => none
  | .makeFunc (.func f) first captured, some d => if first.size = 0 then
      bif captured.toList.any (inMade c.made) then makeFuncT c g f captured.toList d K else match caps g captured.toList with
      | some ws => if ws.all (fun p => p.1 != d) then K (ws ++ [(d, .rv (.sc (.fn (closure c f (ws.map (·.2))))))]) else none
      | none => none
    else none
  | .makeSlice t x y, some d => match c.T t, opInt g x, opInt g y with
    | .sl _ .int, some (.i64, n), some (.i64, m) => bif decide (n = m) && (decide (0 ≤ n) && decide (n ≤ 1048576)) then K [(d, .ms (List.replicate n.toNat 0))] else none
    | _, _, _ => none
  | .slice t x lo hi none, some d => match c.T t, opr g .other x with
    | .sl _ ek, some (.sc (.sl _ a)) => if a.kind = ek then
        match (match lo with | some l => opInt g l | none => some (.i64, 0)), (match hi with | some h => opInt g h | none => some (.i64, a.len)) with
        | some (.i64, l), some (.i64, h) => bif decide (0 ≤ l) && decide (l ≤ h) && decide (h ≤ a.len) then K [(d, .rv (.sc (.sl none (a.sub l.toNat h.toNat))))] else none
        | _, _ => none
      else none
    | _, _ => none
  | .fieldAddr t x f, some d => match c.T t, x with
    | .st zs, .tmp s => if f < zs.length then match g s with
      | .box ty l => if ty = t then if l.length = zs.length then bif c.X.contains s then K [(d, .ref s f)] else none else none else none
      | .cbox ty l => if ty = t then if l.length = zs.length then K [(d, .eref (l.drop f))] else none else none
      | .eref l => if zs.length ≤ l.length then K [(d, .eref (l.drop f))] else none
      | _ => none
      else none
    | _, _ => none
  | .indexAddr t x y, some d => match c.T t, opr g .other x, opInt g y with
    | .sl _ ek, some (.sc (.sl _ a)), some (_, i) => if a.kind = ek then
        bif decide (0 ≤ i) && decide (i < a.len) then K [(d, .eref (a.at i.toNat))] else none
      else none
    | .sl _ .int, none, some (_, i) => indexT g d x i K
    | _, _, _ => none
  | .extract x i, some d => match x with
    | .tmp s => match g s with
      | .tup l => match l[i]? with
        | some r => K [(d, .rv r)]
        | none => none
      | _ => none
    | _ => none
  | .call cl, some d => match cl.callee with
    | .builtin .len => match cl.args.toList, cl.argTypes.toList with
      | [.tmp t], [ty] => match c.T ty, g t with
        | .sl _ _, .rv (.sc (.sl _ a)) => K [(d, iw .i64 a.len)]
        | .sl _ _, .rv (.sc .nil) => K [(d, iw .i64 0)]
        | .sl _ _, .rv (.sc (.ln n)) => K [(d, iw .i64 n)]
        | .sl _ _, .al s k => match k, g s with
          | .same, .ms xs => K [(d, iw .i64 xs.length)]
          | .cont, .tb xs => K [(d, iw .i64 xs.length)]
          | _, _ => none
        | _, _ => none
      | _, _ => none
    | .builtin .min => match oprs g .other cl.args.toList with
      | some (.sc (.int .i64 x) :: l) => match minInts x l with
        | some n => K [(d, iw .i64 n)]
        | none => none
      | _ => none
    | .builtin .max => match oprs g .other cl.args.toList with
      | some (.sc (.int .i64 x) :: l) => match maxInts x l with
        | some n => K [(d, iw .i64 n)]
        | none => none
      | _ => none
    | .builtin .append => match cl.args.toList, cl.argTypes.toList with
      | [x, y], [t, t'] => if t' = t then appendSem c g d x y t K else none
      | _, _ => none
    | .value (.func f) => callF c g f cl.args.toList cl.argTypes.toList d K
    | .value (.tmp t) => match g t with
      | .rv (.sc (.fnc f)) => callF c g f cl.args.toList cl.argTypes.toList d K
      | .al s .same => match g s with
        | .cms m p F xs => callT g s m p F xs cl.args.toList d K
        | _ => none
      | .rv (.sc (.fn F)) => match oprs g .other cl.args.toList with
        | some rs => match rs.mapM toV with
          | some vs => match c.T o.type with
            | .int k => bif okInt k (F vs) then K [(d, .rv (.sc (.int k (valInt (F vs)))))] else none
            | .bool => bif okBool (F vs) then K [(d, .rv (.sc (.bool (valBool (F vs)))))] else none
            | _ => none
          | none => none
        | none => none
      | _ => none
    | _ => none
  | _, _ => none
end

def put1 (st : St) (p : Nat × AV) : St := st.set p.1 p.2
def puts (st : St) (ws : List (Nat × AV)) : St := ws.foldl put1 st

def getS (st : St) (t : Nat) : AV := st.getD t .unk

def skipped (o : Oper) {R : Type} (K : List (Nat × AV) → Option R) : Option R :=
  match o.dst with
  | some d => K [(d, .skip)]
  | none => K []

/-- One operation of a region, its guard included. -/
def step (c : Ctx) (ops : Array Oper) (g : Nat → AV) (o : Oper) {R : Type} (K : List (Nat × AV) → Option R) : Option R :=
  match o.guard with
  | none => sem c g o K
  | some (j, want) => match ((ops[j]?).bind (·.dst)) with
    | some t => match g t with
      | .rv (.sc (.bool b)) => match want with
        | true => bif b then sem c g o K else skipped o K
        | false => bif b then skipped o K else sem c g o K
      | .skip => skipped o K
      | _ => none
    | none => none

def unref : AV → AV
  | .ref _ _ => .unk
  | .al s .cell => .al s .cell
  | .al _ _ => .unk
  | v => v

/-! The orders of a region. -/
def rootOf (ops : List Oper) : Nat → Nat → Nat
  | 0, t => t
  | n + 1, t => match ops.find? (fun o => o.dst == some t) with
    | some o => match o.op with
      | .fieldAddr _ (.tmp s) _ | .indexAddr _ (.tmp s) _ | .move (.tmp s) | .load _ (.tmp s) => rootOf ops n s
      | _ => t
    | none => t
def tmpsOf (o : Oper) : List Nat := o.op.operands.toList.filterMap fun | .tmp t => some t | _ => none
def readsOf (ops : Array Oper) (o : Oper) : List Nat :=
  let l := tmpsOf o
  l ++ (match o.op with | .binOp .. | .unOp .. | .convert .. | .pick .. | .build .. => [] | _ => l.map (rootOf ops.toList 6)) ++ (match o.guard with | some (j, _) => (((ops[j]?).bind (·.dst)).toList) | none => [])
def isAppend (o : Oper) : Option Nat :=
  match o.op with
  | .call cl => match cl.callee, cl.args.toList with
    | .builtin .append, .tmp t :: _ => some t
    | _, _ => none
  | _ => none
def takers (ops : Array Oper) : List Nat := ops.toList.filterMap isAppend
def writesOf (ops : Array Oper) (o : Oper) : List Nat :=
  o.dst.toList ++ (match o.op with
    | .assign _ => tmpsOf o
    | .store .. | .makeFunc .. => tmpsOf o ++ (tmpsOf o).map (rootOf ops.toList 6)
    | .move _ | .load .. => if (match o.dst with | some d => (takers ops).contains d | none => false) then tmpsOf o ++ (tmpsOf o).map (rootOf ops.toList 6) else []
    | .call cl => (if (isAppend o).isSome then tmpsOf o else []) ++ (match cl.callee with
      | .value (.tmp t) => if o.type = 0 then [t, rootOf ops.toList 6 t] else []
      | _ => [])
    | _ => [])
def addAll (xs l : List Nat) : List Nat := xs.foldr (fun x l => if l.contains x then l else x :: l) l
/-- Which operations come surely before each. -/
def befores (ops : Array Oper) : List (List Nat) :=
  ops.toList.foldl (fun acc o => acc ++ [o.after.toList.foldl (fun l e => if Region.binds .any e then addAll (e.on :: acc.getD e.on []) l else l) []]) []
def inter (a b : List Nat) : Bool := a.any (b.contains ·)
def guardDst (ops : Array Oper) (o : Oper) : Option Nat := match o.guard with
  | some (j, _) => (ops[j]?).bind (·.dst)
  | none => none
/-- The slots of which an operation reads no more than the box's shape. -/
def shapesOf (ops : Array Oper) (o : Oper) : List Nat := match o.op with
  | .fieldAddr _ (.tmp s) _ => if guardDst ops o = some s then [] else [s]
  | _ => []
/-- The slots whose shape an operation may change. -/
def hardW (ops : Array Oper) (o : Oper) : List Nat := match o.op with
  | .store _ _ (.tmp u) => u :: o.dst.toList
  | .store .. => o.dst.toList
  | .load .. => o.dst.toList
  | _ => writesOf ops o
def clash1 (ops : Array Oper) (x y : Oper) : Bool :=
  inter (writesOf ops x) ((readsOf ops y).filter fun t => !(shapesOf ops y).contains t) || inter (writesOf ops x) (writesOf ops y) || inter (hardW ops x) (shapesOf ops y)
def clash (ops : Array Oper) (i j : Nat) : Bool :=
  match ops[i]?, ops[j]? with
  | some x, some y => clash1 ops x y || clash1 ops y x
  | _, _ => false
def orderOk (ops : Array Oper) : Bool :=
  let b := befores ops
  ((List.range ops.size).all fun j => match ops[j]? with
    | some o => o.after.toList.all fun e => !Region.binds .any e || decide (e.on < j)
    | none => true) &&
  (List.range ops.size).all fun j => (List.range j).all fun i => (b.getD j []).contains i || !clash ops i j

/-- A region that draws its order: each operation sees no more than its reads. -/
def masked (ops : Array Oper) (o : Oper) (st : St) (t : Nat) : AV := if (readsOf ops o).contains t then getS st t else .unk
def isBox : AV → Bool
  | .box _ _ => true
  | _ => false
def okWrites (ops : Array Oper) (o : Oper) (ws : List (Nat × AV)) : Bool := ws.all fun p => (writesOf ops o).contains p.1 && ((hardW ops o).contains p.1 || isBox p.2)

def stepD (c : Ctx) (ops : Array Oper) (o : Oper) (st : St) {R : Type} (K : St → Option R) : Option R :=
  step c ops (masked ops o st) o fun ws => bif okWrites ops o ws then K (puts st ws) else none
def stepL (c : Ctx) (ops : Array Oper) (o : Oper) (st : St) {R : Type} (K : St → Option R) : Option R :=
  step c ops (getS st) o fun ws => K (puts st ws)

/-- A test that is known from here on. -/
def refine (t : Nat) (st : St) {R : Type} (K : St → Option R) : Option R :=
  match getS st t with
  | .rv (.sc (.bool b)) => bif b then K (st.set t (.rv (.sc (.bool true)))) else K (st.set t (.rv (.sc (.bool false))))
  | _ => K st
def refineO (ops : Array Oper) (o : Oper) (st : St) {R : Type} (K : St → Option R) : Option R :=
  match o.guard with
  | some (j, _) => match ((ops[j]?).bind (·.dst)) with
    | some t => refine t st K
    | none => K st
  | none => match o.op with
    | .pick (.tmp t) _ _ => refine t st K
    | _ => K st

def runL (c : Ctx) (ops : Array Oper) {R : Type} : List Oper → St → (St → Option R) → Option R
  | [], st, K => K st
  | o :: os, st, K => refineO ops o st fun st => stepL c ops o st fun st' => runL c ops os st' K
def runD (c : Ctx) (ops : Array Oper) {R : Type} : List Oper → St → (St → Option R) → Option R
  | [], st, K => K st
  | o :: os, st, K => refineO ops o st fun st => stepD c ops o st fun st' => runD c ops os st' K

/-- The slots that addresses point into. -/
def rootsX (made : List Nat) (ops : Array Oper) : List Nat := ops.toList.filterMap fun o => match o.op with
  | .fieldAddr _ (.tmp s) _ => if ops.toList.any (fun p => p.dst == some s) then none else some s
  | .move (.tmp s) => if made.contains s then some s else none
  | .load _ (.tmp s) => if made.contains s then some s else none
  | .makeFunc _ _ cap => cap.toList.findSome? fun
    | .tmp s => if made.contains s then some s else none
    | _ => none
  | _ => none

inductive Ex where
  | normal | exit (id : Nat) | ret
  deriving DecidableEq

structure Env where
  T : TypeId → TK
  σ : Specs
  ψ : FuncId → List AV → Bool := fun _ _ => true   -- what a contract asks for
  made : List Nat      -- slots of made slices
  fz : List Nat
  fx : List Nat := []  -- slots of tables that the caller gave
  lv : Nat → List Nat  -- what a loop keeps from round to round, by the block around it
  lx : Nat → List Nat  -- what it keeps when it is left
  lp : Nat → St → (R : Type) → (Ex → St → Option R) → Option R   -- what it comes to

def Env.sp (e : Env) (f : FuncId) : Spec := fun us => bif e.ψ f us then e.σ f us else none
def Env.ctx (e : Env) (ops : Array Oper) : Ctx := { T := e.T, σ := e.σ, ψ := e.ψ, X := e.fx ++ rootsX e.made ops, tk := takers ops, fz := e.fz, made := e.made, fx := e.fx }

def dstsOk (X : List Nat) (ops : Array Oper) : Bool := ops.toList.all fun o => match o.dst with
  | some d => !X.contains d
  | none => true

def keep (l : List Nat) (st : St) : St := st.mapIdx fun i v => if l.contains i then unref v else .unk

def regionK (e : Env) (ops : Array Oper) (draw : Bool) (st : St) {R : Type} (K : St → Option R) : Option R :=
  bif dstsOk (e.ctx ops).X ops then
    match draw with
    | false => runL (e.ctx ops) ops ops.toList st fun st' => K (st'.map unref)
    | true => bif orderOk ops then runD (e.ctx ops) ops ops.toList st fun st' => K (st'.map unref) else none
  else none

def evalCode (e : Env) {R : Type} : Code → Nat → St → (Ex → St → Option R) → Option R
  | .skip, _, st, K => K .normal st
  | .region _ ops draw, _, st, K => regionK e ops draw st (K .normal)
  | .seq a b, cur, st, K => evalCode e a cur st fun x st' => match x with
    | .normal => evalCode e b cur st' K
    | x => K x st'
  | .cond o a b, cur, st, K =>
    let go (st : St) : Option R := match opBool (getS st) o with
      | some t => bif t then evalCode e a cur st K else evalCode e b cur st K
      | none => none
    match o with
    | .tmp t => refine t st go
    | _ => go st
  | .block id a, _, st, K => evalCode e a id st fun x st' => match x with
    | .exit i => if i = id then K .normal st' else K (.exit i) st'
    | x => K x st'
  | .loop a, cur, st, K => e.lp cur (keep (e.lv cur) st) R K
  | .exit id, _, st, K => K (.exit id) st
  | .ret, _, st, K => K .ret st
  | _, _, _, _ => none

/-- The loops of a piece of code, each with the block around it. -/
def loops : Code → Nat → List (Nat × Code)
  | .seq a b, cur => loops a cur ++ loops b cur
  | .cond _ a b, cur => loops a cur ++ loops b cur
  | .block id a, _ => loops a id
  | .loop a, cur => (cur, a) :: loops a cur
  | _, _ => []

/-- The end of a round. -/
def kp (e : Env) (id : Nat) : Ex → St → Option (Ex × St)
  | .normal, st => some (.normal, keep (e.lv id) st)
  | x, st => some (x, keep (e.lx id) st)

/-- Rounds of a loop. -/
inductive Runs (e : Env) (id : Nat) (a : Code) : St → Ex → St → Prop where
  | step {st st1 st' : St} {x : Ex} (h : evalCode e a id st (kp e id) = some (.normal, st1)) (r : Runs e id a st1 x st') : Runs e id a st x st'
  | stop {st st1 : St} {x : Ex} (h : evalCode e a id st (kp e id) = some (x, st1)) (hx : x ≠ .normal) : Runs e id a st x st1

def LoopOk (e : Env) (id : Nat) (a : Code) : Prop := ∀ st (R : Type) (K : Ex → St → Option R) (r : R), e.lp id (keep (e.lv id) st) R K = some r → ∃ x st', Runs e id a (keep (e.lv id) st) x st' ∧ K x st' = some r

/-- A state told by its slots. -/
def mk (n : Nat) (l : List (Nat × AV)) : St := puts (List.replicate n .unk) l

def resultOf (T : TypeId → TK) (st : St) : ResultVar → Option RV
  | .tmp t => match getS st t with
    | .rv r => some r.ro
    | _ => none
  | .cell a t => match getS st a with
    | .box ty l => match T t with
      | .st zs => if l.length = zs.length then some (.agg (l.map Sc.ro)) else none
      | .other => none
      | _ => match l with
        | [s] => some (.sc s.ro)
        | _ => none
    | _ => none
def resultsOf (T : TypeId → TK) (st : St) : List ResultVar → Option (List RV)
  | [] => some []
  | r :: rs => match resultOf T st r, resultsOf T st rs with
    | some x, some l => some (x :: l)
    | _, _ => none

def finish (T : TypeId → TK) (fn : Func) (x : Ex) (st : St) : Option (AV × List AV) :=
  match x with
  | .exit _ => none
  | _ => match resultsOf T st fn.results.toList with
    | some [r] => some (.rv r, [])
    | some l => some (.tup l, [])
    | none => none

def evalF (e : Env) (fn : Func) (as : List AV) : Option (AV × List AV) :=
  match fn.body with
  | some c => evalCode e c 0 (as ++ List.replicate (fn.ntmps - as.length) .unk) (finish e.T fn)
  | none => none

/-- The same, with what becomes of the tables that the caller gave. -/
def finishT (fx : List Nat) (n : Nat) (T : TypeId → TK) (fn : Func) (x : Ex) (st : St) : Option (AV × List AV) :=
  match finish T fn x st with
  | some (r, _) => some (r, (List.range n).map fun i => if fx.contains i then getS st i else .unk)
  | none => none
def evalFT (e : Env) (fn : Func) (as : List AV) : Option (AV × List AV) :=
  match fn.body with
  | some c => evalCode e c 0 (as ++ List.replicate (fn.ntmps - as.length) .unk) (finishT e.fx as.length e.T fn)
  | none => none

def loopsOf (fn : Func) : List (Nat × Code) := match fn.body with
  | some c => loops c 0
  | none => []
def loopAt (fn : Func) (k : Nat) : Code := ((loopsOf fn).getD k (0, .skip)).2

end Go.Proofs.Ytbgfgadekmemeaa.Ev
