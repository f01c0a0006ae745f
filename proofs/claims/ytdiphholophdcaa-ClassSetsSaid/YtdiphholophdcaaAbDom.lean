import Derived.Recover
set_option linter.unusedVariables false
set_option linter.unusedSimpArgs false
/- THE ABSTRACT VALUES AND THE PURE RUN: a run of a loaded program over lists and blocks, without addresses, capacities and orders. -/
namespace Go.Ab

inductive AV where
  | undef
  | int (k : IntKind) (n : Int)
  | bool (b : Bool)
  | str (s : List UInt8)
  | nilptr
  | ptr (b o : Nat)
  | iptr (cs : List AV)
  | sl (xs : List AV)
  | slr (b o n : Nat)
  | nilfn
  | fn (f : FuncId) (first cap : List AV)
  | nili
  | iface (t : TypeId) (v : AV)
  | agg (cs : List AV)
  | tup (vs : List AV)
  deriving Inhabited

/-- Whose is a slice's spare room? -/
inductive Tag where
  | no
  | full
  | tok (id : Nat)
  | agg (ts : List Tag)
  deriving Inhabited

abbrev SV := AV × Tag
abbrev Blk := List SV
structure St where
  H : List Blk
  T : List Nat
abbrev Env := List SV

def AV.cells : AV → List AV
  | .agg cs => cs
  | v => [v]
def Tag.flat : Tag → Tag
  | .agg _ => .no
  | t => t
def Tag.at : Tag → Nat → Tag
  | .agg ts, i => (ts.getD i .no).flat
  | _, _ => .no
def AV.isCell : AV → Bool
  | .undef | .agg _ | .tup _ => false
  | _ => true
def AV.known : AV → Bool
  | .undef => false
  | _ => true

/-! ### what a type is -/
inductive TK where
  | int (k : IntKind)
  | bool
  | string
  | ptr (e : TypeId)
  | slice (e : TypeId)
  | array (n : Nat) (e : TypeId)
  | struct (fs : List (Nat × TypeId))
  | iface
  | func
  | map (k e : TypeId)
  | other
  deriving Inhabited

def tk (P : Program) (t : TypeId) : TK :=
  match P.underlying t with
  | some (.int k) => .int k
  | some .bool => .bool
  | some .string => .string
  | some (.pointer e) => .ptr e
  | some (.slice e) => .slice e
  | some (.array n e) => .array n e
  | some (.struct fs) => if fs.any (fun f => f.name == "_" || (P.info? f.type).isNone) then .other else .struct (fs.toList.map fun f => (f.offset, f.type))
  | some (.interface _) => .iface
  | some (.func _ _ _) => .func
  | some (.map k e) => .map k e
  | _ => .other
def tsz (P : Program) (t : TypeId) : Nat := match P.info? t with | some i => i.size | none => 0
def TK.isAgg : TK → Bool
  | .struct _ | .array _ _ => true
  | _ => false

def TK.isOther : TK → Bool
  | .other => true
  | _ => false

/-! ### what a constant is -/
def absS : Value → AV
  | .int k n => .int k n
  | .bool b => .bool b
  | .string s => .str s.data.toList
  | .pointer none => .nilptr
  | .slice none 0 0 => .sl []
  | .nilFunc => .nilfn
  | .nilIface => .nili
  | _ => .undef
def absV : Value → AV
  | .agg cs => .agg (cs.toList.map absS)
  | v => absS v
/-- a nil slice has no spare room -/
def tagZ : AV → Tag
  | .sl _ => .full
  | _ => .no
/-- the cells of a type's zero value -/
def tz (P : Program) (t : TypeId) : List AV :=
  match P.info? t with
  | some i => match i.zero with
    | some v => v.cells.toList.map absS
    | none => []
  | none => []

/-- the zero cells with their tags -/
def tzs (P : Program) (t : TypeId) : List SV := (tz P t).map fun x => (x, tagZ x)
/-- are the elements of this size? -/
def szOk (xs : List AV) (n : Nat) : Bool := match xs with
  | [] => true
  | x :: _ => x.cells.length == n
def hasZero (P : Program) (t : TypeId) : Bool :=
  match P.info? t with
  | some i => i.zero.isSome
  | none => false

structure Ctx where
  P : Program
  glob : Nat → Option (List AV)
  /-- what is forgotten behind a region of a function -/
  drop : FuncId → Nat → List Tmp

def Ctx.eval (c : Ctx) (env : Env) : Operand → SV
  | .tmp t => env.getD t (.undef, .no)
  | .const v => (absV v, tagZ (absV v))
  | .global g => match c.glob g with
    | some cs => (.iptr cs, .no)
    | none => (.undef, .no)
  | .func f => (.fn f [] [], .no)

def AV.isSlice : AV → Bool
  | .sl _ | .slr _ _ _ => true
  | _ => false

/-! ### operations that ask nothing of the heap -/
def aCmp (op : BinOp) (x y : Int) : Option AV :=
  match op with
  | .eql => some (.bool (x == y))
  | .neq => some (.bool (x != y))
  | .lss => some (.bool (decide (x < y)))
  | .leq => some (.bool (decide (x ≤ y)))
  | .gtr => some (.bool (decide (x > y)))
  | .geq => some (.bool (decide (x ≥ y)))
  | _ => none
def aBits (op : BinOp) (k : IntKind) (x y : Int) : Option AV :=
  let a := BitVec.ofInt k.bits x
  let b := BitVec.ofInt k.bits y
  match op with
  | .and => some (.int k (k.wrap (a &&& b).toNat))
  | .or => some (.int k (k.wrap (a ||| b).toNat))
  | .xor => some (.int k (k.wrap (a ^^^ b).toNat))
  | .andNot => some (.int k (k.wrap (a &&& ~~~b).toNat))
  | _ => none
def aInt (op : BinOp) (k : IntKind) (x y : Int) : Option AV :=
  match op with
  | .add => some (.int k (k.wrap (x + y)))
  | .sub => some (.int k (k.wrap (x - y)))
  | .mul => some (.int k (k.wrap (x * y)))
  | .quo => if y = 0 then none else some (.int k (k.wrap (x.tdiv y)))
  | .rem => if y = 0 then none else some (.int k (x.tmod y))
  | .and | .or | .xor | .andNot => aBits op k x y
  | .eql | .neq | .lss | .leq | .gtr | .geq => aCmp op x y
  | .shl | .shr => none
def aShift (op : BinOp) (k : IntKind) (x y : Int) : Option AV :=
  if y < 0 then none else
  match op with
  | .shl => some (.int k (k.wrap (x * 2 ^ (min y.toNat k.bits))))
  | .shr => some (.int k (x.fdiv (2 ^ (min y.toNat k.bits))))
  | _ => none
/-- how long a text may be that is made here -/
def maxStr : Nat := 2 ^ 48
def aStr (op : BinOp) (x y : List UInt8) : Option AV :=
  match op with
  | .add => if x.length + y.length ≤ maxStr then some (.str (x ++ y)) else none
  | .eql => some (.bool (x == y))
  | .neq => some (.bool (!(x == y)))
  | .lss => some (.bool (Op.bytesLess x y))
  | .leq => some (.bool (Op.bytesLess x y || x == y))
  | .gtr => some (.bool (!(Op.bytesLess x y || x == y)))
  | .geq => some (.bool (!(Op.bytesLess x y)))
  | _ => none
def aNil (k : TK) (x y : AV) : Option Bool :=
  match k, x, y with
  | .iface, .nili, .nili => some true
  | .iface, .nili, .iface _ _ | .iface, .iface _ _, .nili => some false
  | .ptr _, .nilptr, .nilptr => some true
  | .ptr _, .nilptr, .ptr _ _ | .ptr _, .ptr _ _, .nilptr | .ptr _, .nilptr, .iptr _ | .ptr _, .iptr _, .nilptr => some false
  | .func, .nilfn, .nilfn => some true
  | .func, .nilfn, .fn _ _ _ | .func, .fn _ _ _, .nilfn => some false
  | _, _, _ => none
def isConst : Operand → Bool
  | .const _ => true
  | _ => false
def aBin (c : Ctx) (op : BinOp) (t : TypeId) (x y : AV) : Option AV :=
  match x, y with
  | .int k a, .int k' b =>
    match op with
    | .shl | .shr => aShift op k a b
    | _ => if k = k' then aInt op k a b else none
  | .str a, .str b => aStr op a b
  | .bool a, .bool b => match op, tk c.P t with
    | .eql, .bool => some (.bool (a == b))
    | .neq, .bool => some (.bool (!(a == b)))
    | _, _ => none
  | _, _ => none
def aUn (op : UnOp) (x : AV) : Option AV :=
  match op, x with
  | .not, .bool b => some (.bool (!b))
  | .neg, .int k n => aInt .sub k 0 n
  | .xor, .int k n => aBits .xor k (if k.signed then -1 else k.max) n
  | _, _ => none

end Go.Ab
