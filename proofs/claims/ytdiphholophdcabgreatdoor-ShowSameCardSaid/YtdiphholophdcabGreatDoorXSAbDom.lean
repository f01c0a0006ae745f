import Derived.Recover
set_option linter.all false
section
/- THE ABSTRACT VALUES AND THE PURE RUN: a run of a loaded program over lists and blocks, without addresses, capacities and orders. -/
namespace Go.Ab

inductive AV where
  | undef
  | int (k : IntKind) (n : Int)
  | bool (b : Bool)
  | str (s : List UInt8)
  | nilptr
  | ptr (b o : Nat)
  | iptr (cs : List AV)
  | sl (xs : List AV)
  | slr (b o n : Nat)
  /-- a row of bytes that appends made, all of it -/
  | buf (t : TypeId) (s : List UInt8)
  /-- where such a row lies -/
  | bptr (t : TypeId) (s : List UInt8)
  /-- the first cell of block b, which is of type t: nil, or the block itself -/
  | bself (t : TypeId) (b : Nat)
  | nilfn
  | fn (f : FuncId) (first cap : List AV)
  | nili
  | iface (t : TypeId) (v : AV)
  | agg (cs : List AV)
  | tup (vs : List AV)
  deriving Inhabited

/-- Whose is a slice's spare room? -/
inductive Tag where
  | no
  | full
  | tok (id : Nat)
  | agg (ts : List Tag)
  deriving Inhabited

abbrev SV := AV × Tag
abbrev Blk := List SV
structure St where
  H : List Blk
  T : List Nat
abbrev Env := List SV

def AV.cells : AV → List AV
  | .agg cs => cs
  | v => [v]
def Tag.flat : Tag → Tag
  | .agg _ => .no
  | t => t
def Tag.at : Tag → Nat → Tag
  | .agg ts, i => (ts.getD i .no).flat
  | _, _ => .no
def AV.isCell : AV → Bool
  | .undef | .agg _ | .tup _ => false
  | _ => true
def AV.known : AV → Bool
  | .undef => false
  | _ => true

/-! ### what a type is -/
inductive TK where
  | int (k : IntKind)
  | bool
  | string
  | ptr (e : TypeId)
  | slice (e : TypeId)
  | array (n : Nat) (e : TypeId)
  | struct (fs : List (Nat × TypeId))
  | iface
  | func
  | map (k e : TypeId)
  | other
  deriving Inhabited

def tk (P : Program) (t : TypeId) : TK :=
  match P.underlying t with
  | some (.int k) => .int k
  | some .bool => .bool
  | some .string => .string
  | some (.pointer e) => .ptr e
  | some (.slice e) => .slice e
  | some (.array n e) => .array n e
  | some (.struct fs) => if fs.any (fun f => f.name == "_" || (P.info? f.type).isNone) then .other else .struct (fs.toList.map fun f => (f.offset, f.type))
  | some (.interface _) => .iface
  | some (.func _ _ _) => .func
  | some (.map k e) => .map k e
  | _ => .other
def tsz (P : Program) (t : TypeId) : Nat := match P.info? t with | some i => i.size | none => 0
def TK.isAgg : TK → Bool
  | .struct _ | .array _ _ => true
  | _ => false

def TK.isOther : TK → Bool
  | .other => true
  | _ => false

/-! ### what a constant is -/
def absS : Value → AV
  | .int k n => .int k n
  | .bool b => .bool b
  | .string s => .str s.data.toList
  | .pointer none => .nilptr
  | .slice none 0 0 => .sl []
  | .nilFunc => .nilfn
  | .nilIface => .nili
  | _ => .undef
def absV : Value → AV
  | .agg cs => .agg (cs.toList.map absS)
  | v => absS v
/-- a nil slice has no spare room -/
def tagZ : AV → Tag
  | .sl _ => .full
  | _ => .no
/-- the cells of a type's zero value -/
def tz (P : Program) (t : TypeId) : List AV :=
  match P.info? t with
  | some i => match i.zero with
    | some v => v.cells.toList.map absS
    | none => []
  | none => []

/-- the zero cells with their tags -/
def tzs (P : Program) (t : TypeId) : List SV := (tz P t).map fun x => (x, tagZ x)
/-- are the elements of this size? -/
def szOk (xs : List AV) (n : Nat) : Bool := match xs with
  | [] => true
  | x :: _ => x.cells.length == n
def hasZero (P : Program) (t : TypeId) : Bool :=
  match P.info? t with
  | some i => i.zero.isSome
  | none => false

structure Ctx where
  P : Program
  glob : Nat → Option (List AV)
  /-- what is forgotten behind a region of a function -/
  drop : FuncId → Nat → List Tmp
  /-- of a Builder's type: the byte's -/
  bty : TypeId → Option TypeId
  /-- what is known of the cells that never change -/
  know : (Nat → Nat → Option Value) → (Nat → Option (TypeId × Nat)) → Prop := fun _ _ => True

def Ctx.eval (c : Ctx) (env : Env) : Operand → SV
  | .tmp t => env.getD t (.undef, .no)
  | .const v => (absV v, tagZ (absV v))
  | .global g => match c.glob g with
    | some cs => (.iptr cs, .no)
    | none => (.undef, .no)
  | .func f => (.fn f [] [], .no)

/-! ### operations that ask nothing of the heap -/
def aCmp (op : BinOp) (x y : Int) : Option AV :=
  match op with
  | .eql => some (.bool (x == y))
  | .neq => some (.bool (x != y))
  | .lss => some (.bool (decide (x < y)))
  | .leq => some (.bool (decide (x ≤ y)))
  | .gtr => some (.bool (decide (x > y)))
  | .geq => some (.bool (decide (x ≥ y)))
  | _ => none
def aBits (op : BinOp) (k : IntKind) (x y : Int) : Option AV :=
  let a := BitVec.ofInt k.bits x
  let b := BitVec.ofInt k.bits y
  match op with
  | .and => some (.int k (k.wrap (a &&& b).toNat))
  | .or => some (.int k (k.wrap (a ||| b).toNat))
  | .xor => some (.int k (k.wrap (a ^^^ b).toNat))
  | .andNot => some (.int k (k.wrap (a &&& ~~~b).toNat))
  | _ => none
def aInt (op : BinOp) (k : IntKind) (x y : Int) : Option AV :=
  match op with
  | .add => some (.int k (k.wrap (x + y)))
  | .sub => some (.int k (k.wrap (x - y)))
  | .mul => some (.int k (k.wrap (x * y)))
  | .quo => if y = 0 then none else some (.int k (k.wrap (x.tdiv y)))
  | .rem => if y = 0 then none else some (.int k (x.tmod y))
  | .and | .or | .xor | .andNot => aBits op k x y
  | .eql | .neq | .lss | .leq | .gtr | .geq => aCmp op x y
  | .shl | .shr => none
def aShift (op : BinOp) (k : IntKind) (x y : Int) : Option AV :=
  if y < 0 then none else
  match op with
  | .shl => some (.int k (k.wrap (x * 2 ^ (min y.toNat k.bits))))
  | .shr => some (.int k (x.fdiv (2 ^ (min y.toNat k.bits))))
  | _ => none
/-- how long a text may be that is made here -/
def maxStr : Nat := 2 ^ 48
def aStr (op : BinOp) (x y : List UInt8) : Option AV :=
  match op with
  | .add => if x.length + y.length ≤ maxStr then some (.str (x ++ y)) else none
  | .eql => some (.bool (x == y))
  | .neq => some (.bool (!(x == y)))
  | .lss => some (.bool (Op.bytesLess x y))
  | .leq => some (.bool (Op.bytesLess x y || x == y))
  | .gtr => some (.bool (!(Op.bytesLess x y || x == y)))
  | .geq => some (.bool (!(Op.bytesLess x y)))
  | _ => none
def aNil (k : TK) (x y : AV) : Option Bool :=
  match k, x, y with
  | .iface, .nili, .nili => some true
  | .iface, .nili, .iface _ _ | .iface, .iface _ _, .nili => some false
  | .ptr _, .nilptr, .nilptr => some true
  | .ptr _, .nilptr, .ptr _ _ | .ptr _, .ptr _ _, .nilptr | .ptr _, .nilptr, .iptr _ | .ptr _, .iptr _, .nilptr => some false
  | .func, .nilfn, .nilfn => some true
  | .func, .nilfn, .fn _ _ _ | .func, .fn _ _ _, .nilfn => some false
  | _, _, _ => none
def isConst : Operand → Bool
  | .const _ => true
  | _ => false
def aBin (c : Ctx) (op : BinOp) (t : TypeId) (x y : AV) : Option AV :=
  match x, y with
  | .int k a, .int k' b =>
    match op with
    | .shl | .shr => aShift op k a b
    | _ => if k = k' then aInt op k a b else none
  | .str a, .str b => aStr op a b
  | .bool a, .bool b => match op, tk c.P t with
    | .eql, .bool => some (.bool (a == b))
    | .neq, .bool => some (.bool (!(a == b)))
    | _, _ => none
  | _, _ => none
def aUn (op : UnOp) (x : AV) : Option AV :=
  match op, x with
  | .not, .bool b => some (.bool (!b))
  | .neg, .int k n => aInt .sub k 0 n
  | .xor, .int k n => aBits .xor k (if k.signed then -1 else k.max) n
  | _, _ => none

end Go.Ab
end
section
namespace Go.Ab

mutual
/-- every pointer leads below block n -/
def AV.low (n : Nat) : AV → Bool
  | .ptr b _ => decide (b < n)
  | .slr b _ _ => decide (b < n)
  | .bself _ b => decide (b < n)
  | .iptr cs => AV.lows n cs
  | .sl xs => AV.lows n xs
  | .fn _ a b => AV.lows n a && AV.lows n b
  | .iface _ v => AV.low n v
  | .agg cs => AV.lows n cs
  | .tup vs => AV.lows n vs
  | _ => true
def AV.lows (n : Nat) : List AV → Bool
  | [] => true
  | v :: vs => AV.low n v && AV.lows n vs
end

def Tag.low1 (m : Nat) : Tag → Bool
  | .tok id => decide (id < m)
  | _ => true
def Tag.low (m : Nat) : Tag → Bool
  | .agg ts => ts.all (Tag.low1 m)
  | t => t.low1 m

def expand (x : SV) : List SV :=
  match x.1 with
  | .agg cs => cs.zipIdx.map fun (c, i) => (c, x.2.at i)
  | v => [(v, x.2.flat)]
def collect (cs : List SV) : SV := (.agg (cs.map (·.1)), .agg (cs.map (·.2)))

def replaceAt {α : Type} (l : List α) (off : Nat) (new : List α) : List α := l.take off ++ new ++ l.drop (off + new.length)

def Ctx.part (c : Ctx) (t : TypeId) (cs : List SV) (off : Nat) : Option SV :=
  match tk c.P t with
  | .other => none
  | .struct _ | .array _ _ => if off + tsz c.P t ≤ cs.length then some (collect ((cs.drop off).take (tsz c.P t))) else none
  | _ => cs[off]?

def aEqs (f : List AV → List AV → Option Bool) (sz : Nat) : Nat → List AV → List AV → Option Bool
  | 0, _, _ => some true
  | n + 1, xs, ys => match f (xs.take sz) (ys.take sz), aEqs f sz n (xs.drop sz) (ys.drop sz) with
    | some a, some b => some (a && b)
    | _, _ => none
def eqFs (f : TypeId → List AV → List AV → Option Bool) (P : Program) (xs ys : List AV) : List (Nat × TypeId) → Option Bool
  | [] => some true
  | x :: fs => match f x.2 ((xs.drop x.1).take (tsz P x.2)) ((ys.drop x.1).take (tsz P x.2)), eqFs f P xs ys fs with
    | some a, some b => some (a && b)
    | _, _ => none
/-- equality of two values of a type, by its cells -/
def Ctx.eqAt (c : Ctx) : Nat → TypeId → List AV → List AV → Option Bool
  | 0 => fun _ _ _ => none
  | d + 1 => fun t xs ys => match tk c.P t, xs, ys with
    | .int _, [.int j a], [.int k b] => if j = k then some (a == b) else none
    | .bool, [.bool a], [.bool b] => some (a == b)
    | .string, [.str a], [.str b] => some (a == b)
    | .array n e, xs, ys => if (c.P.info? e).isNone then none else aEqs (Ctx.eqAt c d e) (tsz c.P e) n xs ys
    | .struct fs, xs, ys => if c.P.stoodInHeld t then none else eqFs (Ctx.eqAt c d) c.P xs ys fs
    | _, _, _ => none

def fillA (place : Nat → Option (Nat × Nat)) (cells : List SV) : List (Nat × SV) → Option (List SV)
  | [] => some cells
  | (i, v) :: rest =>
    match place i with
    | none => none
    | some (off, size) =>
      if v.1.known ∧ (expand v).length = size ∧ off + size ≤ cells.length then fillA place (replaceAt cells off (expand v)) rest else none

def bounds (len : Nat) (lo hi : Option SV) : Option (Nat × Nat) :=
  let h : Option Nat := match hi with
    | none => some len
    | some (.int _ n, _) => if 0 ≤ n ∧ n ≤ len then some n.toNat else none
    | _ => none
  h.bind fun h =>
    match lo with
    | none => some (0, h)
    | some (.int _ n, _) => if 0 ≤ n ∧ n ≤ h then some (n.toNat, h) else none
    | _ => none

def bytesOf : List AV → Option (List UInt8)
  | [] => some []
  | .int .u8 n :: r => (bytesOf r).map (UInt8.ofNat n.toNat :: ·)
  | _ :: _ => none
def toBytes (s : List UInt8) : List AV := s.map fun b => .int .u8 b.toNat

/-- of a pointer's tag, what a part's pointer keeps -/
def Tag.ptrTag : Tag → Tag
  | .full => .full
  | .agg _ => .agg []
  | _ => .no
theorem Tag.ptrTag_cases (t : Tag) : t.ptrTag = .no ∨ t.ptrTag = .full ∨ t.ptrTag = .agg [] := by
  cases t <;> simp [Tag.ptrTag]
/-- how an element's place is known: a number in the text, one of a few, one of many -/
def symTag (i : Operand) (n : Nat) : Tag := if n ≤ 16 then (if isConst i then .no else .full) else .agg []
theorem symTag_ptr (i : Operand) (n : Nat) : symTag i n = .no ∨ symTag i n = .full ∨ symTag i n = .agg [] := by
  unfold symTag
  split
  · split
    · exact .inl rfl
    · exact .inr (.inl rfl)
  · exact .inr (.inr rfl)
/-- operations that hang on their operands alone -/
def Ctx.pure (c : Ctx) (op : Op) (ρ : Operand → SV) : Option SV :=
  match op with
  | .move x | .assign x => some (ρ x)
  | .pick k a b => match (ρ k).1 with
    | .bool t => some (if t then ρ a else ρ b)
    | _ => none
  | .build t parts =>
    if hasZero c.P t = false then none else
    match tk c.P t with
    | .struct fs =>
      match fillA (fun i => (fs[i]?).map fun f => (f.1, tsz c.P f.2)) (tzs c.P t) (parts.toList.map fun p => (p.1, ρ p.2)) with
      | some cells => some (collect cells)
      | none => none
    | .array _ e =>
      if (c.P.info? e).isNone then none else
      match fillA (fun i => some (i * tsz c.P e, tsz c.P e)) (tzs c.P t) (parts.toList.map fun p => (p.1, ρ p.2)) with
      | some cells => some (collect cells)
      | none => none
    | _ => none
  | .buildSlice t len parts =>
    match tk c.P t with
    | .slice e =>
      if parts.toList.map (·.1) = List.range len ∧ len ≤ 65536 ∧ tsz c.P e ≤ 256 ∧ 1 ≤ tsz c.P e ∧ hasZero c.P e ∧ parts.toList.all (fun p => decide ((ρ p.2).1.cells.length = tsz c.P e) && (ρ p.2).1.cells.all AV.isCell) then
        some (.sl (parts.toList.map fun p => (ρ p.2).1), .full)
      else none
    | _ => none
  | .nilCheck x => match (ρ x).1 with
    | .ptr _ _ | .iptr _ => some (ρ x)
    | .fn _ _ _ => some (ρ x)
    | _ => none
  | .binOp op t x y _ =>
    match (ρ x).1, (ρ y).1 with
    | .agg xs, .agg ys => if c.P.eqGuardType c.P.depth t || !(tk c.P t).isAgg then none else match op, c.eqAt 20 t xs ys with
      | .eql, some b => some (.bool b, .no)
      | .neq, some b => some (.bool (!b), .no)
      | _, _ => none
    | .int k a, y => (aBin c op t (.int k a) y).map (·, .no)
    | .str a, y => (aBin c op t (.str a) y).map (·, .no)
    | .bool a, y => (aBin c op t (.bool a) y).map (·, .no)
    | vx, vy => if isConst x || isConst y then match op, aNil (tk c.P t) vx vy with
      | .eql, some b => some (.bool b, .no)
      | .neq, some b => some (.bool (!b), .no)
      | _, _ => none
      else none
  | .unOp op _ x => (aUn op (ρ x).1).map (·, .no)
  | .convert src dst x =>
    if (tk c.P src).isOther then none else
    match tk c.P dst, (ρ x).1 with
    | .int k, .int _ n => some (.int k (k.wrap n), .no)
    | .string, .str s => some (.str s, .no)
    | .string, .sl xs => match tk c.P src with
      | .slice e => match tk c.P e with
        | .int .u8 => (bytesOf xs).map fun s => (.str s, .no)
        | _ => none
      | _ => none
    | _, _ => none
  | .makeInterface t x => match tk c.P t with
    | .iface => none
    | .other => none
    | _ => some (.iface t (ρ x).1, .no)
  | .makeFunc (.func f) first captured => some (.fn f (first.toList.map fun x => (ρ x).1) (captured.toList.map fun x => (ρ x).1), .no)
  | .slice t x lo hi mx =>
    match tk c.P t, (ρ x).1, mx with
    | .string, .str s, none => (bounds s.length (lo.map ρ) (hi.map ρ)).map fun (l, h) => (.str ((s.take h).drop l), .no)
    | .slice e, .sl xs, none => if 1 ≤ tsz c.P e ∧ szOk xs (tsz c.P e) = true then (bounds xs.length (lo.map ρ) (hi.map ρ)).map fun (l, h) => (.sl ((xs.take h).drop l), .no) else none
    | .slice e, .sl _, some m => match lo, hi, (ρ m).1 with
      | none, some h, .int _ m0 => match (ρ h).1 with
        | .int _ h0 => if 1 ≤ tsz c.P e ∧ m0 = 0 ∧ h0 = 0 then some (.sl [], .full) else none
        | _ => none
      | _, _, _ => none
    | .slice e, .slr b o n, none => if 1 ≤ tsz c.P e then (bounds n (lo.map ρ) (hi.map ρ)).bind fun (l, h) => if l = 0 ∨ l < n then some (.slr b (o + l * tsz c.P e) (h - l), .no) else none else none
    | .array n e, .ptr b o, none => match lo, hi with
      | none, none => if 1 ≤ tsz c.P e then some (.slr b o n, .no) else none
      | _, _ => if 1 ≤ tsz c.P e then (bounds n (lo.map ρ) (hi.map ρ)).bind fun (l, h) => if l < n then some (.slr b (o + l * tsz c.P e) (h - l), .no) else none else none
    | _, _, _ => none
  | .fieldAddr t x f =>
    match tk c.P t with
    | .struct fs => match fs[f]? with
      | some (off, ty) => if tsz c.P ty = 0 then none else match (ρ x).1 with
        | .ptr b o => some (.ptr b (o + off), (ρ x).2.ptrTag)
        | .iptr cs => some (.iptr (cs.drop off), (ρ x).2.ptrTag)
        | _ => none
      | none => none
    | _ => none
  | .field t x f =>
    match tk c.P t with
    | .struct fs => match fs[f]?, (ρ x).1 with
      | some (off, ty), .agg _ => c.part ty (expand (ρ x)) off
      | _, _ => none
    | _ => none
  | .indexAddr t x i =>
    match (ρ i).1 with
    | .int _ n =>
      match tk c.P t, (ρ x).1 with
      | .slice e, .sl xs => if 0 ≤ n ∧ n < xs.length ∧ 1 ≤ tsz c.P e then (xs[n.toNat]?).bind fun v => if v.cells.length = tsz c.P e then some (.iptr v.cells, .no) else none else none
      | .slice e, .slr b o m => if 0 ≤ n ∧ n < m ∧ 1 ≤ tsz c.P e then some (.ptr b (o + n.toNat * tsz c.P e), .agg []) else none
      | .array m e, .ptr b o => if 0 ≤ n ∧ n < m ∧ 1 ≤ tsz c.P e then some (.ptr b (o + n.toNat * tsz c.P e), symTag i (m * tsz c.P e)) else none
      | .array m e, .iptr cs => if 0 ≤ n ∧ n < m ∧ 1 ≤ tsz c.P e then some (.iptr (cs.drop (n.toNat * tsz c.P e)), symTag i (m * tsz c.P e)) else none
      | _, _ => none
    | _ => none
  | .index t x i =>
    match (ρ i).1 with
    | .int _ n =>
      match tk c.P t, (ρ x).1 with
      | .array m e, .agg _ => if 0 ≤ n ∧ n < m then c.part e (expand (ρ x)) (n.toNat * tsz c.P e) else none
      | .string, .str s => if 0 ≤ n then (s[n.toNat]?).map fun b => (.int .u8 b.toNat, .no) else none
      | _, _ => none
    | _ => none
  | .extract t i => match ρ t with
    | (.tup vs, tg) => (vs[i]?).map fun v => (v, tg.at i)
    | _ => none
  | .typeAssert x _ t ok =>
    if hasZero c.P t = false then none else
    match tk c.P t, (ρ x).1 with
    | .iface, _ | .other, _ => none
    | _, .iface u v =>
      if u = t then some (if ok then (.tup [v, .bool true], .no) else (v, .no))
      else if ok then some (.tup [.undef, .bool false], .no) else none
    | _, .nili => if ok then some (.tup [.undef, .bool false], .no) else none
    | _, _ => none
  | .load t x =>
    match (ρ x).1 with
    | .iptr cs => c.part t (cs.map (·, .no)) 0
    | _ => none
  | .call { callee := .builtin .len, args, argTypes } =>
    match args.toList, argTypes.toList with
    | [x], [t] => match tk c.P t with
      | .string => match (ρ x).1 with
        | .str s => some (.int .i64 s.length, .no)
        | _ => none
      | .slice _ => match (ρ x).1 with
        | .sl xs => some (.int .i64 xs.length, .no)
        | .slr _ _ n => some (.int .i64 n, .no)
        | .buf _ s => some (.int .i64 s.length, .no)
        | _ => none
      | .array n _ => some (.int .i64 n, .no)
      | _ => none
    | _, _ => none
  | .call { callee := .builtin .min, args, .. } =>
    match args.toList with
    | [x, y] => match (ρ x).1, (ρ y).1 with
      | .int k a, .int k' b => if k = k' then some (.int k (if b < a then b else a), .no) else none
      | _, _ => none
    | _ => none
  | .call { callee := .builtin .max, args, .. } =>
    match args.toList with
    | [x, y] => match (ρ x).1, (ρ y).1 with
      | .int k a, .int k' b => if k = k' then some (.int k (if b > a then b else a), .no) else none
      | _, _ => none
    | _ => none
  | _ => none

/-- operations that read the heap's blocks -/
def Ctx.read (c : Ctx) (op : Op) (ρ : Operand → SV) (S : St) : Option SV :=
  match op with
  | .load t x =>
    match (ρ x).1 with
    | .ptr b o => match S.H[b]? with
      | some cells => c.part t cells o
      | none => none
    | _ => none
  | .convert src dst x =>
    match tk c.P dst, (ρ x).1, tk c.P src with
    | .string, .slr b o n, .slice e => match tk c.P e, S.H[b]? with
      | .int .u8, some cells => if o + n ≤ cells.length then (bytesOf (((cells.drop o).take n).map (·.1))).map fun s => (.str s, .no) else none
      | _, _ => none
    | _, _, _ => none
  | _ => none

end Go.Ab
end
