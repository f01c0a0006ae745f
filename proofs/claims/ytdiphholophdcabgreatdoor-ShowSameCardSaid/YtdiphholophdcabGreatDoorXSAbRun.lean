import Derived.Test.YtdiphholophdcabGreatDoorXSAbDom
import Derived.Test.YtdiphholophdcabGreatDoorXSAbBeq
import Derived.CheckFast
import Derived.Below
import Derived.Laws.Cells
import Derived.Laws.StructEq
import Derived.Laws.Strings
import Derived.ChangeKeysEq
import Derived.Laws.BytesString
set_option linter.all false
section
namespace Go.Ab

/-- what a call comes to -/
inductive COut where
  | ret (v : SV)
  | panic (v : AV)
inductive Ex where
  | normal
  | exit (id : Nat)
  | ret
  | panic (v : AV)
structure Fr where
  env : Env
  ds : List (FuncId × List SV)
def Fr.put (fr : Fr) (dst : Option Tmp) (v : SV) : Fr :=
  match dst with
  | some d => { fr with env := fr.env.set d v }
  | none => fr
abbrev CallFn := FuncId → List SV → St → Option (COut × St)

/-- no list that a run makes is longer -/
def maxLen : Nat := 2 ^ 32
/-- how many elements of so many bytes a row may have -/
def roomB (b : Nat) : Nat := match b with
  | 0 => 4294967296
  | b + 1 => 140737488355328 / (b + 1)
theorem roomB_le (b n : Nat) (h : n ≤ roomB b) : n ≤ 140737488355328 ∧ n * b ≤ 140737488355328 := by
  cases b with
  | zero => simp only [roomB] at h; omega
  | succ b =>
    simp only [roomB] at h
    have h1 : n * (b + 1) ≤ 140737488355328 := (Nat.le_div_iff_mul_le (Nat.succ_pos b)).1 h
    have h2 : n * 1 ≤ n * (b + 1) := Nat.mul_le_mul_left n (by omega)
    exact ⟨by omega, h1⟩
theorem roomB_ge {b n : Nat} (hb : b ≤ 4096) (h : n ≤ maxLen) : n ≤ roomB b := by
  have hm : maxLen = 4294967296 := rfl
  cases b with
  | zero => simp only [roomB]; omega
  | succ b =>
    simp only [roomB]
    refine (Nat.le_div_iff_mul_le (Nat.succ_pos b)).2 ?_
    have h3 : n * (b + 1) ≤ 4294967296 * 4096 := Nat.mul_le_mul (by omega) hb
    exact Nat.le_trans h3 (by decide)

inductive ARes where
  | ok (v : SV) (S : St)
  | panic (v : AV) (S : St)

/-- what may be kept in a cell of block b: no pointer to what is newer; where the block is older than the frame, no token but the cell's own -/
def keepTag (older : Bool) (new old : Tag) : Tag :=
  match new with
  | .tok i => if older then (match old with
    | .tok j => if i = j then .tok i else .no
    | _ => .no) else .tok i
  | .full => .full
  | _ => .no
def keepIn (older : Bool) (b : Nat) (old new : SV) : SV := if new.1.low (b + 1) then (new.1, keepTag older new.2 old.2) else (.undef, .no)
/-- the cells of a new variable: a nil slice gets a token where the type is one whose fields grow -/
def newCells (pre : Bool) : List SV → Nat → List SV × List Nat
  | [], _ => ([], [])
  | (.sl xs, .full) :: r, m => if pre then let x := newCells pre r (m + 1); ((.sl xs, .tok m) :: x.1, xs.length :: x.2) else let x := newCells pre r m; ((.sl xs, .full) :: x.1, x.2)
  | c :: r, m => let x := newCells pre r m; (c :: x.1, x.2)

structure Env0 where
  c : Ctx
  pre : TypeId → Bool
  n0 : Nat
  m0 : Nat
  call : CallFn
  drop : Nat → List Tmp

def Env0.newVar (e : Env0) (t : TypeId) (cells : List SV) (S : St) : ARes :=
  let x := newCells (e.pre t) cells S.T.length
  .ok (.ptr S.H.length 0, .no) ⟨S.H ++ [x.1], S.T ++ x.2⟩

def storeCells (n0 b o : Nat) (old : List SV) (new : List SV) : List SV :=
  replaceAt old o (new.zipIdx.map fun (x, i) => keepIn (decide (b < n0)) b (old.getD (o + i) (.undef, .no)) x)

/-- the elements that an append adds -/
def Env0.added (e : Env0) (S : St) (elem : TypeId) (k : TK) (x : AV) : Option (List AV) :=
  match x, k with
  | .sl ys, .slice _ => if szOk ys (tsz e.c.P elem) then some ys else none
  | .str s, .string => match tk e.c.P elem with
    | .int .u8 => if tsz e.c.P elem = 1 then some (toBytes s) else none
    | _ => none
  | .slr b o n, .slice _ => match S.H[b]? with
    | some cells => if tsz e.c.P elem = 1 ∧ o + n ≤ cells.length ∧ (((cells.drop o).take n).map (·.1)).all AV.isCell then some (((cells.drop o).take n).map (·.1)) else none
    | none => none
  | _, _ => none
def Env0.appendL (e : Env0) (t t2 : TypeId) (s x : SV) (S : St) : Option ARes :=
  match tk e.c.P t with
  | .slice elem =>
    match (match s.1 with | .sl xs => if szOk xs (tsz e.c.P elem) then some xs else none | _ => none), e.added S elem (tk e.c.P t2) x.1 with
    | some xs, some ys =>
      if xs.length + ys.length ≤ roomB (e.c.P.bytesOf elem) ∧ 1 ≤ tsz e.c.P elem ∧ tsz e.c.P elem ≤ 256 ∧ e.c.P.bytesOf elem ≤ 4096 ∧ hasZero e.c.P elem ∧ (tz e.c.P elem).length = tsz e.c.P elem then
        match s.2 with
        | .tok id =>
          if S.T[id]? = some xs.length then
            if ys.isEmpty then some (.ok s S)
            else some (.ok (.sl (xs ++ ys), .tok id) ⟨S.H, S.T.set id (xs.length + ys.length)⟩)
          else none
        | .full =>
          if ys.isEmpty then some (.ok s S)
          else some (.ok (.sl (xs ++ ys), .tok S.T.length) ⟨S.H, S.T ++ [xs.length + ys.length]⟩)
        | _ => none
      else none
    | _, _ => none
  | _ => none

/-- a pointer to bytes -/
def ptrU8 (P : Program) (pt u : TypeId) : Bool := (match tk P pt with | .ptr e => e == u | _ => false) && (match tk P u with | .int .u8 => true | _ => false) && tsz P u == 1
/-- the bytes that an append adds -/
def bytesIn (k : TK) (x : AV) : Option (List UInt8) :=
  match x, k with
  | .str s, .string => some s
  | .sl [.int .u8 n], .slice _ => if 0 ≤ n ∧ n < 256 then some [UInt8.ofNat n.toNat] else none
  | _, _ => none
/-- a row of bytes grows as the list of its bytes does -/
def bufOf (u : TypeId) (s : List UInt8) : ARes → Option ARes
  | .ok (_, tg) S => some (.ok (.buf u s, tg) S)
  | _ => none
def Env0.append (e : Env0) (t t2 : TypeId) (s x : SV) (S : St) : Option ARes :=
  match s with
  | (.buf u bs, tg) => match tk e.c.P t, bytesIn (tk e.c.P t2) x.1 with
    | .slice elem, some ys => if elem = u then (e.appendL t t2 (.sl (toBytes bs), tg) x S).bind (bufOf u (bs ++ ys)) else none
    | _, _ => none
  | _ => e.appendL t t2 s x S
/-- the cells of a new variable of a Builder's type -/
def zeroB (t u : TypeId) (b m : Nat) : Blk := [(.bself t b, .no), (.buf u [], .tok m)]
def isZeroB : List SV → Bool
  | [(.nilptr, .no), (.sl [], .full)] => true
  | _ => false

def Env0.act (e : Env0) (op : Op) (ρ : Operand → SV) (S : St) : Option ARes :=
  match op with
  | .alloc t => if hasZero e.c.P t then (match e.c.bty t with
      | none => some (e.newVar t (tzs e.c.P t) S)
      | some u => if isZeroB (tzs e.c.P t) && decide (tsz e.c.P t = 2) then some (.ok (.ptr S.H.length 0, .no) ⟨S.H ++ [zeroB t u S.H.length S.T.length], S.T ++ [0]⟩) else none) else none
  | .box t x => if (ρ x).1.known then some (e.newVar t (expand (ρ x)) S) else none
  | .store t a x =>
    match (ρ a).1 with
    | .ptr b o => match S.H[b]? with
      | some cells =>
        if (expand (ρ x)).length = tsz e.c.P t ∧ 1 ≤ tsz e.c.P t ∧ o + tsz e.c.P t ≤ cells.length ∧ (expand (ρ x)).all (fun y => y.1.isCell) then
          some (.ok (.tup [], .no) ⟨S.H.set b (storeCells e.n0 b o cells (expand (ρ x))), S.T⟩)
        else none
      | none => none
    | _ => none
  | .makeSlice t l k =>
    match tk e.c.P t, (ρ l).1, (ρ k).1 with
    | .slice elem, .int _ n, .int _ m =>
      if n = m ∧ 0 ≤ n ∧ n ≤ maxLen ∧ tsz e.c.P elem = 1 ∧ e.c.P.bytesOf elem ≤ 64 ∧ hasZero e.c.P elem ∧ (tz e.c.P elem).length = 1 then
        some (.ok (.slr S.H.length 0 n.toNat, .no) ⟨S.H ++ [List.replicate n.toNat ((tz e.c.P elem).headD .undef, .no)], S.T⟩)
      else none
    | _, _, _ => none
  | .convert src dst x =>
    if (tk e.c.P src).isOther then none else
    match tk e.c.P dst, (ρ x).1 with
    | .slice elem, .str s => match tk e.c.P elem with
      | .int .u8 => some (.ok (.slr S.H.length 0 s.length, .no) ⟨S.H ++ [(toBytes s).map (·, .no)], S.T⟩)
      | _ => none
    | _, _ => none
  | .panic x => match (ρ x).1 with
    | .iface t v => some (.panic (.iface t v) S)
    | _ => none
  | .call { callee := .builtin .append, args, argTypes } =>
    match args.toList, argTypes.toList with
    | [s, x], [t, t2] => e.append t t2 (ρ s) (ρ x) S
    | _, _ => none
  | .call { callee := .builtin .unsafeSliceData, args, .. } =>
    match args.toList with
    | [x] => match ρ x with
      | (.buf u s, .tok id) => if S.T[id]? = some s.length then some (.ok (.bptr u s, .tok id) S) else none
      | _ => none
    | _ => none
  | .call { callee := .builtin .unsafeString, args, argTypes } =>
    match args.toList, argTypes.toList with
    | [x, n], [pt, _] => match ρ x, (ρ n).1 with
      | (.bptr u s, .tok id), .int .i64 k => if S.T[id]? = some s.length ∧ k = (s.length : Nat) ∧ s.length ≤ maxLen ∧ ptrU8 e.c.P pt u = true then some (.ok (.str s, .no) S) else none
      | _, _ => none
    | _, _ => none
  | .call { callee := .value f, args, .. } =>
    match (ρ f).1 with
    | .fn k first cap =>
      match e.call k (first.map (·, .no) ++ args.toList.map ρ ++ cap.map (·, .no)) S with
      | some (.ret v, S') => some (.ok v S')
      | some (.panic v, S') => some (.panic v S')
      | none => none
    | _ => none
  | _ => none

def isAct : Op → Bool
  | .alloc _ | .box _ _ | .store _ _ _ | .makeSlice _ _ _ | .panic _ => true
  | .call { callee := .builtin .len, .. } | .call { callee := .builtin .min, .. } | .call { callee := .builtin .max, .. } => false
  | .call _ => true
  | _ => false

def wantedA (ops : Array Oper) (env : Env) (o : Oper) : Option Bool :=
  match o.guard with
  | none => some true
  | some (j, want) => match (ops[j]?).bind (·.dst) with
    | some d => match (env.getD d (.undef, .no)).1 with
      | .bool b => some (b == want)
      | .tup [] => some false
      | _ => none
    | none => none

inductive ORes where
  | ok (fr : Fr) (S : St)
  | panic (v : AV) (fr : Fr) (S : St)

/-- one operation, in the text's order -/
def Env0.step (e : Env0) (ops : Array Oper) (o : Oper) (fr : Fr) (S : St) : Option ORes :=
  match wantedA ops fr.env o with
  | none => none
  | some false => some (.ok (fr.put o.dst (.tup [], .no)) S)
  | some true =>
    match o.op with
    | .defer { callee := .value f, args, .. } =>
      match (e.c.eval fr.env f).1 with
      | .fn k first cap => some (.ok ({ fr with ds := (k, (first ++ args.toList.map (fun x => (e.c.eval fr.env x).1) ++ cap).map fun v => ((v, Tag.no) : SV)) :: fr.ds }.put o.dst (.tup [], .no)) S)
      | _ => none
    | op =>
      match e.c.pure op (e.c.eval fr.env) with
      | some v => some (.ok (fr.put o.dst v) S)
      | none =>
        match e.c.read op (e.c.eval fr.env) S with
        | some v => some (.ok (fr.put o.dst v) S)
        | none =>
          match e.act op (e.c.eval fr.env) S with
          | some (.ok v S') => some (.ok (fr.put o.dst v) S')
          | some (.panic v S') => some (.panic v fr S')
          | none => none

def Env0.ops (e : Env0) (ops : Array Oper) : List Oper → Fr → St → Option ORes
  | [], fr, S => some (.ok fr S)
  | o :: rest, fr, S =>
    match e.step ops o fr S with
    | some (.ok fr' S') => e.ops ops rest fr' S'
    | r => r

/-- is t overwritten by one of these operations? then what it holds is forgotten -/
def forget (ops : List Oper) (fr : Fr) : Fr := { fr with env := ops.foldl (fun env o => match o.dst with | some d => env.set d (.undef, .no) | none => env) fr.env }

/-! ### a region whose order is open -/
def allocs (P : Program) (o : Oper) : Bool :=
  match o.op, o.guard with
  | .alloc t, none => hasZero P t
  | _, _ => false
/-- what moves the state, but for new variables -/
def moves (P : Program) (o : Oper) : Bool :=
  match o.op with
  | .alloc _ => false
  | .convert _ dst _ => match tk P dst with
    | .slice _ => true
    | _ => false
  | op => isAct op
def readsTmp (ops : Array Oper) (o : Oper) : List Tmp :=
  (o.op.operands.toList.filterMap fun | .tmp t => some t | _ => none) ++
  (match o.guard with
    | some (j, _) => ((ops[j]?).bind (·.dst)).toList
    | none => [])
/-- j comes ahead of i in every order -/
def ahead (b : List Nat) (i j : Nat) : Bool := (b.getD i 0).testBit j
def goodOp : Op → Bool
  | .defer _ | .go _ | .select _ _ | .send _ _ | .recv _ _ _ => false
  | .call { callee := .invoke _ _, .. } => false
  | .call { callee := .builtin .recover, .. } => false
  | _ => true
def drawOkAt (P : Program) (ops : Array Oper) (b : List Nat) (i : Nat) (o : Oper) : Bool :=
  goodOp o.op &&
  o.after.all (fun e => !Region.binds .any e || decide (e.on < i)) &&
  (match o.guard with
    | none => true
    | some (j, _) => ahead b i j) &&
  (List.range i).all fun j =>
    match ops[j]? with
    | none => false
    | some p =>
      (o.dst.isNone || !(o.dst == p.dst)) &&
      (ahead b i j || (!(moves P o && moves P p) && (match p.dst with | some d => !(readsTmp ops o).contains d | none => true) && (match o.dst with | some d => !(readsTmp ops p).contains d | none => true)))
def drawOk (P : Program) (ops : Array Oper) (b : List Nat) : Bool := ops.toList.zipIdx.all fun (o, i) => drawOkAt P ops b i o
def lows (P : Program) (ops : Array Oper) (b : List Nat) (i : Nat) : Nat := ((List.range ops.size).filter fun j => (((ops[j]?).map (moves P)).getD false) && ahead b i j).length
def highs (P : Program) (ops : Array Oper) (b : List Nat) (i : Nat) : Nat := ((List.range ops.size).filter fun j => (((ops[j]?).map (moves P)).getD false) && !ahead b j i).length

structure Rec where
  o : Oper
  env : Env
  v : SV
  al : Nat
def Env0.zeroVar (e : Env0) (t : TypeId) (m : Nat) : List SV × List Nat := newCells (e.pre t) (tzs e.c.P t) m
/-- the new variables of a region are laid ahead of it -/
def Env0.prealloc (e : Env0) : List Oper → St → St
  | [], S => S
  | o :: r, S =>
    if allocs e.c.P o then
      match o.op with
      | .alloc t => e.prealloc r ⟨S.H ++ [(e.zeroVar t S.T.length).1], S.T ++ (e.zeroVar t S.T.length).2⟩
      | _ => e.prealloc r S
    else e.prealloc r S
/-- what an operation of a region sees -/
def Ctx.evalR (c : Ctx) (env : Env) (rd : List Tmp) : Operand → SV
  | .tmp t => if rd.contains t then env.getD t (.undef, .no) else (.undef, .no)
  | x => c.eval env x
/-- does the block at b still hold what it held ahead of the region? -/
def Env0.fresh (b : Nat) (S0 S : St) : Bool :=
  match S0.H[b]?, S.H[b]? with
  | some x, some y => SV.beqs x y
  | _, _ => false
def Env0.quietAt (e : Env0) (ops : Array Oper) (S0 : St) (base al : Nat) (o : Oper) (env : Env) (S : St) : Option SV :=
  match wantedA ops env o with
  | none => none
  | some false => some (.tup [], .no)
  | some true =>
    match o.op with
    | .alloc _ => if allocs e.c.P o && Env0.fresh (base + al) S0 S then some (.ptr (base + al) 0, .no) else none
    | op => match e.c.pure op (e.c.evalR env (readsTmp ops o)) with
      | some v => some v
      | none => e.c.read op (e.c.evalR env (readsTmp ops o)) S
inductive DRes where
  | ok (env : Env) (Ss : List St) (recs : List Rec)
  | panic (v : AV) (S : St) (Ss : List St) (recs : List Rec) (rest : List Oper)
/-- the region in the text's order: the states that it goes through (the last one first), what each operation gave -/
def Env0.lexD (e : Env0) (ops : Array Oper) (S0 : St) (base : Nat) : List Oper → Nat → Env → List St → List Rec → Option DRes
  | [], _, env, Ss, recs => some (.ok env Ss recs)
  | o :: rest, al, env, Ss, recs =>
    match Ss with
    | [] => none
    | S :: _ =>
      let al' := if allocs e.c.P o then al + 1 else al
      if moves e.c.P o then
        match wantedA ops env o with
        | none => none
        | some false => e.lexD ops S0 base rest al' (Fr.put ⟨env, []⟩ o.dst (.tup [], .no)).env (S :: Ss) (⟨o, env, (.tup [], .no), al⟩ :: recs)
        | some true =>
          match e.act o.op (e.c.evalR env (readsTmp ops o)) S with
          | some (.ok v S') => e.lexD ops S0 base rest al' (Fr.put ⟨env, []⟩ o.dst v).env (S' :: Ss) (⟨o, env, v, al⟩ :: recs)
          | some (.panic v S') => some (.panic v S' Ss (⟨o, env, (.undef, .no), al⟩ :: recs) rest)
          | none => none
      else
        match e.quietAt ops S0 base al o env S with
        | some v => e.lexD ops S0 base rest al' (Fr.put ⟨env, []⟩ o.dst v).env Ss (⟨o, env, v, al⟩ :: recs)
        | none => none
/-- each reading operation gives the same in every state in which an order may let it come -/
def Env0.sameAll (e : Env0) (ops : Array Oper) (b : List Nat) (S0 : St) (base : Nat) (Ss : List St) : Nat → List Rec → Bool
  | _, [] => true
  | i, r :: rs =>
    (moves e.c.P r.o || (e.c.pure r.o.op (e.c.evalR r.env (readsTmp ops r.o))).isSome ||
      ((List.range (highs e.c.P ops b i + 1)).all fun k =>
        decide (k < lows e.c.P ops b i) ||
        match Ss[k]? with
        | some S => match e.quietAt ops S0 base r.al r.o r.env S with
          | some v => SV.beq v r.v
          | none => false
        | none => true)) && e.sameAll ops b S0 base Ss (i + 1) rs
/-- behind a panic: what is left waits for it, or is a mere move -/
def restOk (b : List Nat) (p : Nat) : Nat → List Oper → Bool
  | _, [] => true
  | i, o :: r => (ahead b i p || ((match o.op with | .move _ => true | _ => false) && o.guard.isNone)) && restOk b p (i + 1) r
def Env0.drawsAt (e : Env0) (ops : Array Oper) (b : List Nat) (S0 : St) (fr : Fr) (S : St) : Option (Ex × Fr × St) :=
  if drawOk e.c.P ops b then
    match e.lexD ops S0 S.H.length ops.toList 0 fr.env [S0] [] with
    | some (.ok env Ss recs) =>
      if e.sameAll ops b S0 S.H.length Ss.reverse 0 recs.reverse then some (.normal, ⟨env, fr.ds⟩, Ss.headD S) else none
    | some (.panic v S' Ss recs rest) =>
      if e.sameAll ops b S0 S.H.length Ss.reverse 0 recs.reverse && restOk b (recs.length - 1) recs.length rest then
        some (.panic v, forget ops.toList fr, S') else none
    | none => none
  else none
def Env0.draws (e : Env0) (ops : Array Oper) (fr : Fr) (S : St) : Option (Ex × Fr × St) := e.drawsAt ops (CheckFast.beforeL ops.toList 0 []) (e.prealloc ops.toList S) fr S
def Env0.region (e : Env0) (ops : Array Oper) (draw : Bool) (fr : Fr) (S : St) : Option (Ex × Fr × St) :=
  if draw then e.draws ops fr S else
  match e.ops ops ops.toList fr S with
  | some (.ok fr' S') => some (.normal, fr', S')
  | some (.panic v fr' S') => some (.panic v, fr', S')
  | none => none

/-! ### loops -/
def Tag.max1 : Tag → Nat
  | .tok id => id + 1
  | _ => 0
def Tag.maxTok : Tag → Nat
  | .agg ts => ts.foldl (fun m t => max m t.max1) 0
  | t => t.max1
def maxTok (l : List SV) (m : Nat) : Nat := l.foldl (fun m x => max m x.2.maxTok) m
def SV.low' (n : Nat) (x : SV) : SV := if x.1.low n then x else (.undef, .no)
/-- what stays of a round: slots that stood before the loop, blocks that stood before it -/
def tidyEnv (n : Nat) : Env → Env → Env
  | _, [] => []
  | [], f :: fs => SV.low' n f :: tidyEnv n [] fs
  | e :: es, f :: fs => (match e.1 with | .undef => (.undef, .no) | _ => SV.low' n f) :: tidyEnv n es fs
def tidyT (m : Nat) (T : List Nat) (env : Env) (loc : List Blk) : List Nat := if T.length = m then T else T.take (loc.foldl (fun m b => maxTok b m) (maxTok env m))
def Env0.tidy (e : Env0) (env0 : Env) (S0 : St) (fr : Fr) (S : St) : Fr × St :=
  (⟨tidyEnv S0.H.length env0 fr.env, fr.ds.map fun d => (d.1, d.2.map (SV.low' S0.H.length))⟩,
    ⟨S.H.take S0.H.length, tidyT S0.T.length S.T (tidyEnv S0.H.length env0 fr.env) ((S.H.take S0.H.length).drop e.n0)⟩)

def iter (f : Fr → St → Option (Ex × Fr × St)) (tidy : Fr → St → Fr × St) : Nat → Fr → St → Option (Ex × Fr × St)
  | 0, _, _ => none
  | k + 1, fr, S =>
    match f fr S with
    | some (.normal, fr', S') => iter f tidy k (tidy fr' S').1 (tidy fr' S').2
    | r => r

/-- the slots that only a region's own operations see -/
def dropped (ts : List Tmp) (fr : Fr) : Fr := { fr with env := ts.foldl (fun env t => env.set t (.undef, .no)) fr.env }
def Env0.code (e : Env0) (fuel : Nat) : Code → Fr → St → Option (Ex × Fr × St)
  | .skip, fr, S => some (.normal, fr, S)
  | .label _, fr, S => some (.normal, fr, S)
  | .region id ops draw, fr, S => (e.region ops draw fr S).map fun r => (r.1, dropped (e.drop id) r.2.1, r.2.2)
  | .seq a b, fr, S =>
    match e.code fuel a fr S with
    | some (.normal, fr', S') => e.code fuel b fr' S'
    | r => r
  | .cond x a b, fr, S =>
    match (e.c.eval fr.env x).1 with
    | .bool true => e.code fuel a fr S
    | .bool false => e.code fuel b fr S
    | _ => none
  | .block id body, fr, S =>
    match e.code fuel body fr S with
    | some (.exit id', fr', S') => if id' = id then some (.normal, fr', S') else some (.exit id', fr', S')
    | r => r
  | .loop body, fr, S => iter (fun fr S => e.code fuel body fr S) (e.tidy fr.env S) fuel fr S
  | .exit id, fr, S => some (.exit id, fr, S)
  | .ret, fr, S => some (.ret, fr, S)
  | _, _, _ => none

/-! ### calls -/
def Ctx.result (c : Ctx) (env : Env) (S : St) : ResultVar → Option SV
  | .tmp t => some (env.getD t (.undef, .no))
  | .cell a t => match (env.getD a (.undef, .no)).1 with
    | .ptr b o => match S.H[b]? with
      | some cells => c.part t cells o
      | none => none
    | _ => none
def allSome {α : Type} : List (Option α) → Option (List α)
  | [] => some []
  | some a :: r => (allSome r).map (a :: ·)
  | none :: _ => none
/-- how a result leaves its function: a slice of the function's own gets the caller's next token -/
def leaveTag (m0 : Nat) (T : List Nat) (x : SV) : Tag × List Nat :=
  match x with
  | (.sl xs, .full) => (.tok m0, [xs.length])
  | (.sl xs, .tok id) =>
    if id < m0 then (.tok id, [])
    else if T[id]? = some xs.length then (.tok m0, [xs.length]) else (.no, [])
  | _ => (.no, [])
def leaveTags (m0 : Nat) (T : List Nat) : List SV → List SV × List Nat
  | [] => ([], [])
  | x :: r =>
    let y := leaveTag m0 T x
    if y.2.isEmpty then let z := leaveTags m0 T r; ((x.1, y.1) :: z.1, z.2)
    else ((x.1, y.1) :: r.map (fun z => (z.1, .no)), y.2)
def asOne : List SV → SV
  | [v] => v
  | vs => (.tup (vs.map (·.1)), .agg (vs.map (·.2)))
def leave (n0 m0 : Nat) (S : St) (vs : List SV) : COut × St :=
  if vs.all (fun v => v.1.low n0) then
    (.ret (asOne (leaveTags m0 S.T vs).1), ⟨S.H.take n0, S.T.take m0 ++ (leaveTags m0 S.T vs).2⟩)
  else (.ret (asOne vs), S)
def Ctx.finish (c : Ctx) (fn : Func) (n0 m0 : Nat) (fr : Fr) (S : St) : Option (COut × St) :=
  match allSome (fn.results.toList.map (c.result fr.env S)) with
  | some vs => some (leave n0 m0 S vs)
  | none => none


/-- the frame below, as a deferred call finds it -/
inductive Below1 where
  | returning
  | panics (v : AV)
  | recovered
def isRecover : Oper → Bool
  | { op := .call { callee := .builtin .recover, .. }, guard := none, .. } => true
  | _ => false
/-- the operations of a deferred function that asks recover -/
def Env0.opsD (e : Env0) (ops : Array Oper) : List Oper → Below1 → Fr → St → Option (Below1 × ORes)
  | [], u, fr, S => some (u, .ok fr S)
  | o :: rest, u, fr, S =>
    if isRecover o then
      match u with
      | .panics v => e.opsD ops rest .recovered (fr.put o.dst (v, .no)) S
      | _ => e.opsD ops rest u (fr.put o.dst (.nili, .no)) S
    else
    match e.step ops o fr S with
    | some (.ok fr' S') => e.opsD ops rest u fr' S'
    | some (.panic v fr' S') => some (u, .panic v fr' S')
    | none => none
def asksRecover : Code → Bool
  | .region _ ops false => ops.toList.any isRecover
  | .seq a b => asksRecover a || asksRecover b
  | _ => false
def Env0.codeD (e : Env0) (fuel : Nat) : Code → Below1 → Fr → St → Option (Below1 × Ex × Fr × St)
  | .seq a b, u, fr, S =>
    if asksRecover (.seq a b) then
      match e.codeD fuel a u fr S with
      | some (u', .normal, fr', S') => e.codeD fuel b u' fr' S'
      | r => r
    else (e.code fuel (.seq a b) fr S).map fun r => (u, r)
  | .region id ops false, u, fr, S =>
    if ops.toList.any isRecover then
      match e.opsD ops ops.toList u fr S with
      | some (u', .ok fr' S') => some (u', .normal, fr', S')
      | some (u', .panic v fr' S') => some (u', .panic v, fr', S')
      | none => none
    else (e.code fuel (.region id ops false) fr S).map fun r => (u, r)
  | k, u, fr, S => (e.code fuel k fr S).map fun r => (u, r)

def frame0 (fn : Func) (args : List SV) : Fr := ⟨args ++ List.replicate (fn.ntmps - args.length) (.undef, .no), []⟩

/-- a deferred call, made while the frame below leaves -/
def Ctx.deferred (c : Ctx) (pre : TypeId → Bool) (call : CallFn) (n : Nat) (g : FuncId) (args : List SV) (u : Below1) (S : St) : Option (Below1 × St) :=
  match c.P.funcs[g]? with
  | none => none
  | some fn =>
    match fn.body with
    | none => none
    | some code =>
      if fn.results.size = 0 then
        match Env0.codeD ⟨c, pre, S.H.length, S.T.length, call, c.drop g⟩ n code u (frame0 fn args) S with
        | some (u', .normal, ⟨_, []⟩, S') | some (u', .ret, ⟨_, []⟩, S') => some (u', ⟨S'.H.take S.H.length, S'.T.take S.T.length⟩)
        | _ => none
      else none
def panicked (n0 m0 : Nat) (v : AV) (S : St) : Option (COut × St) := if v.low n0 then some (.panic v, ⟨S.H.take n0, S.T.take m0⟩) else none
/-- how a body's end becomes the call's -/
def Ctx.ends (c : Ctx) (pre : TypeId → Bool) (call : CallFn) (n : Nat) (fn : Func) (n0 m0 : Nat) : Option (Ex × Fr × St) → Option (COut × St)
  | some (ex, ⟨env, []⟩, S') => match ex with
    | .normal | .ret => c.finish fn n0 m0 ⟨env, []⟩ S'
    | .panic v => panicked n0 m0 v S'
    | _ => none
  | some (ex, ⟨env, [(g, dargs)]⟩, S') => match ex with
    | .normal | .ret =>
      match c.deferred pre call n g dargs .returning S' with
      | some (.returning, S'') => c.finish fn n0 m0 ⟨env, []⟩ S''
      | _ => none
    | .panic v =>
      match c.deferred pre call n g dargs (.panics v) S' with
      | some (.recovered, S'') => c.finish fn n0 m0 ⟨env, []⟩ S''
      | some (.panics v, S'') => panicked n0 m0 v S''
      | _ => none
    | _ => none
  | _ => none
/-- THE PURE RUN OF A CALL -/
def Ctx.call (c : Ctx) (pre : TypeId → Bool) (ext : FuncId → Option (List SV → St → Option (COut × St))) : Nat → CallFn
  | 0 => fun _ _ _ => none
  | n + 1 => fun f args S =>
    match ext f with
    | some g => g args S
    | none =>
      match c.P.funcs[f]? with
      | none => none
      | some fn =>
        match fn.body with
        | none => none
        | some code => c.ends pre (Ctx.call c pre ext n) n fn S.H.length S.T.length
            (Env0.code ⟨c, pre, S.H.length, S.T.length, Ctx.call c pre ext n, c.drop f⟩ n code (frame0 fn args) S)

end Go.Ab
end
section
/- HOW ABSTRACT VALUES LIE IN MEMORY. -/
namespace Go.Ab
open Go.RowKit

structure Own where
  base : Option Addr
  len : Nat
  cap : Nat
  sz : Nat
  /-- is its row its own, even when full? -/
  ex : Bool
def Own.live (o : Own) : Prop := o.len < o.cap ∨ o.ex = true
/-- no spare room, and no row of its own -/
def Own.shut (o : Own) : Prop := o.len = o.cap ∧ o.ex = false
theorem Own.shut_live {o : Own} (h : o.shut) : ¬ o.live := by
  obtain ⟨h1, h2⟩ := h
  rintro (h | h)
  · omega
  · rw [h2] at h; cases h
/-- nothing stands in the spare room of an empty one -/
def Own.ok (o : Own) : Prop := o.len ≤ o.cap ∧ (o.len = 0 → o.cap = 0)
def Own.val (o : Own) : Value := .slice o.base o.len o.cap
structure Gh where
  φ : List (Option Nat)
  I : Nat → Nat → Option Value
  own : List Own
  /-- what is known of blocks' types and sizes, which never change -/
  ty : Nat → Option (TypeId × Nat)

def fl (xs : List AV) : List AV := xs.flatMap AV.cells

inductive R (G : Gh) : AV → Value → Prop
  | undef (v) : R G .undef v
  | int (k n) : R G (.int k n) (.int k n)
  | bool (b) : R G (.bool b) (.bool b)
  | str (s) : R G (.str s) (.string ⟨⟨s⟩⟩)
  | nilptr : R G .nilptr (.pointer none)
  | ptr (b o c : Nat) (h : G.φ[b]? = some (some c)) : R G (.ptr b o) (.pointer (some ⟨c, o, none⟩))
  | iptr (cs : List AV) (c o : Nat) (f : Nat → Value) (h : ∀ i, i < cs.length → G.I c (o + i) = some (f i)) (hr : ∀ i (h : i < cs.length), R G cs[i] (f i)) :
      R G (.iptr cs) (.pointer (some ⟨c, o, none⟩))
  | nils (b : Option Addr) : R G (.sl []) (.slice b 0 0)
  | sl (sz : Nat) (xs : List AV) (c o cap : Nat) (f : Nat → Value) (hs : ∀ x ∈ xs, x.cells.length = sz) (hc : xs.length ≤ cap)
      (h : ∀ i, i < (fl xs).length → G.I c (o + i) = some (f i)) (hr : ∀ i (h : i < (fl xs).length), R G (fl xs)[i] (f i))
      (h1 : ∀ i, i < (fl xs).length → (f i).oneCell' = true) :
      R G (.sl xs) (.slice (some ⟨c, o, none⟩) xs.length cap)
  | slr (b o n c cap : Nat) (h : G.φ[b]? = some (some c)) (hc : n ≤ cap) : R G (.slr b o n) (.slice (some ⟨c, o, none⟩) n cap)
  | buf0 (t) : R G (.buf t []) (.slice none 0 0)
  | buf (t) (s : List UInt8) (c cap n : Nat) (hne : s ≠ []) (hc : s.length ≤ cap) (h : ∀ i (h : i < s.length), G.I c i = some (.int .u8 s[i].toNat)) (ht : G.ty c = some (t, n)) :
      R G (.buf t s) (.slice (some ⟨c, 0, none⟩) s.length cap)
  | bptr0 (t) : R G (.bptr t []) (.pointer none)
  | bptr (t) (s : List UInt8) (c n : Nat) (hne : s ≠ []) (h : ∀ i (h : i < s.length), G.I c i = some (.int .u8 s[i].toNat)) (ht : G.ty c = some (t, n)) : R G (.bptr t s) (.pointer (some ⟨c, 0, none⟩))
  | bself0 (t) (b d : Nat) (h : G.φ[b]? = some (some d)) (ht : G.ty d = some (t, 2)) : R G (.bself t b) (.pointer none)
  | bself (t) (b d : Nat) (h : G.φ[b]? = some (some d)) (ht : G.ty d = some (t, 2)) : R G (.bself t b) (.pointer (some ⟨d, 0, none⟩))
  | nilfn : R G .nilfn .nilFunc
  | fn (f : FuncId) (a b : List AV) (va vb : Array Value) (ha : a.length = va.size) (hb : b.length = vb.size)
      (hra : ∀ i (h : i < a.length) (h' : i < va.size), R G a[i] va[i]) (hrb : ∀ i (h : i < b.length) (h' : i < vb.size), R G b[i] vb[i]) :
      R G (.fn f a b) (.func (.func f) va vb)
  | nili : R G .nili .nilIface
  | iface (t x v) (h : R G x v) : R G (.iface t x) (.iface t v)
  | agg (cs : List AV) (vs : Array Value) (hl : cs.length = vs.size) (hr : ∀ i (h : i < cs.length) (h' : i < vs.size), R G cs[i] vs[i]) : R G (.agg cs) (.agg vs)
  | tup (cs : List AV) (vs : Array Value) (hl : cs.length = vs.size) (hr : ∀ i (h : i < cs.length) (h' : i < vs.size), R G cs[i] vs[i]) : R G (.tup cs) (.tuple vs)

/-- the ghost knows no less -/
structure Mono (G G' : Gh) : Prop where
  φ : ∀ b c : Nat, G.φ[b]? = some (some c) → G'.φ[b]? = some (some c)
  I : ∀ c o v, G.I c o = some v → G'.I c o = some v
  ty : ∀ d x, G.ty d = some x → G'.ty d = some x
theorem Mono.refl (G : Gh) : Mono G G := ⟨fun _ _ h => h, fun _ _ _ h => h, fun _ _ h => h⟩
theorem Mono.trans {G G' G'' : Gh} (h : Mono G G') (k : Mono G' G'') : Mono G G'' := ⟨fun b c x => k.φ b c (h.φ b c x), fun c o v x => k.I c o v (h.I c o v x), fun d x y => k.ty d x (h.ty d x y)⟩

theorem R.mono {G G' : Gh} (m : Mono G G') {x : AV} {v : Value} (h : R G x v) : R G' x v := by
  induction h with
  | undef v => exact .undef v
  | int k n => exact .int k n
  | bool b => exact .bool b
  | str s => exact .str s
  | nilptr => exact .nilptr
  | ptr b o c h => exact .ptr b o c (m.φ b c h)
  | iptr cs c o f h _ ih => exact .iptr cs c o f (fun i hi => m.I _ _ _ (h i hi)) ih
  | nils b => exact .nils b
  | sl sz xs c o cap f hs hc h _ h1 ih => exact .sl sz xs c o cap f hs hc (fun i hi => m.I _ _ _ (h i hi)) ih h1
  | slr b o n c cap h hc => exact .slr b o n c cap (m.φ b c h) hc
  | buf0 t => exact .buf0 t
  | buf t s c cap n hne hc h ht => exact .buf t s c cap n hne hc (fun i hi => m.I _ _ _ (h i hi)) (m.ty _ _ ht)
  | bptr0 t => exact .bptr0 t
  | bptr t s c n hne h ht => exact .bptr t s c n hne (fun i hi => m.I _ _ _ (h i hi)) (m.ty _ _ ht)
  | bself0 t b d h ht => exact .bself0 t b d (m.φ b d h) (m.ty _ _ ht)
  | bself t b d h ht => exact .bself t b d (m.φ b d h) (m.ty _ _ ht)
  | nilfn => exact .nilfn
  | fn f a b va vb ha hb _ _ iha ihb => exact .fn f a b va vb ha hb iha ihb
  | nili => exact .nili
  | iface t x v _ ih => exact .iface t x v ih
  | agg cs vs hl _ ih => exact .agg cs vs hl ih
  | tup cs vs hl _ ih => exact .tup cs vs hl ih

def AV.len : AV → Nat
  | .sl xs => xs.length
  | .buf _ s => s.length
  | .bptr _ s => s.length
  | _ => 0
/-- what a tag says of the value beside it -/
def RT1 (G : Gh) (T : List Nat) (x : AV) (tg : Tag) (v : Value) : Prop :=
  match tg with
  | .full => ∀ b l c, v = .slice b l c → l = c
  | .tok id => ∃ n, T[id]? = some n ∧ x.len ≤ n ∧ (x.len = n → ∀ b l c, v = .slice b l c → ∃ ow, G.own[id]? = some ow ∧ v = ow.val ∧ (∀ y ys, x = .sl (y :: ys) → ow.sz = y.cells.length) ∧ ∀ t y ys, x = .buf t (y :: ys) → ow.sz = 1 ∧ ow.ex = true) ∧
    ∀ t y ys, x = .bptr t (y :: ys) → x.len = n → ∃ ow, G.own[id]? = some ow ∧ ow.sz = 1 ∧ ow.ex = true ∧ v = .pointer ow.base
  | _ => True
def RT (G : Gh) (T : List Nat) (x : AV) (tg : Tag) (v : Value) : Prop :=
  RT1 G T x tg v ∧
  match x, v, tg with
  | .agg cs, .agg vs, .agg ts => ∀ i (h : i < cs.length) (h' : i < vs.size), RT1 G T cs[i] (ts.getD i .no) vs[i]
  | .tup cs, .tuple vs, .agg ts => ∀ i (h : i < cs.length) (h' : i < vs.size), RT1 G T cs[i] (ts.getD i .no) vs[i]
  | _, _, _ => True
def RS (G : Gh) (T : List Nat) (x : SV) (v : Value) : Prop := R G x.1 v ∧ RT G T x.1 x.2 v

theorem RT.no {G : Gh} {T : List Nat} {x : AV} {v : Value} : RT G T x .no v := by
  refine ⟨trivial, ?_⟩
  split <;> first | trivial | simp_all
/-- a pointer may bear any of these -/
theorem RS.ptrTag {G : Gh} {T : List Nat} {x : AV} {a : Option Addr} {tg : Tag} (ht : tg = .no ∨ tg = .full ∨ tg = .agg []) (h : R G x (.pointer a)) : RS G T (x, tg) (.pointer a) := by
  refine ⟨h, ?_, ?_⟩
  · rcases ht with rfl | rfl | rfl
    · trivial
    · intro b l c e; cases e
    · trivial
  · rcases ht with rfl | rfl | rfl <;> (cases x <;> exact True.intro)
theorem RS.no {G : Gh} {T : List Nat} {x : AV} {v : Value} (h : R G x v) : RS G T (x, .no) v := ⟨h, RT.no⟩

structure Grows (G : Gh) (T : List Nat) (G' : Gh) (T' : List Nat) : Prop where
  mono : Mono G G'
  φ : ∀ b : Nat, b < G.φ.length → G'.φ[b]? = G.φ[b]?
  T : ∀ id n : Nat, T[id]? = some n → ∃ n', T'[id]? = some n' ∧ n ≤ n' ∧ (n' = n → G'.own[id]? = G.own[id]?)
theorem Grows.refl (G : Gh) (T : List Nat) : Grows G T G T := ⟨.refl G, fun _ _ => rfl, fun _ n h => ⟨n, h, Nat.le_refl n, fun _ => rfl⟩⟩
theorem len_le_of {G G' : Gh} (h : ∀ b : Nat, b < G.φ.length → G'.φ[b]? = G.φ[b]?) : G.φ.length ≤ G'.φ.length := by
  rcases Nat.lt_or_ge G'.φ.length G.φ.length with hl | hl
  · have := h G'.φ.length hl
    rw [List.getElem?_eq_none (Nat.le_refl _), List.getElem?_eq_getElem hl] at this
    cases this
  · exact hl
theorem Grows.trans {G G' G'' : Gh} {T T' T'' : List Nat} (h : Grows G T G' T') (k : Grows G' T' G'' T'') : Grows G T G'' T'' := by
  refine ⟨h.mono.trans k.mono, fun b hb => ?_, fun id n hn => ?_⟩
  · rw [k.φ b (Nat.lt_of_lt_of_le hb (len_le_of h.φ)), h.φ b hb]
  · obtain ⟨n', h1, h2, h3⟩ := h.T id n hn
    obtain ⟨n'', k1, k2, k3⟩ := k.T id n' h1
    exact ⟨n'', k1, by omega, fun e => by rw [k3 (by omega), h3 (by omega)]⟩
/-- the part of an extension that what is known of values needs -/
structure Later (G : Gh) (T : List Nat) (G' : Gh) (T' : List Nat) : Prop where
  mono : Mono G G'
  T : ∀ id n : Nat, T[id]? = some n → ∃ n', T'[id]? = some n' ∧ n ≤ n' ∧ (n' = n → G'.own[id]? = G.own[id]?)
theorem Grows.later {G G' : Gh} {T T' : List Nat} (h : Grows G T G' T') : Later G T G' T' := ⟨h.mono, h.T⟩
theorem Later.refl (G : Gh) (T : List Nat) : Later G T G T := (Grows.refl G T).later
theorem Later.trans {G G' G'' : Gh} {T T' T'' : List Nat} (h : Later G T G' T') (k : Later G' T' G'' T'') : Later G T G'' T'' := by
  refine ⟨h.mono.trans k.mono, fun id n hn => ?_⟩
  obtain ⟨n', h1, h2, h3⟩ := h.T id n hn
  obtain ⟨n'', k1, k2, k3⟩ := k.T id n' h1
  exact ⟨n'', k1, by omega, fun e => by rw [k3 (by omega), h3 (by omega)]⟩

theorem RT1.later {G G' : Gh} {T T' : List Nat} (l : Later G T G' T') {x : AV} {tg : Tag} {v : Value} (h : RT1 G T x tg v) : RT1 G' T' x tg v := by
  cases tg with
  | no => trivial
  | full => exact h
  | agg _ => trivial
  | tok id =>
    obtain ⟨n, h1, h2, h3, h4⟩ := h
    obtain ⟨n', k1, k2, k3⟩ := l.T id n h1
    refine ⟨n', k1, by omega, fun e b ln c hv => ?_, fun t y ys hx e => ?_⟩
    · obtain ⟨ow, ho, hv'⟩ := h3 (by omega) b ln c hv
      exact ⟨ow, by rw [k3 (by omega)]; exact ho, hv'⟩
    · obtain ⟨ow, ho, hv'⟩ := h4 t y ys hx (by omega)
      exact ⟨ow, by rw [k3 (by omega)]; exact ho, hv'⟩
theorem RT.later {G G' : Gh} {T T' : List Nat} (l : Later G T G' T') {x : AV} {tg : Tag} {v : Value} (h : RT G T x tg v) : RT G' T' x tg v := by
  obtain ⟨h1, h2⟩ := h
  refine ⟨h1.later l, ?_⟩
  split at h2
  · exact fun i a b => (h2 i a b).later l
  · exact fun i a b => (h2 i a b).later l
  · trivial
theorem RS.later {G G' : Gh} {T T' : List Nat} (l : Later G T G' T') {x : SV} {v : Value} (h : RS G T x v) : RS G' T' x v := ⟨h.1.mono l.mono, h.2.later l⟩

/-- what a run may not touch: blocks, and what was known of them -/
structure Bd where
  D : Nat → Prop
  I0 : Nat → Nat → Option Value
/-- the run may write it -/
def Bd.free (B : Bd) (d : Nat) : Prop := ¬ B.D d
structure BelowD (B : Bd) (w w' : World) : Prop where
  os : w'.os = w.os
  tape : w'.tape = w.tape
  output : w'.output = w.output
  size : w.heap.size ≤ w'.heap.size
  block : ∀ k, B.D k → w'.heap[k]? = w.heap[k]?
theorem BelowD.refl (B : Bd) (w : World) : BelowD B w w := ⟨rfl, rfl, rfl, Nat.le_refl _, fun _ _ => rfl⟩
theorem BelowD.trans {B : Bd} {a b c : World} (h : BelowD B a b) (k : BelowD B b c) : BelowD B a c :=
  ⟨k.os.trans h.os, k.tape.trans h.tape, k.output.trans h.output, Nat.le_trans h.size k.size, fun i hi => (k.block i hi).trans (h.block i hi)⟩
theorem BelowD.alloc {B : Bd} {a w : World} (h : BelowD B a w) (hB : ∀ d, w.heap.size ≤ d → B.free d) (o : Obj) : BelowD B a (w.alloc o) :=
  ⟨h.os, h.tape, h.output, Nat.le_trans h.size (by show _ ≤ (w.heap.push o).size; simp), fun k hk => by
    have hlt : k < w.heap.size := by
      rcases Nat.lt_or_ge k w.heap.size with hl | hl
      · exact hl
      · exact absurd hk (hB k hl)
    rw [Below.heap_alloc w o k hlt]; exact h.block k hk⟩
/-- how the state lies in the world: 'B': what the run may not touch; 'w0': the world at the run's begin -/
structure Inv (c : Ctx) (B : Bd) (w0 : World) (G : Gh) (S : St) (w : World) : Prop where
  below : BelowD B w0 w
  base : ∀ d, w.heap.size ≤ d → B.free d
  iD : ∀ d o, B.D d → G.I d o = B.I0 d o
  lenφ : G.φ.length = S.H.length
  lenO : G.own.length = S.T.length
  inj : ∀ i j d : Nat, G.φ[i]? = some (some d) → G.φ[j]? = some (some d) → i = j
  low : ∀ (b : Nat) (cells : Blk), S.H[b]? = some cells → ∀ x ∈ cells, x.1.low (b + 1) = true
  tag : ∀ (b : Nat) (cells : Blk), S.H[b]? = some cells → ∀ x ∈ cells, x.2.low S.T.length = true
  blk : ∀ (b d : Nat) (cells : Blk), S.H[b]? = some cells → G.φ[b]? = some (some d) → B.free d ∧
    ∃ vs t fr, w.heap[d]? = some (.cells vs t fr) ∧ cells.length ≤ vs.size ∧ (∀ o, o < cells.length → ¬ (fr.1 ≤ o ∧ o < fr.2)) ∧
      ∀ i (h : i < cells.length) (h' : i < vs.size), RS G S.T cells[i] vs[i]
  imm : ∀ (d o : Nat) (v : Value), G.I d o = some v → w.cell? ⟨d, o, none⟩ = some v ∧ ∀ b : Nat, G.φ[b]? ≠ some (some d)
  own : ∀ (id : Nat) (ow : Own), G.own[id]? = some ow → S.T[id]? = some ow.len ∧ ow.ok ∧
    (ow.live → ∃ d o, ow.base = some ⟨d, o, none⟩ ∧ B.free d ∧ (∀ b : Nat, G.φ[b]? ≠ some (some d)) ∧
      ∃ vs t fr, w.heap[d]? = some (.cells vs t fr) ∧ o + ow.cap * ow.sz ≤ vs.size ∧
        ∀ i, o + ow.len * ow.sz ≤ i → ¬ (fr.1 ≤ i ∧ i < fr.2) ∧ G.I d i = none)
  dis : ∀ (i j : Nat) (oi oj : Own) (d o o' : Nat), i ≠ j → G.own[i]? = some oi → G.own[j]? = some oj → oi.live → oj.live →
    oi.base = some ⟨d, o, none⟩ → oj.base ≠ some ⟨d, o', none⟩
  ty : ∀ (d : Nat) (t : TypeId) (n : Nat), G.ty d = some (t, n) → ∃ vs fr, w.heap[d]? = some (.cells vs t fr) ∧ vs.size = n ∧ fr.1 ≤ fr.2
  glob : ∀ (g : Nat) (cs : List AV), c.glob g = some cs → R G (.iptr cs) (.pointer (some ⟨g, 0, none⟩)) ∧ (AV.iptr cs).low 0 = true
  know : ∀ (I : Nat → Nat → Option Value) (ty : Nat → Option (TypeId × Nat)), (∀ d o v, G.I d o = some v → I d o = some v) → (∀ d x, G.ty d = some x → ty d = some x) → c.know I ty

end Go.Ab
end
section
/- THE PURE OPERATIONS, HELD AGAINST THE MODEL'S. -/
namespace Go.Ab

theorem R.absS (G : Gh) (v : Value) : R G (absS v) v := by
  unfold Ab.absS
  split <;> first
    | exact .undef _
    | exact .int _ _
    | exact .bool _
    | (rename_i s; cases s with | mk d => cases d with | mk l => exact .str l)
    | exact .nilptr
    | exact .nils none
    | exact .nilfn
    | exact .nili
theorem R.absV (G : Gh) (v : Value) : R G (absV v) v := by
  unfold Ab.absV
  split
  · refine .agg _ _ (by simp) fun i h h' => ?_
    simp only [List.getElem_map, Array.getElem_toList]
    exact R.absS G _
  · exact R.absS G v

theorem absS_sl {v : Value} {xs : List AV} (h : absS v = .sl xs) : xs = [] ∧ v = .slice none 0 0 := by
  unfold Ab.absS at h
  split at h <;> first
    | (cases h; exact ⟨rfl, rfl⟩)
    | (cases h; done)
theorem RT.tagS {G : Gh} {T : List Nat} {x : AV} {v : Value} (h : ∀ xs, x = .sl xs → v = .slice none 0 0) : RT G T x (tagZ x) v := by
  unfold tagZ
  split
  · rename_i xs
    rw [h xs rfl]
    exact ⟨fun b l c hv => by cases hv; rfl, trivial⟩
  · exact RT.no
theorem RS.absS (G : Gh) (T : List Nat) (v : Value) : RS G T (absS v, tagZ (absS v)) v := ⟨R.absS G v, RT.tagS fun xs h => (absS_sl h).2⟩
theorem RS.absV (G : Gh) (T : List Nat) (v : Value) : RS G T (absV v, tagZ (absV v)) v := by
  refine ⟨R.absV G v, RT.tagS fun xs h => ?_⟩
  unfold Ab.absV at h
  split at h
  · cases h
  · exact (absS_sl h).2

/-- what an act holds, and what it stands for -/
structure EnvR (G : Gh) (T : List Nat) (env : Env) (a : Act) : Prop where
  len : env.length = a.tmps.size
  at_ : ∀ i (h : i < env.length) (h' : i < a.tmps.size), RS G T env[i] a.tmps[i]

theorem eval_sound {c : Ctx} {B : Bd} {w0 : World} {G : Gh} {S : St} {w : World} (inv : Inv c B w0 G S w) {env : Env} {a : Act}
    (h : EnvR G S.T env a) (x : Operand) : RS G S.T (c.eval env x) (a.eval x) := by
  cases x with
  | tmp t =>
    simp only [Ctx.eval, Act.eval]
    by_cases ht : t < env.length
    · have h1 : env.getD t (AV.undef, Tag.no) = env[t] := by simp [List.getD, List.getElem?_eq_getElem ht]
      have h2 : a.tmps.getD t undef = a.tmps[t]'(h.len ▸ ht) := by simp [Array.getD, h.len ▸ ht]
      rw [h1, h2]
      exact h.at_ t ht _
    · have h1 : env.getD t (AV.undef, Tag.no) = (.undef, .no) := by simp [List.getD, List.getElem?_eq_none (Nat.le_of_not_lt ht)]
      rw [h1]
      exact RS.no (.undef _)
  | const v => exact RS.absV G S.T v
  | global g =>
    simp only [Ctx.eval, Act.eval]
    cases hg : c.glob g with
    | none => exact RS.no (.undef _)
    | some cs => exact RS.no (inv.glob g cs hg).1
  | func f => exact RS.no (.fn f [] [] #[] #[] rfl rfl (fun i h => absurd h (by simp)) (fun i h => absurd h (by simp)))

section
variable {c : Ctx} {B : Bd} {w0 : World} {G : Gh} {S : St} {w : World}

theorem underlying_of_tk {P : Program} {t : TypeId} {k : TK} (h : tk P t = k) (hk : k ≠ .other) : ∃ d, P.underlying t = some d := by
  unfold tk at h
  cases hu : P.underlying t with
  | none => rw [hu] at h; exact absurd h.symm hk
  | some d => exact ⟨d, rfl⟩
theorem tk_int {P : Program} {t : TypeId} {k : IntKind} (h : tk P t = .int k) : P.underlying t = some (.int k) := by
  unfold tk at h
  split at h <;> first | (cases h; done) | (split at h <;> cases h; done) | simp_all
theorem tk_bool {P : Program} {t : TypeId} (h : tk P t = .bool) : P.underlying t = some .bool := by
  unfold tk at h
  split at h <;> first | (cases h; done) | (split at h <;> cases h; done) | simp_all
theorem tk_string {P : Program} {t : TypeId} (h : tk P t = .string) : P.underlying t = some .string := by
  unfold tk at h
  split at h <;> first | (cases h; done) | (split at h <;> cases h; done) | simp_all
theorem tk_slice {P : Program} {t e : TypeId} (h : tk P t = .slice e) : P.underlying t = some (.slice e) := by
  unfold tk at h
  split at h <;> first | (cases h; done) | (split at h <;> cases h; done) | simp_all
theorem tk_array {P : Program} {t e : TypeId} {n : Nat} (h : tk P t = .array n e) : P.underlying t = some (.array n e) := by
  unfold tk at h
  split at h <;> first | (cases h; done) | (split at h <;> cases h; done) | simp_all
theorem tk_struct {P : Program} {t : TypeId} {fs : List (Nat × TypeId)} (h : tk P t = .struct fs) :
    ∃ gs : Array Field, P.underlying t = some (.struct gs) ∧ fs = gs.toList.map fun f => (f.offset, f.type) := by
  unfold tk at h
  split at h <;> first | (cases h; done) | skip
  rename_i gs hu
  split at h
  · cases h
  · exact ⟨gs, hu, by cases h; rfl⟩
theorem tk_iface {P : Program} {t : TypeId} (h : tk P t = .iface) : ∃ ms, P.underlying t = some (.interface ms) := by
  unfold tk at h
  split at h <;> first | (cases h; done) | (split at h <;> cases h; done) | simp_all

theorem run_underlying (P : Program) (w : World) {t : TypeId} {d : TypeDesc} (h : P.underlying t = some d) : (underlying t).run P w = .ok d w := by
  simp [underlying, h]
theorem run_sizeOf (P : Program) (w : World) {t : TypeId} {i : TypeInfo} (h : P.info? t = some i) : (sizeOf t).run P w = .ok i.size w := by
  simp [sizeOf, typeInfo, h]
theorem info_of_underlying {P : Program} {t : TypeId} {d : TypeDesc} (h : P.underlying t = some d) : ∃ i, P.info? t = some i := by
  unfold Program.underlying at h
  cases hi : P.info? t with
  | none => simp [hi] at h
  | some i => exact ⟨i, rfl⟩
theorem run_isAgg (P : Program) (w : World) {t : TypeId} {d : TypeDesc} (h : P.underlying t = some d) (hk : tk P t ≠ .other) : (isAgg t).run P w = .ok (tk P t).isAgg w := by
  simp only [isAgg, Sem.run_bind, run_underlying P w h, Result.andThen_ok]
  unfold tk at hk ⊢
  rw [h] at hk ⊢
  cases d <;> first
    | (simp only at hk ⊢; split <;> first | (simp_all; done) | simp [TK.isAgg])
    | simp [TK.isAgg]

theorem R.notAgg {x : AV} {v : Value} (h : R G x v) (hk : x.known = true) (hn : ∀ cs, x ≠ .agg cs) : v.cells = #[v] ∧ x.cells = [x] := by
  cases h <;> first
    | exact ⟨rfl, rfl⟩
    | (simp [AV.known] at hk; done)
    | exact absurd rfl (hn _)

theorem Tag.at_RT1 {T : List Nat} {x : AV} {t : Tag} {v : Value} (h : RT1 G T x t v) : RT1 G T x t.flat v := by
  cases t <;> first | exact h | trivial

theorem RT.flat {T : List Nat} {x : AV} {t : Tag} {v : Value} (h : RT1 G T x t v) : RT G T x t.flat v := by
  refine ⟨Tag.at_RT1 h, ?_⟩
  cases t <;> simp only [Tag.flat] <;> (split <;> first | trivial | simp_all)

/-- cells in a row -/
def RSs (G : Gh) (T : List Nat) (cs : List SV) (vs : Array Value) : Prop :=
  cs.length = vs.size ∧ ∀ i (h : i < cs.length) (h' : i < vs.size), RS G T cs[i] vs[i]

theorem expand_sound {T : List Nat} {x : SV} {v : Value} (h : RS G T x v) (hk : x.1.known = true) : RSs G T (expand x) v.cells := by
  obtain ⟨x, tg⟩ := x
  obtain ⟨hr, ht⟩ := h
  by_cases hx : ∃ cs, x = .agg cs
  · obtain ⟨cs, rfl⟩ := hx
    cases hr with
    | agg _ vs hl hrs =>
      simp only [expand, Value.cells]
      refine ⟨by simpa using hl, fun i h h' => ?_⟩
      simp only [List.getElem_map, List.getElem_zipIdx, Nat.zero_add]
      have hi : i < cs.length := by simpa using h
      refine ⟨hrs i hi h', ?_⟩
      cases tg with
      | agg ts => exact RT.flat (ht.2 i hi h')
      | _ => exact RT.no
  · have hn : ∀ cs, x ≠ .agg cs := fun cs e => hx ⟨cs, e⟩
    obtain ⟨h1, _⟩ := hr.notAgg hk hn
    have h2 : expand (x, tg) = [(x, tg.flat)] := by
      unfold expand
      split
      · rename_i cs h; exact absurd h (hn cs)
      · rfl
    rw [h1, h2]
    refine ⟨rfl, fun i h h' => ?_⟩
    have : i = 0 := by simp at h; omega
    subst this
    exact ⟨hr, RT.flat ht.1⟩

theorem Tag.flat_flat (t : Tag) : t.flat.flat = t.flat := by cases t <;> rfl
theorem Tag.at_flat (t : Tag) (i : Nat) : (t.at i).flat = t.at i := by
  cases t with
  | agg ts => exact Tag.flat_flat _
  | _ => rfl
theorem expand_flat (x : SV) : ∀ y ∈ expand x, y.2.flat = y.2 := by
  intro y hy
  unfold expand at hy
  split at hy
  · obtain ⟨q, _, rfl⟩ := List.mem_map.1 hy
    exact Tag.at_flat _ _
  · rw [List.mem_singleton] at hy
    subst hy
    exact Tag.flat_flat _

theorem collect_sound {T : List Nat} {cs : List SV} {vs : Array Value} (h : RSs G T cs vs) : RS G T (collect cs) (.agg vs) := by
  refine ⟨.agg _ _ (by simpa using h.1) fun i hi h' => ?_, trivial, fun i hi h' => ?_⟩
  · have hi' : i < cs.length := by simpa using hi
    simpa using (h.2 i hi' h').1
  · have hi' : i < cs.length := by simpa using hi
    have := (h.2 i hi' h').2.1
    simp only [List.getElem_map]
    have e : (cs.map (·.2)).getD i Tag.no = cs[i].2 := by simp [List.getD, List.getElem?_eq_getElem hi']
    rw [e]; exact this

theorem part_sound {T : List Nat} {t : TypeId} {cs : List SV} {vs : Array Value} {off : Nat} {x : SV} (hs : cs.length ≤ vs.size)
    (h : ∀ i (h : i < cs.length) (h' : i < vs.size), RS G T cs[i] vs[i]) (hp : c.part t cs off = some x) :
    ∃ v, (part t vs off).run c.P w = .ok v w ∧ RS G T x v := by
  unfold Ctx.part at hp
  cases hk : tk c.P t with
  | other => simp [hk] at hp
  | struct fs =>
    simp only [hk] at hp
    obtain ⟨d, hd⟩ := underlying_of_tk hk (by simp)
    obtain ⟨i, hi⟩ := info_of_underlying hd
    have hsz : tsz c.P t = i.size := by simp [tsz, hi]
    split at hp <;> first | (cases hp; done) | skip
    rename_i hle
    cases hp
    refine ⟨.agg (vs.extract off (off + i.size)), ?_, collect_sound ⟨?_, fun j hj hj' => ?_⟩⟩
    · simp only [part, Sem.run_bind, run_isAgg c.P w hd (by rw [hk]; simp), hk, TK.isAgg, Result.andThen_ok, if_true, run_sizeOf c.P w hi, Sem.run_ite, Sem.run_pure]
    · simp; omega
    · simp only [List.getElem_take, List.getElem_drop, Array.getElem_extract]
      exact h _ _ _
  | array n e =>
    simp only [hk] at hp
    obtain ⟨d, hd⟩ := underlying_of_tk hk (by simp)
    obtain ⟨i, hi⟩ := info_of_underlying hd
    have hsz : tsz c.P t = i.size := by simp [tsz, hi]
    split at hp <;> first | (cases hp; done) | skip
    rename_i hle
    cases hp
    refine ⟨.agg (vs.extract off (off + i.size)), ?_, collect_sound ⟨?_, fun j hj hj' => ?_⟩⟩
    · simp only [part, Sem.run_bind, run_isAgg c.P w hd (by rw [hk]; simp), hk, TK.isAgg, Result.andThen_ok, if_true, run_sizeOf c.P w hi, Sem.run_ite, Sem.run_pure]
    · simp; omega
    · simp only [List.getElem_take, List.getElem_drop, Array.getElem_extract]
      exact h _ _ _
  | _ =>
    simp only [hk] at hp
    obtain ⟨d, hd⟩ := underlying_of_tk hk (by simp)
    obtain ⟨hlt, rfl⟩ := List.getElem?_eq_some_iff.1 hp
    refine ⟨vs[off]'(by omega), ?_, h off hlt (by omega)⟩
    simp only [part, Sem.run_bind, run_isAgg c.P w hd (by rw [hk]; simp), hk, TK.isAgg, Result.andThen_ok, Sem.run_ite, Bool.false_eq_true, if_false]
    simp [Array.getElem?_eq_getElem (show off < vs.size by omega)]
end

end Go.Ab
end
section
namespace Go.Ab
section
variable {c : Ctx} {G : Gh} {T : List Nat} {w : World}

theorem aBits_sound {op : BinOp} {k : IntKind} {x y : Int} {z : AV} (h : aBits op k x y = some z) : ∃ v, (Op.intBits op k x y).run c.P w = .ok v w ∧ R G z v := by
  unfold aBits at h
  cases op <;> simp only at h <;> first
    | (cases h; done)
    | (cases h; exact ⟨_, rfl, .int _ _⟩)
theorem aCmp_sound {op : BinOp} {x y : Int} {z : AV} (h : aCmp op x y = some z) : ∃ v, (Op.intCmp op x y).run c.P w = .ok v w ∧ R G z v := by
  unfold aCmp at h
  cases op <;> simp at h <;> subst h <;> exact ⟨_, rfl, .bool _⟩
theorem aShift_sound {op : BinOp} {k yk : IntKind} {x y : Int} {z : AV} (h : aShift op k x y = some z) : ∃ v, (Op.shift op k x yk y).run c.P w = .ok v w ∧ R G z v := by
  unfold aShift at h
  split at h
  · cases h
  · rename_i hy
    cases op <;> simp at h <;> subst h <;> exact ⟨_, by simp [Op.shift, hy], .int _ _⟩
theorem aInt_sound {op : BinOp} {t : TypeId} {k : IntKind} {x y : Int} {z : AV} (h : aInt op k x y = some z) :
    ∃ v, (binOp op t (.int k x) (.int k y)).run c.P w = .ok v w ∧ R G z v := by
  unfold aInt at h
  cases op <;> simp only at h <;> first
    | (obtain ⟨v, h1, h2⟩ := aBits_sound (c := c) (G := G) (w := w) h; exact ⟨v, by simp only [binOp, ne_eq, not_true_eq_false, if_false]; exact h1, h2⟩)
    | (cases h; exact ⟨_, by simp [binOp, Op.intArith], .int _ _⟩)
    | (split at h <;> first | (cases h; done) | (rename_i hy; cases h; exact ⟨_, by simp [binOp, Op.intDiv, hy], .int _ _⟩))
    | (obtain ⟨v, h1, h2⟩ := aBits_sound (c := c) (G := G) (w := w) h; exact ⟨v, by simp only [binOp, ne_eq, not_true_eq_false, if_false]; exact h1, h2⟩)
    | (obtain ⟨v, h1, h2⟩ := aCmp_sound (c := c) (G := G) (w := w) h; exact ⟨v, by simpa [binOp] using h1, h2⟩)
    | (cases h; done)
theorem toList_mk (l : List UInt8) : (⟨⟨l⟩⟩ : ByteArray).toList = l := by
  rw [ByteArray.toList_eq]
theorem size_mk (l : List UInt8) : (⟨⟨l⟩⟩ : ByteArray).size = l.length := rfl
theorem append_mk (a b : List UInt8) : (⟨⟨a⟩⟩ : ByteArray) ++ ⟨⟨b⟩⟩ = ⟨⟨a ++ b⟩⟩ := by
  apply ByteArray.ext
  simp
theorem aStr_sound {op : BinOp} {t : TypeId} {x y : List UInt8} {z : AV} (h : aStr op x y = some z) :
    ∃ v, (binOp op t (.string ⟨⟨x⟩⟩) (.string ⟨⟨y⟩⟩)).run c.P w = .ok v w ∧ R G z v := by
  unfold aStr at h
  cases op <;> simp only at h <;> first
    | (cases h; done)
    | (split at h <;> first | (cases h; done) | skip
       rename_i hle; cases h
       refine ⟨.string ⟨⟨x ++ y⟩⟩, ?_, .str _⟩
       have : ¬ ((((⟨⟨x⟩⟩ : ByteArray).size + (⟨⟨y⟩⟩ : ByteArray).size : Nat) : Int) > IntKind.i64.max) := by
         simp only [size_mk]; unfold maxStr at hle
         have : IntKind.i64.max = 9223372036854775807 := by decide
         omega
       simp only [binOp, Op.stringOp, this, if_false, append_mk]
       rfl)
    | (cases h; exact ⟨_, by simp only [binOp, Op.stringOp, toList_mk]; rfl, .bool _⟩)
end
end Go.Ab
end
section
namespace Go.Ab
section
variable {c : Ctx} {G : Gh} {T : List Nat} {w : World}

/-- values of cells, each known and standing for the machine's -/
def RL (G : Gh) (xs : List AV) (vs : Array Value) : Prop := xs.length = vs.size ∧ ∀ i (h : i < xs.length) (h' : i < vs.size), R G xs[i] vs[i]

theorem RL.sub {xs : List AV} {vs : Array Value} (h : RL G xs vs) (a n : Nat) : RL G ((xs.drop a).take n) (vs.extract a (a + n)) := by
  obtain ⟨h1, h2⟩ := h
  refine ⟨by simp; omega, fun i hi hi' => ?_⟩
  simp only [List.getElem_take, List.getElem_drop, Array.getElem_extract]
  exact h2 _ _ _

theorem names_of_tk {P : Program} {t : TypeId} {fs : List (Nat × TypeId)} (h : tk P t = .struct fs) :
    ∃ gs : Array Field, P.underlying t = some (.struct gs) ∧ fs = gs.toList.map (fun f => (f.offset, f.type)) ∧ ∀ f ∈ gs.toList, f.name ≠ "_" ∧ ∃ d, P.info? f.type = some d := by
  unfold tk at h
  split at h <;> first | (cases h; done) | skip
  rename_i gs hu
  split at h
  · cases h
  · rename_i hn
    refine ⟨gs, hu, by cases h; rfl, fun f hf => ⟨fun e => hn ?_, ?_⟩⟩
    · rw [Array.any_eq_true']
      exact ⟨f, by simpa using hf, by simp [e]⟩
    · cases hd : P.info? f.type with
      | some d => exact ⟨d, rfl⟩
      | none =>
        refine absurd ?_ hn
        rw [Array.any_eq_true']
        exact ⟨f, by simpa using hf, by simp [hd]⟩

/-- one value of a type out of its cells -/
def valOf (P : Program) (t : TypeId) (vs : Array Value) : Value := if (tk P t).isAgg then .agg vs else vs.getD 0 undef

theorem part_valOf {t : TypeId} {vs : Array Value} {off : Nat} (hk : tk c.P t ≠ .other) (h1 : (tk c.P t).isAgg = false → off < vs.size ∧ 1 ≤ tsz c.P t) :
    (part t vs off).run c.P w = .ok (valOf c.P t (vs.extract off (off + tsz c.P t))) w := by
  obtain ⟨d, hd⟩ := underlying_of_tk rfl hk
  obtain ⟨i, hi⟩ := info_of_underlying hd
  have hsz : tsz c.P t = i.size := by simp [tsz, hi]
  simp only [part, Sem.run_bind, run_isAgg c.P w hd hk, Result.andThen_ok, run_sizeOf c.P w hi, Sem.run_ite, Sem.run_pure, valOf, hsz]
  cases ha : (tk c.P t).isAgg with
  | true => simp
  | false =>
    obtain ⟨ho, h2⟩ := h1 ha
    have e : (vs.extract off (off + i.size)).getD 0 undef = vs[off] := by
      have : 0 < (vs.extract off (off + i.size)).size := by simp; omega
      rw [Array.getD_eq_getD_getElem?, Array.getElem?_eq_getElem this]
      simp
    simp only [Bool.false_eq_true, if_false]
    rw [e, Array.getElem?_eq_getElem ho]
    rfl

theorem eqAt_array {d n : Nat} {t e : TypeId} (hk : tk c.P t = .array n e) (xs ys : List AV) :
    c.eqAt (d + 1) t xs ys = if (c.P.info? e).isNone then none else aEqs (c.eqAt d e) (tsz c.P e) n xs ys := by
  simp only [Ctx.eqAt, hk]
theorem eqAt_scalar {d : Nat} {t : TypeId} {xs ys : List AV} {b : Bool} (h : c.eqAt d t xs ys = some b) (ha : (tk c.P t).isAgg = false) : xs.length = 1 ∧ ys.length = 1 := by
  cases d with
  | zero => simp [Ctx.eqAt] at h
  | succ d =>
    unfold Ctx.eqAt at h
    split at h <;> first
      | exact ⟨rfl, rfl⟩
      | (rename_i hk; rw [hk] at ha; simp [TK.isAgg] at ha; done)
      | (rename_i hk _ _; rw [hk] at ha; simp [TK.isAgg] at ha; done)
      | (cases h; done)
theorem eqAt_other {d : Nat} {t : TypeId} {xs ys : List AV} {b : Bool} (h : c.eqAt d t xs ys = some b) : tk c.P t ≠ .other := by
  cases d with
  | zero => simp [Ctx.eqAt] at h
  | succ d =>
    intro hk
    unfold Ctx.eqAt at h
    rw [hk] at h
    simp at h
theorem sub_bounds {xs : List AV} {vs : Array Value} (h : RL G xs vs) {off n : Nat} (hl : ((xs.drop off).take n).length = 1) : off < vs.size ∧ 1 ≤ n := by
  have := h.1
  simp at hl
  omega
theorem RL.one {x : AV} {vs : Array Value} (h : RL G [x] vs) : R G x (vs.getD 0 undef) := by
  have h0 : 0 < vs.size := by have := h.1; simp at this; omega
  have := h.2 0 (by simp) h0
  rw [Array.getD_eq_getD_getElem?, Array.getElem?_eq_getElem h0]
  simpa using this

theorem eqAt_sound (k : Nat) : ∀ (d : Nat) (t : TypeId) (xs ys : List AV) (vx vy : Array Value) (b : Bool), c.eqAt d t xs ys = some b → RL G xs vx → RL G ys vy →
    (Op.equalIn (d + k) t (valOf c.P t vx) (valOf c.P t vy)).run c.P w = .ok b w := by
  intro d
  induction d with
  | zero => intro t xs ys vx vy b h; simp [Ctx.eqAt] at h
  | succ d ih =>
    intro t xs ys vx vy b h hx hy
    have step : ∀ (t' : TypeId) (off : Nat) (r : Bool), c.eqAt d t' ((xs.drop off).take (tsz c.P t')) ((ys.drop off).take (tsz c.P t')) = some r →
        (part t' vx off).run c.P w = .ok (valOf c.P t' (vx.extract off (off + tsz c.P t'))) w ∧ (part t' vy off).run c.P w = .ok (valOf c.P t' (vy.extract off (off + tsz c.P t'))) w ∧
        (Op.equalIn (d + k) t' (valOf c.P t' (vx.extract off (off + tsz c.P t'))) (valOf c.P t' (vy.extract off (off + tsz c.P t')))).run c.P w = .ok r w := by
      intro t' off r hr
      have ho := eqAt_other hr
      exact ⟨part_valOf ho fun ha => sub_bounds hx (eqAt_scalar hr ha).1, part_valOf ho fun ha => sub_bounds hy (eqAt_scalar hr ha).2,
        ih t' _ _ _ _ r hr (hx.sub _ _) (hy.sub _ _)⟩
    rw [Nat.add_right_comm]
    by_cases hka : ∃ n e, tk c.P t = .array n e
    · obtain ⟨n, e, hk⟩ := hka
      rw [eqAt_array hk] at h
      have hu := tk_array hk
      simp only [valOf, hk, TK.isAgg, if_true]
      split at h
      · cases h
      · rename_i hni
        obtain ⟨i, hi⟩ : ∃ i, c.P.info? e = some i := by
          cases hi : c.P.info? e with
          | none => simp [hi] at hni
          | some i => exact ⟨i, rfl⟩
        rw [run_equalIn_array w _ vx vy hu hi, List.range_eq_range']
        have hcs : c.P.cellsOf e = tsz c.P e := by simp [Program.cellsOf, tsz, hi]
        rw [hcs]
        have key : ∀ (m j : Nat) (b : Bool), aEqs (c.eqAt d e) (tsz c.P e) m (xs.drop (j * tsz c.P e)) (ys.drop (j * tsz c.P e)) = some b →
            (Op.eqItems (d + k) e (tsz c.P e) vx vy (List.range' j m)).run c.P w = .ok b w := by
          intro m
          induction m with
          | zero => intro j b h; simp [aEqs] at h; subst h; simp [Op.eqItems]
          | succ m ihm =>
            intro j b h
            simp only [aEqs] at h
            split at h
            · rename_i r r' h1 h2
              cases h
              obtain ⟨p1, p2, p3⟩ := step e (j * tsz c.P e) r h1
              simp only [List.range'_succ, Op.eqItems, Sem.run_bind, p1, p2, p3, Result.andThen_ok]
              rw [List.drop_drop, List.drop_drop, show j * tsz c.P e + tsz c.P e = (j + 1) * tsz c.P e by rw [Nat.add_mul]; omega] at h2
              cases r with
              | false => simp
              | true => simp; exact ihm _ _ h2
            · cases h
        exact key n 0 b (by simpa using h)
    unfold Ctx.eqAt at h
    split at h
    · rename_i kk j a k' b' hk
      have hu := tk_int hk
      split at h
      · rename_i hjk
        cases h
        have h1 := hx.one
        have h2 := hy.one
        simp only [valOf, hk, TK.isAgg, Bool.false_eq_true, if_false]
        generalize vx.getD 0 undef = u at *
        generalize vy.getD 0 undef = v at *
        cases h1; cases h2
        subst hjk
        exact run_equalIn_int w _ t _ _ _ _ hu
      · cases h
    · rename_i a b' hk
      have hu := tk_bool hk
      cases h
      have h1 := hx.one
      have h2 := hy.one
      simp only [valOf, hk, TK.isAgg, Bool.false_eq_true, if_false]
      generalize vx.getD 0 undef = u at *
      generalize vy.getD 0 undef = v at *
      cases h1; cases h2
      exact run_equalIn_bool' w _ t _ _ hu
    · rename_i a b' hk
      have hu := tk_string hk
      cases h
      have h1 := hx.one
      have h2 := hy.one
      simp only [valOf, hk, TK.isAgg, Bool.false_eq_true, if_false]
      generalize vx.getD 0 undef = u at *
      generalize vy.getD 0 undef = v at *
      cases h1; cases h2
      rw [run_equalIn_string w _ t _ _ hu, toList_mk, toList_mk]
    · rename_i hk; exact absurd ⟨_, _, hk⟩ hka
    · rename_i fs hk
      obtain ⟨gs, hu, rfl, hn⟩ := names_of_tk hk
      split at h
      · cases h
      · rename_i hst
        have hf : c.P.fieldsOf t = gs := by simp [Program.fieldsOf, hu]
        simp only [valOf, hk, TK.isAgg, if_true]
        rw [run_equalIn_struct w _ t vx vy (by rw [hf]; exact hu) (by simpa using hst), hf]
        clear hu hk hf
        generalize gs.toList = l at h hn
        induction l generalizing b with
        | nil => simp [eqFs] at h; subst h; simp [Op.eqFields]
        | cons f fs ihf =>
          simp only [List.map_cons, eqFs] at h
          split at h
          · rename_i r r' h1 h2
            cases h
            obtain ⟨p1, p2, p3⟩ := step f.type f.offset r h1
            simp only [Op.eqFields, (hn f (by simp)).1, ne_eq, not_false_eq_true, if_true, Sem.run_bind, p1, p2, p3, Result.andThen_ok]
            cases r with
            | false => simp
            | true => simp; exact ihf _ h2 (fun g hg => hn g (by simp [hg]))
          · cases h
    · cases h
end
end Go.Ab
end
section
namespace Go.Ab
section
variable {c : Ctx} {G : Gh} {T : List Nat} {w : World} {ρ : Operand → SV} {σ : Operand → Value}

theorem bounds_sound {len cap : Nat} (hl : len ≤ cap) {isSl : Bool} {lo hi : Option Operand} {l h : Nat} (hρ : ∀ x, RS G T (ρ x) (σ x))
    (hb : bounds len (lo.map ρ) (hi.map ρ) = some (l, h)) :
    (Instr.sliceBounds isSl len cap (lo.map σ) (hi.map σ) none).run c.P w = .ok (l, h, cap) w ∧ l ≤ h ∧ h ≤ len := by
  unfold bounds at hb
  simp only [Option.bind_eq_some_iff] at hb
  obtain ⟨h', hh, hl'⟩ := hb
  have hi' : ((hi = none ∧ h' = len) ∨ (∃ o, hi = some o ∧ ∀ code, (Instr.sliceBound (σ o) cap code).run c.P w = .ok h' w)) ∧ h' ≤ len := by
    cases hi with
    | none => simp at hh; subst hh; exact ⟨.inl ⟨rfl, rfl⟩, Nat.le_refl _⟩
    | some o =>
      have hr := (hρ o).1
      simp only [Option.map_some] at hh
      generalize ρ o = x at *
      obtain ⟨x, tg⟩ := x
      cases x <;> first
        | (rename_i k n
           simp only at hh hr
           obtain ⟨hn, hh⟩ := Option.ite_none_right_eq_some.1 hh
           cases hh
           generalize hu : σ o = u at hr
           cases hr
           refine ⟨.inr ⟨o, rfl, fun code => ?_⟩, by omega⟩
           rw [hu]
           have : 0 ≤ n ∧ n ≤ (cap : Int) := by omega
           simp [Instr.sliceBound, asIntOf, this])
        | (cases hh; done)
  obtain ⟨h1, h2⟩ := hi'
  have lo' : ((lo = none ∧ l = 0) ∨ (∃ o, lo = some o ∧ ∀ code, (Instr.sliceBound (σ o) h' code).run c.P w = .ok l w)) ∧ l ≤ h' ∧ h = h' := by
    cases lo with
    | none => simp at hl'; obtain ⟨rfl, rfl⟩ := hl'; exact ⟨.inl ⟨rfl, rfl⟩, Nat.zero_le _, rfl⟩
    | some o =>
      have hr := (hρ o).1
      simp only [Option.map_some] at hl'
      generalize ρ o = x at *
      obtain ⟨x, tg⟩ := x
      cases x <;> first
        | (rename_i k n
           simp only at hl' hr
           obtain ⟨hn, hl'⟩ := Option.ite_none_right_eq_some.1 hl'
           cases hl'
           generalize hu : σ o = u at hr
           cases hr
           refine ⟨.inr ⟨o, rfl, fun code => ?_⟩, by omega, rfl⟩
           rw [hu]
           simp [Instr.sliceBound, asIntOf, hn])
        | (cases hl'; done)
  obtain ⟨l1, l2, l3⟩ := lo'
  subst l3
  refine ⟨?_, l2, h2⟩
  unfold Instr.sliceBounds
  rcases h1 with ⟨rfl, rfl⟩ | ⟨o, rfl, h1⟩ <;> rcases l1 with ⟨rfl, rfl⟩ | ⟨o', rfl, l1⟩ <;>
    simp only [Option.map_none, Option.map_some, Sem.run_bind, Sem.run_pure, Result.andThen_ok, *]

theorem fl_append (a b : List AV) : fl (a ++ b) = fl a ++ fl b := by simp [fl]
theorem fl_cons (a : AV) (b : List AV) : fl (a :: b) = a.cells ++ fl b := by simp [fl]
theorem fl_length {sz : Nat} {xs : List AV} (h : ∀ x ∈ xs, x.cells.length = sz) : (fl xs).length = xs.length * sz := by
  induction xs with
  | nil => simp [fl]
  | cons x xs ih =>
    rw [fl_cons, List.length_append, ih (fun y hy => h y (by simp [hy])), h x (by simp), List.length_cons, Nat.succ_mul, Nat.add_comm]
theorem fl_drop {sz : Nat} {xs : List AV} (h : ∀ x ∈ xs, x.cells.length = sz) (l : Nat) : fl (xs.drop l) = (fl xs).drop (l * sz) := by
  induction l generalizing xs with
  | zero => simp
  | succ l ih =>
    cases xs with
    | nil => simp [fl]
    | cons x xs =>
      have hx := h x (by simp)
      rw [List.drop_succ_cons, ih (fun y hy => h y (by simp [hy])), fl_cons, Nat.succ_mul, Nat.add_comm, ← List.drop_drop, List.drop_left' hx]
theorem fl_take {sz : Nat} {xs : List AV} (h : ∀ x ∈ xs, x.cells.length = sz) (l : Nat) : fl (xs.take l) = (fl xs).take (l * sz) := by
  induction l generalizing xs with
  | zero => simp [fl]
  | succ l ih =>
    cases xs with
    | nil => simp [fl]
    | cons x xs =>
      have hx := h x (by simp)
      have h2 := List.take_length_add_append (l₁ := x.cells) (l₂ := fl xs) (l * sz)
      rw [hx] at h2
      rw [List.take_succ_cons, fl_cons, ih (fun y hy => h y (by simp [hy])), fl_cons, Nat.succ_mul, Nat.add_comm, h2]

theorem szOk_of {xs : List AV} {n sz : Nat} (hs : ∀ x ∈ xs, x.cells.length = sz) (h : szOk xs n = true) : xs = [] ∨ sz = n := by
  cases xs with
  | nil => exact .inl rfl
  | cons x xs =>
    simp only [szOk, beq_iff_eq] at h
    exact .inr (by rw [← hs x (by simp), h])
theorem szOk_all {xs : List AV} {n sz : Nat} (hs : ∀ x ∈ xs, x.cells.length = sz) (h : szOk xs n = true) : ∀ x ∈ xs, x.cells.length = n := by
  rcases szOk_of hs h with rfl | rfl
  · intro x hx; cases hx
  · exact hs
/-- a part of a list lies where the list's cells are -/
theorem R.sub {n : Nat} {xs : List AV} {cc o cap : Nat} {len : Nat} (h : R G (.sl xs) (.slice (some ⟨cc, o, none⟩) len cap)) (hn : szOk xs n = true) {l h' : Nat} (hlh : l ≤ h') (hh : h' ≤ xs.length) {cap' : Nat} (hc : h' - l ≤ cap') :
    R G (.sl ((xs.take h').drop l)) (.slice (some ⟨cc, o + l * n, none⟩) (h' - l) cap') := by
  cases h with
  | nils b =>
    obtain rfl : h' = 0 := by simpa using hh
    obtain rfl : l = 0 := by omega
    exact .sl 0 [] cc (o + 0 * n) cap' (fun _ => Go.undef) (by simp) (by simp) (by simp [fl]) (by simp [fl]) (by simp [fl])
  | sl sz _ _ _ _ f hs hc' hI hr h1c =>
    have hs := szOk_all hs hn
    have hs' : ∀ x ∈ xs.take h', x.cells.length = n := fun x hx => hs x (List.mem_of_mem_take hx)
    have e : fl ((xs.take h').drop l) = ((fl xs).take (h' * n)).drop (l * n) := by rw [fl_drop hs', fl_take hs]
    have hlen : ((xs.take h').drop l).length = h' - l := by simp; omega
    rw [← hlen]
    refine .sl n _ _ _ _ (fun i => f (l * n + i)) (fun x hx => hs' x (List.mem_of_mem_drop hx)) (by omega) (fun i hi => ?_) (fun i hi => ?_) (fun i hi => by
      rw [e] at hi
      simp at hi
      exact h1c _ (by omega))
    · rw [e] at hi
      simp at hi
      rw [Nat.add_assoc]
      exact hI _ (by omega)
    · have hi' := hi
      rw [e] at hi'
      simp at hi'
      have := hr (l * n + i) (by omega)
      have e2 : (fl ((xs.take h').drop l))[i] = (fl xs)[l * n + i]'(by omega) := by
        simp [e]
      rw [e2]; exact this
theorem R.slEmpty (cc oo cap : Nat) : R G (.sl []) (.slice (some ⟨cc, oo, none⟩) 0 cap) := .sl 0 [] cc oo cap (fun _ => Go.undef) (by simp) (by simp) (by simp [fl]) (by simp [fl]) (by simp [fl])
end
end Go.Ab
end
section
namespace Go.Ab
section
variable {c : Ctx} {G : Gh} {T : List Nat} {w : World} {ρ : Operand → SV} {σ : Operand → Value}

/-- an operation that yields a value and leaves the world -/
def Yields (c : Ctx) (G : Gh) (T : List Nat) (w : World) (σ : Operand → Value) (o : Oper) (x : SV) : Prop :=
  ∃ v, (execOp σ o).run c.P w = .ok (.value v) w ∧ RS G T x v

theorem Yields.of_sem {o : Oper} {x : SV} {s : Sem Value} (h : execOp σ o = (do pure (.value (← s)))) (hs : ∃ v, s.run c.P w = .ok v w ∧ RS G T x v) : Yields c G T w σ o x := by
  obtain ⟨v, h1, h2⟩ := hs
  exact ⟨v, by rw [h]; simp [h1], h2⟩

theorem info_of_tsz {e : TypeId} (he : 1 ≤ tsz c.P e) : ∃ d, c.P.info? e = some d ∧ tsz c.P e = d.size := by
  cases hd : c.P.info? e with
  | none => simp [tsz, hd] at he
  | some d => exact ⟨d, rfl, by simp [tsz, hd]⟩

theorem y_fieldAddr {o : Oper} {t : TypeId} {a : Operand} {f : Nat} {x : SV} (hop : o.op = .fieldAddr t a f) (hρ : ∀ x, RS G T (ρ x) (σ x)) (h : c.pure (.fieldAddr t a f) ρ = some x) : Yields c G T w σ o x := by
  refine .of_sem (s := Instr.fieldAt t (σ a) f) (by simp only [execOp, hop]) ?_
  simp only [Ctx.pure] at h
  split at h <;> first | (cases h; done) | skip
  rename_i fs hk
  obtain ⟨gs, hu, rfl⟩ := tk_struct hk
  split at h <;> first | (cases h; done) | skip
  rename_i off ty hf
  simp only [List.getElem?_map, Option.map_eq_some_iff] at hf
  obtain ⟨g, hg, hge⟩ := hf
  cases hge
  split at h
  · cases h
  rename_i hne
  obtain ⟨i, hi⟩ : ∃ i, c.P.info? g.type = some i := by
    cases hi : c.P.info? g.type with
    | none => simp [tsz, hi] at hne
    | some i => exact ⟨i, rfl⟩
  have hsz : i.size ≠ 0 := by simpa [tsz, hi] using hne
  have hr := (hρ a).1
  have hgs : gs[f]? = some g := by simpa using hg
  have run : ∀ ad : Addr, (Instr.fieldAt t (.pointer (some ad)) f).run c.P w = .ok (.pointer (some (ad.add g.offset))) w := by
    intro ad
    simp [Instr.fieldAt, run_underlying c.P w hu, hgs, Instr.sureAddr, fieldPlace, run_sizeOf c.P w hi, hsz]
  generalize ρ a = y at *
  obtain ⟨y, tg⟩ := y
  split at h <;> first | (cases h; done) | skip
  · rename_i b oo hy
    simp only at hy hr
    subst hy
    cases h
    generalize hv : σ a = v at hr
    cases hr with
    | ptr _ _ cc hφ =>
      refine ⟨_, run _, ?_⟩
      have : (⟨cc, oo, none⟩ : Addr).add g.offset = ⟨cc, oo + g.offset, none⟩ := by unfold Addr.add; split <;> simp_all
      rw [this]
      exact RS.ptrTag (Tag.ptrTag_cases _) (.ptr _ _ _ hφ)
  · rename_i cs hy
    simp only at hy hr
    subst hy
    cases h
    generalize hv : σ a = v at hr
    cases hr with
    | iptr _ cc oo ff hI hR =>
      refine ⟨_, run _, ?_⟩
      have : (⟨cc, oo, none⟩ : Addr).add g.offset = ⟨cc, oo + g.offset, none⟩ := by unfold Addr.add; split <;> simp_all
      rw [this]
      refine RS.ptrTag (Tag.ptrTag_cases _) (.iptr _ _ _ (fun i => ff (g.offset + i)) (fun i hi => ?_) (fun i hi => ?_))
      · rw [Nat.add_assoc]; exact hI _ (by simp at hi; omega)
      · have h2 := hR (g.offset + i) (by simp at hi; omega)
        simpa using h2

theorem y_field {o : Oper} {t : TypeId} {a : Operand} {f : Nat} {x : SV} (hop : o.op = .field t a f) (hρ : ∀ x, RS G T (ρ x) (σ x)) (h : c.pure (.field t a f) ρ = some x) : Yields c G T w σ o x := by
  refine .of_sem (s := Instr.field t (σ a) f) (by simp only [execOp, hop]) ?_
  simp only [Ctx.pure] at h
  split at h <;> first | (cases h; done) | skip
  rename_i fs hk
  obtain ⟨gs, hu, rfl⟩ := tk_struct hk
  split at h <;> first | (cases h; done) | skip
  rename_i off ty cs hf hy
  simp only [List.getElem?_map, Option.map_eq_some_iff] at hf
  obtain ⟨g, hg, hge⟩ := hf
  cases hge
  have hgs : gs[f]? = some g := by simpa using hg
  have hs := expand_sound (hρ a) (by rw [hy]; rfl)
  have hr := (hρ a).1
  rw [hy] at hr
  generalize hv : σ a = v at *
  cases hr with
  | agg _ vs hl hR =>
    obtain ⟨v, h1, h2⟩ := part_sound (w := w) (vs := vs) (by rw [hs.1]; exact Nat.le_refl _) hs.2 h
    exact ⟨v, by simp [Instr.field, run_underlying c.P w hu, hgs, asAgg, h1], h2⟩

theorem y_index {o : Oper} {t : TypeId} {a i : Operand} {x : SV} (hop : o.op = .index t a i) (hρ : ∀ x, RS G T (ρ x) (σ x)) (h : c.pure (.index t a i) ρ = some x) : Yields c G T w σ o x := by
  refine .of_sem (s := Instr.index t (σ a) (σ i)) (by simp only [execOp, hop]) ?_
  simp only [Ctx.pure] at h
  split at h <;> first | (cases h; done) | skip
  rename_i k n hi
  have hri := (hρ i).1
  rw [hi] at hri
  generalize hiv : σ i = vi at *
  cases hri
  split at h <;> first | (cases h; done) | skip
  · rename_i m e cs hk hy
    have hu := tk_array hk
    obtain ⟨hn, h⟩ := Option.ite_none_right_eq_some.1 h
    have hs := expand_sound (hρ a) (by rw [hy]; rfl)
    have hr := (hρ a).1
    rw [hy] at hr
    generalize hv : σ a = v at *
    cases hr with
    | agg _ vs hl hR =>
      obtain ⟨d, hd⟩ : ∃ ii, c.P.info? e = some ii := by
        unfold Ctx.part at h
        cases hke : tk c.P e with
        | other => simp [hke] at h
        | _ => obtain ⟨d, hd⟩ := underlying_of_tk hke (by simp); exact info_of_underlying hd
      have hsz : tsz c.P e = d.size := by simp [tsz, hd]
      obtain ⟨v, h1, h2⟩ := part_sound (w := w) (vs := vs) (by rw [hs.1]; exact Nat.le_refl _) hs.2 h
      refine ⟨v, ?_, h2⟩
      rw [hsz] at h1
      simp [Instr.index, asIntOf, run_underlying c.P w hu, hn, run_sizeOf c.P w hd, h1]
  · rename_i s hk hy
    have hu := tk_string hk
    obtain ⟨hn, h⟩ := Option.ite_none_right_eq_some.1 h
    simp only [Option.map_eq_some_iff] at h
    obtain ⟨b, hb, rfl⟩ := h
    have hr := (hρ a).1
    rw [hy] at hr
    generalize hv : σ a = v at *
    cases hr with
    | str =>
      refine ⟨.int .u8 b.toNat, ?_, RS.no (.int _ _)⟩
      have : (⟨⟨s⟩⟩ : ByteArray)[n.toNat]? = some b := by
        obtain ⟨hlt, rfl⟩ := List.getElem?_eq_some_iff.1 hb
        have : n.toNat < (⟨⟨s⟩⟩ : ByteArray).size := hlt
        rw [getElem?_pos (⟨⟨s⟩⟩ : ByteArray) n.toNat this]
        rfl
      simp [Instr.index, asIntOf, run_underlying c.P w hu, hn, this]

theorem y_indexAddr {o : Oper} {t : TypeId} {a i : Operand} {x : SV} (hop : o.op = .indexAddr t a i) (hρ : ∀ x, RS G T (ρ x) (σ x)) (h : c.pure (.indexAddr t a i) ρ = some x) : Yields c G T w σ o x := by
  refine .of_sem (s := Instr.indexAt t (σ a) (σ i)) (by simp only [execOp, hop]) ?_
  simp only [Ctx.pure] at h
  split at h <;> first | (cases h; done) | skip
  rename_i k n hi
  have hri := (hρ i).1
  rw [hi] at hri
  generalize hiv : σ i = vi at *
  cases hri
  have hr := (hρ a).1
  have info : ∀ e, 1 ≤ tsz c.P e → ∃ d, c.P.info? e = some d ∧ tsz c.P e = d.size := by
    intro e he
    cases hd : c.P.info? e with
    | none => simp [tsz, hd] at he
    | some d => exact ⟨d, rfl, by simp [tsz, hd]⟩
  split at h <;> first | (cases h; done) | skip
  · rename_i e xs hk hy
    have hu := tk_slice hk
    rw [hy] at hr
    obtain ⟨⟨h0, hn, h1⟩, h⟩ := Option.ite_none_right_eq_some.1 h
    simp only [Option.bind_eq_some_iff] at h
    obtain ⟨v, hv, h⟩ := h
    obtain ⟨hx0, h⟩ := Option.ite_none_right_eq_some.1 h
    cases h
    obtain ⟨hlt, rfl⟩ := List.getElem?_eq_some_iff.1 hv
    obtain ⟨d, hd, hds⟩ := info e h1
    generalize hav : σ a = av at *
    cases hr with
    | nils b => simp at hlt
    | sl sz0 _ cc oo cap f hs hc hI hR h1c =>
      generalize hz : tsz c.P e = sz at *
      obtain rfl : sz0 = sz := by rw [← hs _ (List.getElem_mem hlt), hx0]
      refine ⟨.pointer (some ((⟨cc, oo, none⟩ : Addr).add (n.toNat * d.size))), ?_, ?_⟩
      · have : 0 ≤ n ∧ n < (xs.length : Int) := ⟨h0, hn⟩
        simp [Instr.indexAt, asIntOf, run_underlying c.P w hu, this, run_sizeOf c.P w hd]
      · have : (⟨cc, oo, none⟩ : Addr).add (n.toNat * d.size) = ⟨cc, oo + n.toNat * d.size, none⟩ := by unfold Addr.add; split <;> simp_all
        rw [this, ← hds]
        have hx := hx0
        have hfl := fl_length hs
        have hb : n.toNat * sz0 + sz0 ≤ (fl xs).length := by
          rw [hfl, ← Nat.succ_mul]; exact Nat.mul_le_mul_right _ hlt
        refine RS.no (.iptr _ _ _ (fun j => f (n.toNat * sz0 + j)) (fun j hj => ?_) (fun j hj => ?_))
        · rw [Nat.add_assoc]; exact hI _ (by omega)
        · have hj' : j < sz0 := by omega
          have h2 := hR (n.toNat * sz0 + j) (by omega)
          have e2 : (fl xs)[n.toNat * sz0 + j]'(by omega) = xs[n.toNat].cells[j] := by
            have h3 : fl (xs.drop n.toNat) = (fl xs).drop (n.toNat * sz0) := fl_drop hs _
            rw [List.drop_eq_getElem_cons hlt, fl_cons] at h3
            have h4 : ((fl xs).drop (n.toNat * sz0))[j]? = (xs[n.toNat].cells ++ fl (xs.drop (n.toNat + 1)))[j]? := by rw [h3]
            rw [List.getElem?_drop, List.getElem?_append_left hj, List.getElem?_eq_getElem (by omega), List.getElem?_eq_getElem hj] at h4
            exact Option.some.inj h4
          rw [e2] at h2; exact h2
  · rename_i e b oo m hk hy
    have hu := tk_slice hk
    rw [hy] at hr
    obtain ⟨⟨h0, hn, h1⟩, h⟩ := Option.ite_none_right_eq_some.1 h
    cases h
    obtain ⟨d, hd, hds⟩ := info e h1
    generalize hav : σ a = av at *
    cases hr with
    | slr _ _ _ cc cap hφ hc =>
      refine ⟨.pointer (some ((⟨cc, oo, none⟩ : Addr).add (n.toNat * d.size))), ?_, ?_⟩
      · have : 0 ≤ n ∧ n < (m : Int) := ⟨h0, hn⟩
        simp [Instr.indexAt, asIntOf, run_underlying c.P w hu, this, run_sizeOf c.P w hd]
      · have : (⟨cc, oo, none⟩ : Addr).add (n.toNat * d.size) = ⟨cc, oo + n.toNat * d.size, none⟩ := by unfold Addr.add; split <;> simp_all
        rw [this, ← hds]
        exact RS.ptrTag (.inr (.inr rfl)) (.ptr _ _ _ hφ)
  · rename_i m e b oo hk hy
    have hu := tk_array hk
    rw [hy] at hr
    obtain ⟨⟨h0, hn, h1⟩, h⟩ := Option.ite_none_right_eq_some.1 h
    cases h
    obtain ⟨d, hd, hds⟩ := info e h1
    generalize hav : σ a = av at *
    cases hr with
    | ptr _ _ cc hφ =>
      refine ⟨.pointer (some ((⟨cc, oo, none⟩ : Addr).add (n.toNat * d.size))), ?_, ?_⟩
      · have : 0 ≤ n ∧ n < (m : Int) := ⟨h0, hn⟩
        simp [Instr.indexAt, asIntOf, run_underlying c.P w hu, this, run_sizeOf c.P w hd, Instr.sureAddr]
      · have : (⟨cc, oo, none⟩ : Addr).add (n.toNat * d.size) = ⟨cc, oo + n.toNat * d.size, none⟩ := by unfold Addr.add; split <;> simp_all
        rw [this, ← hds]
        exact RS.ptrTag (symTag_ptr _ _) (.ptr _ _ _ hφ)
  · rename_i m e cs hk hy
    have hu := tk_array hk
    rw [hy] at hr
    obtain ⟨⟨h0, hn, h1⟩, h⟩ := Option.ite_none_right_eq_some.1 h
    cases h
    obtain ⟨d, hd, hds⟩ := info e h1
    generalize hav : σ a = av at *
    cases hr with
    | iptr _ cc oo ff hI hR =>
      refine ⟨.pointer (some ((⟨cc, oo, none⟩ : Addr).add (n.toNat * d.size))), ?_, ?_⟩
      · have : 0 ≤ n ∧ n < (m : Int) := ⟨h0, hn⟩
        simp [Instr.indexAt, asIntOf, run_underlying c.P w hu, this, run_sizeOf c.P w hd, Instr.sureAddr]
      · have : (⟨cc, oo, none⟩ : Addr).add (n.toNat * d.size) = ⟨cc, oo + n.toNat * d.size, none⟩ := by unfold Addr.add; split <;> simp_all
        rw [this, ← hds]
        refine RS.ptrTag (symTag_ptr _ _) (.iptr _ _ _ (fun i => ff (n.toNat * tsz c.P e + i)) (fun i hi => ?_) (fun i hi => ?_))
        · rw [Nat.add_assoc]; exact hI _ (by simp at hi; omega)
        · have h2 := hR (n.toNat * tsz c.P e + i) (by simp at hi; omega)
          simpa using h2

theorem y_slice {o : Oper} {t : TypeId} {a : Operand} {lo hi mx : Option Operand} {x : SV} (hop : o.op = .slice t a lo hi mx) (hρ : ∀ x, RS G T (ρ x) (σ x)) (h : c.pure (.slice t a lo hi mx) ρ = some x) : Yields c G T w σ o x := by
  refine .of_sem (s := Instr.sliceAt t (σ a) (lo.map σ) (hi.map σ) (mx.map σ)) (by simp only [execOp, hop]) ?_
  simp only [Ctx.pure] at h
  have hr := (hρ a).1
  split at h <;> first | (cases h; done) | skip
  · rename_i s hk hy
    have hu := tk_string hk
    rw [hy] at hr
    simp only [Option.map_eq_some_iff] at h
    obtain ⟨⟨l, hh⟩, hb, rfl⟩ := h
    generalize hav : σ a = av at *
    cases hr with
    | str =>
      obtain ⟨h1, h2, h3⟩ := bounds_sound (c := c) (w := w) (cap := s.length) (isSl := false) (Nat.le_refl _) hρ hb
      refine ⟨.string ((⟨⟨s⟩⟩ : ByteArray).extract l hh), ?_, ?_⟩
      · have h1' := h1
        simp only [← size_mk] at h1'
        simp [Instr.sliceAt, Instr.slice, run_underlying c.P w hu, h1']
      · have : (⟨⟨s⟩⟩ : ByteArray).extract l hh = ⟨⟨(s.take hh).drop l⟩⟩ := by
          apply ByteArray.ext
          apply Array.ext'
          rw [ByteArray.data_extract, Array.toList_extract, List.extract_eq_take_drop, List.drop_take]
        rw [this]
        exact RS.no (.str _)
  · rename_i e xs hk hy
    have hu := tk_slice hk
    rw [hy] at hr
    obtain ⟨⟨h1z, hz⟩, h⟩ := Option.ite_none_right_eq_some.1 h
    simp only [Option.map_eq_some_iff] at h
    obtain ⟨⟨l, hh⟩, hb, hx⟩ := h
    obtain ⟨d, hd, hds⟩ := info_of_tsz h1z
    generalize hav : σ a = av at *
    have hr0 := hr
    cases hr with
    | nils b =>
      obtain ⟨h1, h2, h3⟩ := bounds_sound (c := c) (w := w) (cap := 0) (isSl := true) (Nat.le_refl _) hρ hb
      subst hx
      obtain rfl : hh = 0 := by simpa using h3
      obtain rfl : l = 0 := by omega
      refine ⟨.slice b 0 0, ?_, RS.no (.nils b)⟩
      simp [Instr.sliceAt, Instr.slice, run_underlying c.P w hu, h1, run_sizeOf c.P w hd]
    | sl sz _ cc oo cap f hs hc hI hR h1c =>
      obtain ⟨h1, h2, h3⟩ := bounds_sound (c := c) (w := w) (cap := cap) (isSl := true) hc hρ hb
      subst hx
      refine ⟨.slice (if cap = l then some ⟨cc, oo, none⟩ else (some (⟨cc, oo, none⟩ : Addr)).map (·.add (l * d.size))) (hh - l) (cap - l), ?_, ?_⟩
      · simp [Instr.sliceAt, Instr.slice, run_underlying c.P w hu, h1, run_sizeOf c.P w hd]
      · refine RS.no ?_
        have hsub := R.sub hr0 hz h2 h3 (cap' := cap - l) (by omega)
        by_cases hcl : cap = l
        · rw [if_pos hcl]
          have he : (xs.take hh).drop l = [] := by simp; omega
          have hz0 : hh - l = 0 := by omega
          rw [he, hz0]
          exact .slEmpty _ _ _
        · rw [if_neg hcl, Option.map_some]
          have : (⟨cc, oo, none⟩ : Addr).add (l * d.size) = ⟨cc, oo + l * tsz c.P e, none⟩ := by
            rw [hds]; unfold Addr.add; split <;> simp_all
          rw [this]; exact hsub
  · rename_i e xs m hk hy
    have hu := tk_slice hk
    rw [hy] at hr
    split at h <;> first | (cases h; done) | skip
    rename_i h' k m0 hm
    split at h <;> first | (cases h; done) | skip
    rename_i k' h0 hh
    obtain ⟨⟨h1z, hm0, hh0⟩, h9⟩ := Option.ite_none_right_eq_some.1 h
    subst hm0
    subst hh0
    cases h9
    obtain ⟨d, hd, hds⟩ := info_of_tsz h1z
    have hrm := (hρ m).1
    have hrh := (hρ h').1
    rw [hm] at hrm
    rw [hh] at hrh
    generalize hmv : σ m = mv at *
    generalize hhv : σ h' = hv at *
    generalize hav : σ a = av at *
    cases hrm; cases hrh
    cases hr with
    | nils b =>
      refine ⟨.slice b 0 0, ?_, .nils b, ?_, ?_⟩
      · simp [Instr.sliceAt, Instr.slice, Instr.sliceBounds, Instr.sliceBound, asIntOf, run_underlying c.P w hu, hmv, hhv, run_sizeOf c.P w hd]
      · intro b l c h; cases h; rfl
      · trivial
    | sl _ _ cc oo cap f hs hc hI hR h1c =>
      refine ⟨.slice (some ⟨cc, oo, none⟩) 0 0, ?_, .slEmpty _ _ _, ?_, ?_⟩
      · simp [Instr.sliceAt, Instr.slice, Instr.sliceBounds, Instr.sliceBound, asIntOf, run_underlying c.P w hu, hmv, hhv, run_sizeOf c.P w hd]
      · intro b l c h; cases h; rfl
      · trivial
  · rename_i e b oo n hk hy
    have hu := tk_slice hk
    rw [hy] at hr
    obtain ⟨h1z, h⟩ := Option.ite_none_right_eq_some.1 h
    simp only [Option.bind_eq_some_iff] at h
    obtain ⟨⟨l, hh⟩, hb, hx⟩ := h
    obtain ⟨hl0, hx⟩ := Option.ite_none_right_eq_some.1 hx
    cases hx
    obtain ⟨d, hd, hds⟩ := info_of_tsz h1z
    generalize hav : σ a = av at *
    cases hr with
    | slr _ _ _ cc cap hφ hc =>
      obtain ⟨h1, h2, h3⟩ := bounds_sound (c := c) (w := w) (cap := cap) (isSl := true) hc hρ hb
      refine ⟨.slice (if cap = l then some ⟨cc, oo, none⟩ else (some (⟨cc, oo, none⟩ : Addr)).map (·.add (l * d.size))) (hh - l) (cap - l), ?_, ?_⟩
      · simp [Instr.sliceAt, Instr.slice, run_underlying c.P w hu, h1, run_sizeOf c.P w hd]
      · refine RS.no ?_
        have hadd : (⟨cc, oo, none⟩ : Addr).add (l * d.size) = ⟨cc, oo + l * tsz c.P e, none⟩ := by
          rw [hds]; unfold Addr.add; split <;> simp_all
        by_cases hcl : cap = l
        · have : l = 0 := by omega
          subst this
          rw [if_pos hcl]
          simp only [Nat.zero_mul, Nat.add_zero]
          exact .slr _ _ _ _ _ hφ (by omega)
        · rw [if_neg hcl, Option.map_some, hadd]
          exact .slr _ _ _ _ _ hφ (by omega)
  · rename_i n e b oo hk hy
    have hu := tk_array hk
    rw [hy] at hr
    split at h
    · obtain ⟨h1z, h⟩ := Option.ite_none_right_eq_some.1 h
      cases h
      obtain ⟨d, hd, hds⟩ := info_of_tsz h1z
      generalize hav : σ a = av at *
      cases hr with
      | ptr _ _ cc hφ =>
        refine ⟨.slice (some ⟨cc, oo, none⟩) n n, ?_, RS.no (.slr _ _ _ _ _ hφ (Nat.le_refl _))⟩
        simp [Instr.sliceAt, Instr.sureAddr, Instr.sliceBounds, run_underlying c.P w hu, run_sizeOf c.P w hd, Addr.add]
    · obtain ⟨h1z, h⟩ := Option.ite_none_right_eq_some.1 h
      simp only [Option.bind_eq_some_iff] at h
      obtain ⟨⟨l, hh⟩, hb, hx⟩ := h
      obtain ⟨hl0, hx⟩ := Option.ite_none_right_eq_some.1 hx
      cases hx
      obtain ⟨d, hd, hds⟩ := info_of_tsz h1z
      generalize hav : σ a = av at *
      cases hr with
      | ptr _ _ cc hφ =>
        obtain ⟨h1, h2, h3⟩ := bounds_sound (c := c) (w := w) (cap := n) (isSl := false) (Nat.le_refl _) hρ hb
        have hadd : (⟨cc, oo, none⟩ : Addr).add (l * d.size) = ⟨cc, oo + l * tsz c.P e, none⟩ := by
          rw [hds]; unfold Addr.add; split <;> simp_all
        refine ⟨.slice (some ⟨cc, oo + l * tsz c.P e, none⟩) (hh - l) (n - l), ?_, RS.no (.slr _ _ _ _ _ hφ (by omega))⟩
        have hnl : ¬ n = l := by omega
        simp [Instr.sliceAt, Instr.sureAddr, run_underlying c.P w hu, run_sizeOf c.P w hd, h1, hadd, hnl]
end
end Go.Ab
end
section
namespace Go.Ab
/-- what 'fill' writes -/
def putRow (cs : Array Value) (off : Nat) (vs : Array Value) : Array Value := vs.zipIdx.foldl (fun cs (c, j) => cs.setIfInBounds (off + j) c) cs
theorem putRow_list (off : Nat) : ∀ (l : List Value) (k : Nat) (cs : Array Value),
    ((l.zipIdx k).foldl (fun cs (c, j) => cs.setIfInBounds (off + j) c) cs).size = cs.size ∧
    ∀ i, ((l.zipIdx k).foldl (fun (cs : Array Value) (p : Value × Nat) => cs.setIfInBounds (off + p.2) p.1) cs)[i]? =
      if off + k ≤ i ∧ i < off + k + l.length ∧ i < cs.size then l[i - (off + k)]? else cs[i]? := by
  intro l
  induction l with
  | nil => intro k cs; simp; intro i h1 h2; omega
  | cons v l ih =>
    intro k cs
    simp only [List.zipIdx_cons, List.foldl_cons]
    obtain ⟨h1, h2⟩ := ih (k + 1) (cs.setIfInBounds (off + k) v)
    refine ⟨by rw [h1]; simp, fun i => ?_⟩
    rw [h2 i]
    simp only [Array.size_setIfInBounds, List.length_cons]
    by_cases h : off + (k + 1) ≤ i ∧ i < off + (k + 1) + l.length ∧ i < cs.size
    · rw [if_pos h, if_pos (by omega), show i - (off + k) = (i - (off + (k + 1))) + 1 by omega]
      simp
    · rw [if_neg h]
      by_cases hi : i = off + k
      · subst hi
        by_cases hs : off + k < cs.size
        · rw [if_pos (by omega)]
          simp [hs]
        · rw [if_neg (by omega)]
          simp [hs]
      · rw [Array.getElem?_setIfInBounds_ne (by omega), if_neg (by omega)]
theorem putRow_size (cs : Array Value) (off : Nat) (vs : Array Value) : (putRow cs off vs).size = cs.size := by
  unfold putRow
  rw [← Array.foldl_toList]
  simpa using (putRow_list off vs.toList 0 cs).1
theorem putRow_get (cs : Array Value) (off : Nat) (vs : Array Value) (i : Nat) :
    (putRow cs off vs)[i]? = if off ≤ i ∧ i < off + vs.size ∧ i < cs.size then vs[i - off]? else cs[i]? := by
  unfold putRow
  rw [← Array.foldl_toList]
  have := (putRow_list off vs.toList 0 cs).2 i
  simpa using this

section
variable {c : Ctx} {G : Gh} {T : List Nat} {w : World} {ρ : Operand → SV} {σ : Operand → Value}

theorem replaceAt_length {α : Type} {l new : List α} {off : Nat} (h : off + new.length ≤ l.length) : (replaceAt l off new).length = l.length := by
  simp [replaceAt]; omega
theorem replaceAt_get {α : Type} {l new : List α} {off : Nat} (h : off + new.length ≤ l.length) (i : Nat) :
    (replaceAt l off new)[i]? = if off ≤ i ∧ i < off + new.length then new[i - off]? else l[i]? := by
  unfold replaceAt
  have ht : (l.take off).length = off := by simp; omega
  by_cases h1 : i < off
  · rw [if_neg (by omega), List.append_assoc, List.getElem?_append_left (by omega), List.getElem?_take, if_pos h1]
  · by_cases h2 : i < off + new.length
    · rw [if_pos (by omega), List.append_assoc, List.getElem?_append_right (by omega), ht, List.getElem?_append_left (by omega)]
    · rw [if_neg (by omega), List.getElem?_append_right (by simp; omega), List.getElem?_drop]
      congr 1
      simp; omega

theorem RSs.put {cs new : List SV} {vs nv : Array Value} {off : Nat} (h : RSs G T cs vs) (hn : RSs G T new nv) (ho : off + new.length ≤ cs.length) :
    RSs G T (replaceAt cs off new) (putRow vs off nv) := by
  refine ⟨by rw [replaceAt_length ho, putRow_size]; exact h.1, fun i hi hi' => ?_⟩
  have e1 := replaceAt_get ho i
  have e2 := putRow_get vs off nv i
  rw [List.getElem?_eq_getElem hi] at e1
  rw [Array.getElem?_eq_getElem hi'] at e2
  have hl := h.1
  have hnl := hn.1
  rw [replaceAt_length ho] at hi
  by_cases hc : off ≤ i ∧ i < off + new.length
  · rw [if_pos hc] at e1
    rw [if_pos (by omega)] at e2
    rw [List.getElem?_eq_getElem (by omega)] at e1
    rw [Array.getElem?_eq_getElem (by omega)] at e2
    rw [Option.some.inj e1, Option.some.inj e2]
    exact hn.2 _ _ _
  · rw [if_neg hc] at e1
    rw [if_neg (by omega)] at e2
    rw [List.getElem?_eq_getElem (by omega)] at e1
    rw [Array.getElem?_eq_getElem (by omega)] at e2
    rw [Option.some.inj e1, Option.some.inj e2]
    exact h.2 _ _ _

theorem fill_sound {place : Nat → Option (Nat × Nat)} : ∀ (parts : List (Nat × Operand)) (cells cells' : List SV) (vs : Array Value), RSs G T cells vs → (∀ x, RS G T (ρ x) (σ x)) →
    fillA place cells (parts.map fun p => (p.1, ρ p.2)) = some cells' → ∃ vs', Instr.fill place vs (parts.map fun p => (p.1, σ p.2)) = some vs' ∧ RSs G T cells' vs' := by
  intro parts
  induction parts with
  | nil => intro cells cells' vs h _ hf; simp [fillA] at hf; subst hf; exact ⟨vs, rfl, h⟩
  | cons p r ih =>
    intro cells cells' vs h hρ hf
    simp only [List.map_cons, fillA] at hf
    cases hp : place p.1 with
    | none => simp [hp] at hf
    | some os =>
      obtain ⟨off, size⟩ := os
      simp only [hp] at hf
      obtain ⟨⟨hk, hs, ho⟩, hf⟩ := Option.ite_none_right_eq_some.1 hf
      have he := expand_sound (hρ p.2) hk
      obtain ⟨vs', h1, h2⟩ := ih _ cells' _ (RSs.put h he (off := off) (by omega)) hρ hf
      refine ⟨vs', ?_, h2⟩
      have hsz : (σ p.2).cells.size = size := by rw [← he.1]; exact hs
      simp only [List.map_cons, Instr.fill, hp]
      rw [if_neg (by simp [hsz]; have := h.1; omega)]
      exact h1

theorem zero_sound {t : TypeId} {i : TypeInfo} {z : Value} (hi : c.P.info? t = some i) (hz : i.zero = some z) : RSs G T (tzs c.P t) z.cells := by
  simp only [tzs, tz, hi, hz]
  refine ⟨by simp, fun j hj hj' => ?_⟩
  simp only [List.getElem_map, Array.getElem_toList]
  exact RS.absS G T _

theorem mapM_places {gs : List Field} {w : World} (h : ∀ g ∈ gs, ∃ d, c.P.info? g.type = some d) :
    (gs.mapM (fun f => do pure (f.offset, ← sizeOf f.type)) : Sem (List (Nat × Nat))).run c.P w = .ok (gs.map fun f => (f.offset, tsz c.P f.type)) w := by
  induction gs with
  | nil => rfl
  | cons g gs ih =>
    obtain ⟨d, hd⟩ := h g (by simp)
    have e : tsz c.P g.type = d.size := by simp [tsz, hd]
    simp only [List.mapM_cons, Sem.run_bind, run_sizeOf c.P w hd, Result.andThen_ok, ih (fun x hx => h x (by simp [hx])), Sem.run_pure, List.map_cons, e]

theorem of_hasZero {P : Program} {t : TypeId} (h : hasZero P t = true) : ∃ i z, P.info? t = some i ∧ i.zero = some z := by
  unfold hasZero at h
  split at h
  · rename_i i hi
    cases hz : i.zero with
    | none => simp [hz] at h
    | some z => exact ⟨i, z, hi, hz⟩
  · cases h
theorem y_build {o : Oper} {t : TypeId} {parts : Array (Nat × Operand)} {x : SV} (hop : o.op = .build t parts) (hρ : ∀ x, RS G T (ρ x) (σ x)) (h : c.pure (.build t parts) ρ = some x) : Yields c G T w σ o x := by
  refine .of_sem (s := Instr.build t (parts.map fun (i, x) => (i, σ x))) (by simp only [execOp, hop]) ?_
  simp only [Ctx.pure] at h
  split at h
  · cases h
  rename_i hhz
  obtain ⟨i, z, hi, hz⟩ := of_hasZero (by simpa using hhz)
  have hzero : (zeroValue t).run c.P w = .ok z w := by simp [zeroValue, typeInfo, hi, hz]
  have hz0 := zero_sound (G := G) (T := T) hi hz
  split at h <;> first | (cases h; done) | skip
  · rename_i fs hk
    obtain ⟨gs, hu, rfl, hn⟩ := names_of_tk hk
    split at h <;> first | (cases h; done) | skip
    rename_i cells hf
    cases h
    obtain ⟨vs', h1, h2⟩ := fill_sound parts.toList _ _ z.cells hz0 hρ hf
    refine ⟨.agg vs', ?_, collect_sound h2⟩
    have hpl := mapM_places (c := c) (w := w) (gs := gs.toList) (fun g hg => (hn g hg).2)
    have e : (fun x : Nat => (gs.toList.map fun f => (f.offset, tsz c.P f.type)).toArray[x]?) = (fun i : Nat => ((gs.toList.map fun f => (f.offset, f.type))[i]?).map fun (f : Nat × TypeId) => (f.1, tsz c.P f.2)) := by
      funext j; simp [Function.comp_def]
    simp only [Instr.build, Sem.run_bind, hzero, Result.andThen_ok, run_underlying c.P w hu, Array.mapM_eq_mapM_toList, Sem.run_map, hpl]
    rw [e]
    simp only [Array.toList_map]
    rw [h1]
    rfl
  · rename_i n e hk
    have hu := tk_array hk
    split at h
    · cases h
    rename_i hni
    obtain ⟨d, hd⟩ : ∃ d, c.P.info? e = some d := by
      cases hd : c.P.info? e with
      | none => simp [hd] at hni
      | some d => exact ⟨d, rfl⟩
    have hds : tsz c.P e = d.size := by simp [tsz, hd]
    split at h <;> first | (cases h; done) | skip
    rename_i cells hf
    cases h
    obtain ⟨vs', h1, h2⟩ := fill_sound parts.toList _ _ z.cells hz0 hρ hf
    refine ⟨.agg vs', ?_, collect_sound h2⟩
    simp only [Instr.build, Sem.run_bind, hzero, Result.andThen_ok, run_underlying c.P w hu, run_sizeOf c.P w hd, Array.toList_map]
    rw [hds] at h1
    rw [h1]
    rfl
end
end Go.Ab
end
section
namespace Go.Ab
section
variable {c : Ctx} {G : Gh} {T : List Nat} {w : World} {ρ : Operand → SV} {σ : Operand → Value}

theorem y_move {o : Oper} {a : Operand} {x : SV} (hop : o.op = .move a ∨ o.op = .assign a) (hρ : ∀ x, RS G T (ρ x) (σ x)) (h : some (ρ a) = some x) : Yields c G T w σ o x := by
  cases h
  rcases hop with hop | hop <;> exact ⟨σ a, by simp [execOp, hop], hρ a⟩
theorem y_pick {o : Oper} {k a b : Operand} {x : SV} (hop : o.op = .pick k a b) (hρ : ∀ x, RS G T (ρ x) (σ x)) (h : c.pure (.pick k a b) ρ = some x) : Yields c G T w σ o x := by
  simp only [Ctx.pure] at h
  split at h <;> first | (cases h; done) | skip
  rename_i t hk
  cases h
  have hr := (hρ k).1
  rw [hk] at hr
  generalize hv : σ k = v at hr
  cases hr
  cases t
  · exact ⟨σ b, by simp [execOp, hop, hv, asBool], hρ b⟩
  · exact ⟨σ a, by simp [execOp, hop, hv, asBool], hρ a⟩
theorem y_nilCheck {o : Oper} {a : Operand} {x : SV} (hop : o.op = .nilCheck a) (hρ : ∀ x, RS G T (ρ x) (σ x)) (h : c.pure (.nilCheck a) ρ = some x) : Yields c G T w σ o x := by
  simp only [Ctx.pure] at h
  have hr := (hρ a)
  split at h <;> first | (cases h; done) | skip
  all_goals
    rename_i hk
    cases h
    refine ⟨σ a, ?_, hr⟩
    have hr1 := hr.1
    rw [hk] at hr1
    generalize hv : σ a = v at hr1
    cases hr1
    simp [execOp, hop, hv]
theorem y_unOp {o : Oper} {op : UnOp} {t : TypeId} {a : Operand} {x : SV} (hop : o.op = .unOp op t a) (hρ : ∀ x, RS G T (ρ x) (σ x)) (h : c.pure (.unOp op t a) ρ = some x) : Yields c G T w σ o x := by
  refine .of_sem (s := Op.unary op (σ a)) (by simp only [execOp, hop]) ?_
  simp only [Ctx.pure, Option.map_eq_some_iff] at h
  obtain ⟨z, hz, rfl⟩ := h
  have hr := (hρ a).1
  generalize (ρ a).1 = y at *
  generalize σ a = v at *
  unfold aUn at hz
  split at hz <;> first | (cases hz; done) | skip
  · cases hz; cases hr; exact ⟨_, rfl, RS.no (.bool _)⟩
  · cases hr
    rename_i k n
    simp [aInt] at hz
    subst hz
    exact ⟨_, by simp [Op.unary, Op.intArith], RS.no (.int _ _)⟩
  · cases hr
    obtain ⟨v, h1, h2⟩ := aBits_sound (c := c) (G := G) (w := w) hz
    exact ⟨v, by simpa [Op.unary] using h1, RS.no h2⟩
theorem y_makeInterface {o : Oper} {t : TypeId} {a : Operand} {x : SV} (hop : o.op = .makeInterface t a) (hρ : ∀ x, RS G T (ρ x) (σ x)) (h : c.pure (.makeInterface t a) ρ = some x) : Yields c G T w σ o x := by
  refine .of_sem (s := Instr.makeInterface t (σ a)) (by simp only [execOp, hop]) ?_
  simp only [Ctx.pure] at h
  have hi : ∀ ms, c.P.underlying t ≠ some (.interface ms) := by
    intro ms hu
    have : tk c.P t = .iface := by unfold tk; rw [hu]
    rw [this] at h
    cases h
  obtain ⟨d, hd⟩ : ∃ d, c.P.underlying t = some d := by
    cases hk : tk c.P t with
    | other => rw [hk] at h; cases h
    | _ => exact underlying_of_tk hk (by simp)
  have hx : x = (.iface t (ρ a).1, .no) := by
    split at h <;> first | (cases h; done) | (cases h; rfl)
  subst hx
  refine ⟨.iface t (σ a), ?_, RS.no (.iface _ _ _ (hρ a).1)⟩
  simp only [Instr.makeInterface, Sem.run_bind, run_underlying c.P w hd, Result.andThen_ok]
  cases d <;> first | rfl | exact absurd hd (hi _)
theorem y_makeFunc {o : Oper} {f : FuncId} {a b : Array Operand} {x : SV} (hop : o.op = .makeFunc (.func f) a b) (hρ : ∀ x, RS G T (ρ x) (σ x)) (h : c.pure (.makeFunc (.func f) a b) ρ = some x) : Yields c G T w σ o x := by
  refine .of_sem (s := Instr.makeFunc (.func f) (a.map σ) (b.map σ)) (by simp only [execOp, hop]) ?_
  simp only [Ctx.pure] at h
  cases h
  refine ⟨.func (.func f) (a.map σ) (b.map σ), rfl, RS.no (.fn _ _ _ _ _ (by simp) (by simp) (fun i h h' => ?_) (fun i h h' => ?_))⟩
  · simp; exact (hρ _).1
  · simp; exact (hρ _).1
theorem y_extract {o : Oper} {a : Operand} {i : Nat} {x : SV} (hop : o.op = .extract a i) (hρ : ∀ x, RS G T (ρ x) (σ x)) (h : c.pure (.extract a i) ρ = some x) : Yields c G T w σ o x := by
  refine .of_sem (s := Instr.extract (σ a) i) (by simp only [execOp, hop]) ?_
  simp only [Ctx.pure] at h
  split at h <;> first | (cases h; done) | skip
  rename_i vs tg hk
  simp only [Option.map_eq_some_iff] at h
  obtain ⟨v, hv, rfl⟩ := h
  obtain ⟨hlt, rfl⟩ := List.getElem?_eq_some_iff.1 hv
  have hr := hρ a
  rw [hk] at hr
  obtain ⟨hr1, hr2⟩ := hr
  simp only at hr1 hr2
  generalize σ a = u at *
  cases hr1 with
  | tup _ us hl hR =>
    have hlt' : i < us.size := by omega
    refine ⟨us[i], by simp [Instr.extract, Array.getElem?_eq_getElem hlt'], hR i hlt hlt', ?_⟩
    cases tg with
    | agg ts => exact RT.flat (hr2.2 i hlt hlt')
    | _ => exact RT.no
theorem y_typeAssert {o : Oper} {a : Operand} {t' t : TypeId} {ok : Bool} {x : SV} (hop : o.op = .typeAssert a t' t ok) (hρ : ∀ x, RS G T (ρ x) (σ x)) (h : c.pure (.typeAssert a t' t ok) ρ = some x) : Yields c G T w σ o x := by
  refine .of_sem (s := Instr.typeAssert (σ a) t' t ok) (by simp only [execOp, hop]) ?_
  simp only [Ctx.pure] at h
  split at h
  · cases h
  rename_i hhz
  obtain ⟨i, z, hi, hz⟩ := of_hasZero (by simpa using hhz)
  have hzero : (zeroValue t).run c.P w = .ok z w := by simp [zeroValue, typeInfo, hi, hz]
  have hif : ∀ ms, c.P.underlying t ≠ some (.interface ms) := by
    intro ms hu
    have : tk c.P t = .iface := by unfold tk; rw [hu]
    rw [this] at h
    simp at h
  obtain ⟨d, hd⟩ : ∃ d, c.P.underlying t = some d := by
    cases hk : tk c.P t with
    | other => rw [hk] at h; simp at h
    | _ => exact underlying_of_tk hk (by simp)
  have hra := (hρ a).1
  split at h <;> first | (cases h; done) | skip
  · rename_i u v hy hk1 hk2
    rw [hy] at hra
    generalize hva : σ a = va at *
    cases hra with
    | iface _ _ vv hv =>
      split at h
      · rename_i hut
        subst hut
        cases h
        cases ok
        · refine ⟨vv, ?_, RS.no hv⟩
          cases d <;> first
            | (simp [Instr.typeAssert, run_underlying c.P w hd]; done)
            | exact absurd hd (hif _)
        · refine ⟨.tuple #[vv, .bool true], ?_, RS.no (.tup _ _ rfl fun j h1 h2 => ?_)⟩
          · cases d <;> first
              | (simp [Instr.typeAssert, run_underlying c.P w hd]; done)
              | exact absurd hd (hif _)
          · have : j = 0 ∨ j = 1 := by simp at h1; omega
            rcases this with rfl | rfl
            · exact hv
            · exact .bool _
      · rename_i hut
        obtain ⟨rfl, h9⟩ := Option.ite_none_right_eq_some.1 h
        cases h9
        refine ⟨.tuple #[z, .bool false], ?_, RS.no (.tup _ _ rfl fun j h1 h2 => ?_)⟩
        · cases d <;> first
            | (simp [Instr.typeAssert, run_underlying c.P w hd, hut, hzero]; done)
            | exact absurd hd (hif _)
        · have : j = 0 ∨ j = 1 := by simp at h1; omega
          rcases this with rfl | rfl
          · exact .undef _
          · exact .bool _
  · rename_i hy hk1 hk2
    rw [hy] at hra
    generalize hva : σ a = va at *
    cases hra
    obtain ⟨rfl, h9⟩ := Option.ite_none_right_eq_some.1 h
    cases h9
    refine ⟨.tuple #[z, .bool false], ?_, RS.no (.tup _ _ rfl fun j h1 h2 => ?_)⟩
    · cases d <;> first
        | (simp [Instr.typeAssert, run_underlying c.P w hd, hzero]; done)
        | exact absurd hd (hif _)
    · have : j = 0 ∨ j = 1 := by simp at h1; omega
      rcases this with rfl | rfl
      · exact .undef _
      · exact .bool _
theorem y_min {o : Oper} {ops : Array Operand} {ts : Array TypeId} {x : SV} (hop : o.op = .call { callee := .builtin .min, args := ops, argTypes := ts }) (hρ : ∀ x, RS G T (ρ x) (σ x))
    (h : c.pure (.call { callee := .builtin .min, args := ops, argTypes := ts }) ρ = some x) : Yields c G T w σ o x := by
  simp only [Ctx.pure] at h
  split at h <;> first | (cases h; done) | skip
  rename_i a b hl
  split at h <;> first | (cases h; done) | skip
  rename_i k n k' m ha hb
  obtain ⟨hkk, h9⟩ := Option.ite_none_right_eq_some.1 h
  subst hkk
  cases h9
  have hra := (hρ a).1
  have hrb := (hρ b).1
  rw [ha] at hra
  rw [hb] at hrb
  generalize hva : σ a = va at *
  generalize hvb : σ b = vb at *
  cases hra; cases hrb
  refine ⟨.int k (if m < n then m else n), ?_, RS.no (.int _ _)⟩
  have e : ops = #[a, b] := by rw [← hl]
  simp [execOp, hop, resolve, invoke, builtin, Builtin.min_, Builtin.min2, e, hva, hvb]
theorem y_max {o : Oper} {ops : Array Operand} {ts : Array TypeId} {x : SV} (hop : o.op = .call { callee := .builtin .max, args := ops, argTypes := ts }) (hρ : ∀ x, RS G T (ρ x) (σ x))
    (h : c.pure (.call { callee := .builtin .max, args := ops, argTypes := ts }) ρ = some x) : Yields c G T w σ o x := by
  simp only [Ctx.pure] at h
  split at h <;> first | (cases h; done) | skip
  rename_i a b hl
  split at h <;> first | (cases h; done) | skip
  rename_i k n k' m ha hb
  obtain ⟨hkk, h9⟩ := Option.ite_none_right_eq_some.1 h
  subst hkk
  cases h9
  have hra := (hρ a).1
  have hrb := (hρ b).1
  rw [ha] at hra
  rw [hb] at hrb
  generalize hva : σ a = va at *
  generalize hvb : σ b = vb at *
  cases hra; cases hrb
  refine ⟨.int k (if m > n then m else n), ?_, RS.no (.int _ _)⟩
  have e : ops = #[a, b] := by rw [← hl]
  simp [execOp, hop, resolve, invoke, builtin, Builtin.max_, Builtin.max2, e, hva, hvb]
theorem y_len {o : Oper} {ops : Array Operand} {ts : Array TypeId} {x : SV} (hop : o.op = .call { callee := .builtin .len, args := ops, argTypes := ts }) (hρ : ∀ x, RS G T (ρ x) (σ x))
    (h : c.pure (.call { callee := .builtin .len, args := ops, argTypes := ts }) ρ = some x) : Yields c G T w σ o x := by
  simp only [Ctx.pure] at h
  split at h <;> first | (cases h; done) | skip
  rename_i a t hl ht
  have e : ops = #[a] := by rw [← hl]
  have e' : ts = #[t] := by rw [← ht]
  have hra := (hρ a).1
  have go : ∀ n : Nat, x = (.int .i64 n, .no) → (Builtin.len_ ts o.type #[σ a]).run c.P w = .ok (goInt n) w → Yields c G T w σ o x := by
    intro n hx hrun
    subst hx
    refine ⟨goInt n, ?_, RS.no (.int _ _)⟩
    simp [execOp, hop, resolve, invoke, builtin, e, hrun]
  split at h <;> first | (cases h; done) | skip
  · rename_i hk
    split at h <;> first | (cases h; done) | skip
    rename_i s hy
    rw [hy] at hra
    generalize hva : σ a = va at *
    cases hra
    cases h
    exact go _ rfl (by simp [Builtin.len_, e', run_underlying c.P w (tk_string hk), size_mk])
  · rename_i ee hk
    split at h <;> first | (cases h; done) | skip
    · rename_i xs hy
      rw [hy] at hra
      generalize hva : σ a = va at *
      cases h
      cases hra
      · exact go 0 rfl (by simp [Builtin.len_, e', run_underlying c.P w (tk_slice hk)])
      · exact go _ rfl (by simp [Builtin.len_, e', run_underlying c.P w (tk_slice hk)])
    · rename_i b oo n hy
      rw [hy] at hra
      generalize hva : σ a = va at *
      cases hra
      cases h
      exact go _ rfl (by simp [Builtin.len_, e', run_underlying c.P w (tk_slice hk)])
    · rename_i tt ss hy
      rw [hy] at hra
      generalize hva : σ a = va at *
      cases h
      cases hra
      · exact go 0 rfl (by simp [Builtin.len_, e', run_underlying c.P w (tk_slice hk)])
      · exact go _ rfl (by simp [Builtin.len_, e', run_underlying c.P w (tk_slice hk)])
  · rename_i n ee hk
    cases h
    exact go _ rfl (by simp [Builtin.len_, e', run_underlying c.P w (tk_array hk)])
end
end Go.Ab
end
section
namespace Go.Ab
theorem addr_add (d o n : Nat) : (⟨d, o, none⟩ : Addr).add n = ⟨d, o + n, none⟩ := by unfold Addr.add; split <;> simp_all
section
variable {c : Ctx} {G : Gh} {T : List Nat} {w : World} {ρ : Operand → SV} {σ : Operand → Value}

theorem bytesOf_map {xs : List AV} {s : List UInt8} (h : bytesOf xs = some s) : ∃ ns : List Int, xs = ns.map (AV.int .u8) ∧ s = ns.map (fun n => UInt8.ofNat n.toNat) := by
  induction xs generalizing s with
  | nil => simp [bytesOf] at h; exact ⟨[], rfl, by simp [h]⟩
  | cons x xs ih =>
    unfold bytesOf at h
    split at h <;> first | (cases h; done) | skip
    · rename_i hh; cases hh
    · rename_i n r hh
      cases hh
      simp only [Option.map_eq_some_iff] at h
      obtain ⟨s', hs, rfl⟩ := h
      obtain ⟨ns, rfl, rfl⟩ := ih hs
      exact ⟨n :: ns, rfl, rfl⟩
theorem foldl_push (ns : List Int) : ∀ (s : List UInt8), ns.foldl (fun (r : ByteArray) n => r.push (UInt8.ofNat n.toNat)) ⟨⟨s⟩⟩ = ⟨⟨s ++ ns.map (fun n => UInt8.ofNat n.toNat)⟩⟩ := by
  induction ns with
  | nil => intro s; simp
  | cons n ns ih =>
    intro s
    have : (⟨⟨s⟩⟩ : ByteArray).push (UInt8.ofNat n.toNat) = ⟨⟨s ++ [UInt8.ofNat n.toNat]⟩⟩ := by
      apply ByteArray.ext
      apply Array.ext'
      simp [ByteArray.push]
    rw [List.foldl_cons, this, ih]
    simp
/-- cells that stand for bytes are read as a text -/
theorem bytes_read {d o len cap : Nat} {ns : List Int} (hl : ns.length = len) (h : ∀ i (h : i < ns.length), w.cell? ⟨d, o + i, none⟩ = some (.int .u8 ns[i])) :
    (Conv.bytesToString (.slice (some ⟨d, o, none⟩) len cap)).run c.P w = .ok (.string ⟨⟨ns.map (fun n => UInt8.ofNat n.toNat)⟩⟩) w := by
  subst hl
  rw [run_bytesToString w _ _ cap ns]
  · have := foldl_push ns []
    rw [show ByteArray.empty = (⟨⟨[]⟩⟩ : ByteArray) from rfl, this]
    rfl
  · have := run_loadCells_list (P := c.P) w ⟨d, o, none⟩ (ns.map (Value.int .u8)) (fun j v hv => by
      rw [addr_add]
      simp only [List.getElem?_map, Option.map_eq_some_iff] at hv
      obtain ⟨n, hn, rfl⟩ := hv
      obtain ⟨hlt, rfl⟩ := List.getElem?_eq_some_iff.1 hn
      exact h j hlt)
    simpa using this

theorem fl_bytes (ns : List Int) : fl (ns.map (AV.int .u8)) = ns.map (AV.int .u8) := by
  induction ns with
  | nil => rfl
  | cons n ns ih => simp [fl_cons, AV.cells, ih]

theorem y_convert {o : Oper} {src dst : TypeId} {a : Operand} {x : SV} (hop : o.op = .convert src dst a) (hρ : ∀ x, RS G T (ρ x) (σ x))
    (himm : ∀ d o v, G.I d o = some v → w.cell? ⟨d, o, none⟩ = some v) (h : c.pure (.convert src dst a) ρ = some x) : Yields c G T w σ o x := by
  refine .of_sem (s := convert src dst (σ a)) (by simp only [execOp, hop]) ?_
  simp only [Ctx.pure] at h
  split at h
  · cases h
  rename_i hsrc
  obtain ⟨ds, hds⟩ : ∃ ds, c.P.underlying src = some ds := by
    cases hk : tk c.P src with
    | other => rw [hk] at hsrc; simp [TK.isOther] at hsrc
    | _ => exact underlying_of_tk hk (by simp)
  have hra := (hρ a).1
  split at h <;> first | (cases h; done) | skip
  · rename_i k k' n hk hy
    rw [hy] at hra
    generalize hva : σ a = va at *
    cases hra
    cases h
    exact ⟨_, by simp [convert, run_underlying c.P w hds, run_underlying c.P w (tk_int hk), Conv.intToInt], RS.no (.int _ _)⟩
  · rename_i s hk hy
    rw [hy] at hra
    generalize hva : σ a = va at *
    cases hra
    cases h
    refine ⟨.string ⟨⟨s⟩⟩, ?_, RS.no (.str _)⟩
    cases ds <;> simp [convert, run_underlying c.P w hds, run_underlying c.P w (tk_string hk)]
  · rename_i xs hk hy
    rw [hy] at hra
    generalize hva : σ a = va at *
    split at h <;> first | (cases h; done) | skip
    rename_i e hks
    split at h <;> first | (cases h; done) | skip
    rename_i hke
    simp only [Option.map_eq_some_iff] at h
    obtain ⟨s, hs, rfl⟩ := h
    obtain ⟨ns, rfl, rfl⟩ := bytesOf_map hs
    generalize hxs : AV.sl (ns.map (AV.int .u8)) = xx at hra
    cases hra <;> first | (cases hxs; done) | skip
    · rename_i base
      have hn := AV.sl.inj hxs
      obtain rfl : ns = [] := by simpa using hn
      refine ⟨.string .empty, ?_, RS.no (.str _)⟩
      cases base <;> simp [convert, run_underlying c.P w (tk_slice hks), run_underlying c.P w (tk_string hk), run_underlying c.P w (tk_int hke), Conv.bytesToString, loadCells, loadCellsFrom]
    · rename_i sz xs' cc oo cap f hs hc hI hR h1c
      obtain rfl := AV.sl.inj hxs
      refine ⟨_, ?_, RS.no (.str _)⟩
      have hfl := fl_bytes ns
      have hb := bytes_read (c := c) (w := w) (d := cc) (o := oo) (len := (ns.map (AV.int .u8)).length) (cap := cap) (ns := ns) (by simp) (fun i hi => by
        have h1 := himm _ _ _ (hI i (by rw [hfl]; simpa using hi))
        have h2 := hR i (by rw [hfl]; simpa using hi)
        rw [h1]
        simp only [hfl, List.getElem_map] at h2
        generalize f i = u at *
        cases h2
        rfl)
      simp [convert, run_underlying c.P w (tk_slice hks), run_underlying c.P w (tk_string hk), run_underlying c.P w (tk_int hke)]
      simpa using hb

/-- a variable of a type, loaded from cells that are known -/
theorem loadVar_sound {t : TypeId} {cs : List SV} {off d o : Nat} {x : SV} (f : Nat → Value) (hc : ∀ i, i < cs.length → w.cell? ⟨d, o + i, none⟩ = some (f i))
    (hR : ∀ i (h : i < cs.length), RS G T cs[i] (f i)) (h : c.part t cs off = some x) : ∃ v, (loadVar t ⟨d, o + off, none⟩).run c.P w = .ok v w ∧ RS G T x v := by
  unfold Ctx.part at h
  have agg : (tk c.P t).isAgg = true → (if off + tsz c.P t ≤ cs.length then some (collect ((cs.drop off).take (tsz c.P t))) else none) = some x → ∃ v, (loadVar t ⟨d, o + off, none⟩).run c.P w = .ok v w ∧ RS G T x v := by
    intro ha h
    obtain ⟨hle, h⟩ := Option.ite_none_right_eq_some.1 h
    cases h
    obtain ⟨dd, hd⟩ : ∃ dd, c.P.underlying t = some dd := by
      cases hk : tk c.P t <;> first | (rw [hk] at ha; cases ha; done) | exact underlying_of_tk hk (by simp)
    obtain ⟨i, hi⟩ := info_of_underlying hd
    have hs : tsz c.P t = i.size := by simp [tsz, hi]
    have hl := run_loadCells (P := c.P) w ⟨d, o + off, none⟩ (tsz c.P t) (fun j => f (off + j)) (fun j hj => by rw [addr_add, Nat.add_assoc]; exact hc _ (by omega))
    refine ⟨.agg ((List.range (tsz c.P t)).map fun j => f (off + j)).toArray, ?_, collect_sound ⟨by simp; omega, fun j hj hj' => ?_⟩⟩
    · rw [hs] at hl
      simp only [loadVar, Sem.run_bind, run_isAgg c.P w hd (by cases hk : tk c.P t <;> first | (rw [hk] at ha; cases ha; done) | simp), ha, Result.andThen_ok, if_true, run_sizeOf c.P w hi, Sem.run_ite, hl, Sem.run_pure, hs]
    · simp only [List.getElem_take, List.getElem_drop, List.getElem_toArray, List.getElem_map, List.getElem_range]
      exact hR _ _
  have sc : (tk c.P t).isAgg = false → tk c.P t ≠ .other → cs[off]? = some x → ∃ v, (loadVar t ⟨d, o + off, none⟩).run c.P w = .ok v w ∧ RS G T x v := by
    intro ha ho h
    obtain ⟨dd, hd⟩ := underlying_of_tk rfl ho
    obtain ⟨hlt, rfl⟩ := List.getElem?_eq_some_iff.1 h
    refine ⟨f off, ?_, hR off hlt⟩
    simp only [loadVar, Sem.run_bind, run_isAgg c.P w hd ho, ha, Result.andThen_ok, Sem.run_ite, Bool.false_eq_true, if_false, run_load, hc off hlt]
  cases hk : tk c.P t with
  | other => rw [hk] at h; cases h
  | struct fs => rw [hk] at h; exact agg (by rw [hk]; rfl) h
  | array n e => rw [hk] at h; exact agg (by rw [hk]; rfl) h
  | _ => rw [hk] at h; exact sc (by rw [hk]; rfl) (by rw [hk]; simp) h

theorem y_load {o : Oper} {t : TypeId} {a : Operand} {x : SV} (hop : o.op = .load t a) (hρ : ∀ x, RS G T (ρ x) (σ x))
    (himm : ∀ d o v, G.I d o = some v → w.cell? ⟨d, o, none⟩ = some v) (h : c.pure (.load t a) ρ = some x) : Yields c G T w σ o x := by
  refine .of_sem (s := Instr.loadAt t (σ a)) (by simp only [execOp, hop]) ?_
  simp only [Ctx.pure] at h
  split at h <;> first | (cases h; done) | skip
  rename_i cs hy
  have hra := (hρ a).1
  rw [hy] at hra
  generalize hva : σ a = va at *
  cases hra with
  | iptr _ cc oo f hI hR =>
    obtain ⟨v, h1, h2⟩ := loadVar_sound (T := T) (w := w) (d := cc) (o := oo) f (fun i hi => himm _ _ _ (hI i (by simpa using hi))) (fun i hi => by
      simp only [List.getElem_map]
      exact RS.no (hR i (by simpa using hi))) h
    exact ⟨v, by simpa [Instr.loadAt, Instr.sureAddr] using h1, h2⟩

theorem aNil_run (d : Nat) {t : TypeId} {x y : AV} {vx vy : Value} {r : Bool} (h : aNil (tk c.P t) x y = some r) (hx : R G x vx) (hy : R G y vy) :
    (Op.equalIn (d + 1) t vx vy).run c.P w = .ok r w := by
  unfold aNil at h
  split at h <;> first | (cases h; done) | skip
  all_goals
    cases h
    rename_i hk
    cases hx
    cases hy
  all_goals
    first
      | (obtain ⟨ms, hd⟩ := tk_iface hk
         simp [Op.equalIn, run_underlying c.P w hd]
         done)
      | (obtain ⟨dd, hd⟩ := underlying_of_tk hk (by simp)
         unfold tk at hk
         rw [hd] at hk
         cases dd <;> first
           | (cases hk; done)
           | (simp only at hk; split at hk <;> cases hk; done)
           | (simp [Op.equalIn, run_underlying c.P w hd]; done))
theorem aNil_shape {k : TK} {x y : AV} {vx vy : Value} {r : Bool} (h : aNil k x y = some r) (hx : R G x vx) (hy : R G y vy) :
    (∀ t, binOp .eql t vx vy = (do pure (.bool (← Op.equal t vx vy)))) ∧ (∀ t, binOp .neq t vx vy = (do pure (.bool (!(← Op.equal t vx vy))))) ∧ (∀ p q, vx = .agg p → vy = .agg q → False) := by
  unfold aNil at h
  split at h <;> first | (cases h; done) | skip
  all_goals
    cases h
    cases hx
    cases hy
    refine ⟨fun t => rfl, fun t => rfl, fun p q h _ => by cases h⟩

theorem y_binOp {o : Oper} {op : BinOp} {t t' : TypeId} {a b : Operand} {x : SV} (hop : o.op = .binOp op t a b t') (hρ : ∀ x, RS G T (ρ x) (σ x)) (h : c.pure (.binOp op t a b t') ρ = some x) : Yields c G T w σ o x := by
  have hra := (hρ a).1
  have hrb := (hρ b).1
  have guard0 : ∀ va vb, (∀ p q, va = .agg p → vb = .agg q → False) → (va = .nilIface → vb = .nilIface → False) → (eqGuard op t a b va vb).run c.P w = .ok () w := by
    intro va vb h1 h2
    unfold eqGuard
    cases op <;> simp
    all_goals
      split
      · exact absurd rfl (fun _ => h2 rfl rfl)
      · exact absurd rfl (fun _ => h1 _ _ rfl rfl)
      · rfl
  have fin : ∀ v, (eqGuard op t a b (σ a) (σ b)).run c.P w = .ok () w → (binOp op t (σ a) (σ b)).run c.P w = .ok v w → RS G T x v → Yields c G T w σ o x := by
    intro v h1 h2 h3
    exact ⟨v, by simp [execOp, hop, h1, h2], h3⟩
  simp only [Ctx.pure] at h
  generalize (ρ a).1 = xx at h hra
  generalize (ρ b).1 = yy at h hrb
  split at h
  · rename_i xs ys
    split at h
    · cases h
    rename_i hg
    have ha : (tk c.P t).isAgg = true := by simp at hg; exact hg.2
    have hg' : c.P.eqGuardType c.P.depth t = false := by simp at hg; exact hg.1
    generalize hva : σ a = va at *
    generalize hvb : σ b = vb at *
    have key : ∀ r, c.eqAt 20 t xs ys = some r → ∃ vx vy, va = .agg vx ∧ vb = .agg vy ∧ (Op.equalIn 10000 t (.agg vx) (.agg vy)).run c.P w = .ok r w := by
      intro r hr
      cases hra with
      | agg _ vx hlx hRx =>
        cases hrb with
        | agg _ vy hly hRy =>
          have := eqAt_sound (c := c) (G := G) (w := w) 9980 20 t xs ys vx vy r hr ⟨hlx, hRx⟩ ⟨hly, hRy⟩
          refine ⟨vx, vy, rfl, rfl, ?_⟩
          simpa [valOf, ha] using this
    split at h <;> first | (cases h; done) | skip
    · rename_i r hr
      cases h
      obtain ⟨vx, vy, rfl, rfl, he⟩ := key r hr
      exact fin (.bool r) (run_eqGuard_agg w .eql t a b vx vy hg') (by rw [run_eql_struct, he]; rfl) (RS.no (.bool _))
    · rename_i r hr
      cases h
      obtain ⟨vx, vy, rfl, rfl, he⟩ := key r hr
      exact fin (.bool (!r)) (run_eqGuard_agg w .neq t a b vx vy hg') (by rw [run_neq_struct, he]; rfl) (RS.no (.bool _))
  · simp only [Option.map_eq_some_iff] at h
    obtain ⟨z, hz, rfl⟩ := h
    generalize hva : σ a = va at *
    generalize hvb : σ b = vb at *
    cases hra
    rename_i k n
    unfold aBin at hz
    split at hz <;> first | (cases hz; done) | (rename_i hh; cases hh; done) | skip
    rename_i k1 a1 k2 b1 h1
    cases h1
    cases hrb
    have hg := guard0 (.int k n) (.int k2 b1) (fun _ _ h _ => by cases h) (fun h _ => by cases h)
    have sh : ∀ z, aShift op k n b1 = some z → op = .shl ∨ op = .shr → ∃ v, (binOp op t (.int k n) (.int k2 b1)).run c.P w = .ok v w ∧ R G z v := by
      intro z hz hop
      obtain ⟨v, h1, h2⟩ := aShift_sound (c := c) (G := G) (w := w) (yk := k2) hz
      refine ⟨v, ?_, h2⟩
      rcases hop with rfl | rfl <;> exact h1
    have run : ∃ v, (binOp op t (.int k n) (.int k2 b1)).run c.P w = .ok v w ∧ R G z v := by
      split at hz
      · exact sh _ hz (.inl rfl)
      · exact sh _ hz (.inr rfl)
      · obtain ⟨hk, hz'⟩ := Option.ite_none_right_eq_some.1 hz
        subst hk
        exact aInt_sound hz'
    obtain ⟨v, h1, h2⟩ := run
    exact fin v hg h1 (RS.no h2)
  · simp only [Option.map_eq_some_iff] at h
    obtain ⟨z, hz, rfl⟩ := h
    generalize hva : σ a = va at *
    generalize hvb : σ b = vb at *
    cases hra
    rename_i s
    unfold aBin at hz
    split at hz <;> first | (cases hz; done) | (rename_i hh; cases hh; done) | skip
    rename_i s1 s2 h1
    cases h1
    cases hrb
    obtain ⟨v, h1, h2⟩ := aStr_sound (c := c) (G := G) (w := w) (t := t) hz
    exact fin v (guard0 _ _ (fun _ _ h _ => by cases h) (fun h _ => by cases h)) h1 (RS.no h2)
  · simp only [Option.map_eq_some_iff] at h
    obtain ⟨z, hz, rfl⟩ := h
    generalize hva : σ a = va at *
    generalize hvb : σ b = vb at *
    cases hra
    rename_i s
    unfold aBin at hz
    split at hz <;> first | (cases hz; done) | (rename_i hh; cases hh; done) | skip
    rename_i s1 s2 h1
    cases h1
    cases hrb
    have hg := guard0 (.bool s) (.bool s2) (fun _ _ h _ => by cases h) (fun h _ => by cases h)
    split at hz <;> first | (cases hz; done) | skip
    · rename_i hk
      cases hz
      exact fin (.bool (s == s2)) hg (by have := run_equalIn_bool' w 9999 t s s2 (tk_bool hk); simp only [binOp, Sem.run_bind, Op.equal, Op.maxDepth, this]; rfl) (RS.no (.bool _))
    · rename_i hk
      cases hz
      exact fin (.bool (!(s == s2))) hg (by have := run_equalIn_bool' w 9999 t s s2 (tk_bool hk); simp only [binOp, Sem.run_bind, Op.equal, Op.maxDepth, this]; rfl) (RS.no (.bool _))
  · obtain ⟨hc, h⟩ := Option.ite_none_right_eq_some.1 h
    have key : ∀ r, aNil (tk c.P t) xx yy = some r → (eqGuard .eql t a b (σ a) (σ b)).run c.P w = .ok () w ∧ (eqGuard .neq t a b (σ a) (σ b)).run c.P w = .ok () w ∧
        (binOp .eql t (σ a) (σ b)).run c.P w = .ok (.bool r) w ∧ (binOp .neq t (σ a) (σ b)).run c.P w = .ok (.bool (!r)) w := by
      intro r hr
      obtain ⟨e1, e2, e3⟩ := aNil_shape hr hra hrb
      have he : (Op.equal t (σ a) (σ b)).run c.P w = .ok r w := aNil_run 9999 hr hra hrb
      have gd : ∀ op, (eqGuard op t a b (σ a) (σ b)).run c.P w = .ok () w := by
        intro op
        unfold eqGuard
        cases op <;> simp only [reduceCtorEq, Bool.not_false, Bool.not_true, if_true, Bool.false_eq_true, if_false] <;> first
          | rfl
          | (split
             · clear hra hrb hr e1 e2 e3 he fin guard0 hop h hρ
               cases a <;> cases b <;> first | rfl | (simp [isConst] at hc; done)
             · rename_i h1 h2; exact absurd (e3 _ _ h1 h2) id
             · rfl)
      exact ⟨gd .eql, gd .neq, by rw [e1]; simp [he], by rw [e2]; simp [he]⟩
    split at h <;> first | (cases h; done) | skip
    · have hr := ‹aNil _ _ _ = some _›
      cases h
      obtain ⟨h1, h2, h3, h4⟩ := key _ hr
      exact fin _ h1 h3 (RS.no (.bool _))
    · have hr := ‹aNil _ _ _ = some _›
      cases h
      obtain ⟨h1, h2, h3, h4⟩ := key _ hr
      exact fin _ h2 h4 (RS.no (.bool _))
end
end Go.Ab
end
section
/- WHAT STAYS TRUE WHEN MEMORY IS MADE OR WRITTEN. -/
namespace Go.Ab
open Go.RowKit

mutual
theorem AV.low_mono {n m : Nat} (h : n ≤ m) : ∀ {x : AV}, x.low n = true → x.low m = true
  | .ptr b o, hx => by simp [AV.low] at hx ⊢; omega
  | .slr b o k, hx => by simp [AV.low] at hx ⊢; omega
  | .buf t s, _ => rfl
  | .bptr t s, _ => rfl
  | .bself t b, hx => by simp [AV.low] at hx ⊢; omega
  | .iptr cs, hx => AV.lows_mono h (by simpa [AV.low] using hx) |> (by simpa [AV.low] using ·)
  | .sl xs, hx => AV.lows_mono h (by simpa [AV.low] using hx) |> (by simpa [AV.low] using ·)
  | .fn f a b, hx => by
    simp only [AV.low, Bool.and_eq_true] at hx ⊢
    exact ⟨AV.lows_mono h hx.1, AV.lows_mono h hx.2⟩
  | .iface t v, hx => by
    simp only [AV.low] at hx ⊢
    exact AV.low_mono h hx
  | .agg cs, hx => by
    simp only [AV.low] at hx ⊢
    exact AV.lows_mono h hx
  | .tup cs, hx => by
    simp only [AV.low] at hx ⊢
    exact AV.lows_mono h hx
  | .undef, _ | .int _ _, _ | .bool _, _ | .str _, _ | .nilptr, _ | .nilfn, _ | .nili, _ => rfl
theorem AV.lows_mono {n m : Nat} (h : n ≤ m) : ∀ {xs : List AV}, AV.lows n xs = true → AV.lows m xs = true
  | [], _ => rfl
  | x :: xs, hx => by
    simp only [AV.lows, Bool.and_eq_true] at hx ⊢
    exact ⟨AV.low_mono h hx.1, AV.lows_mono h hx.2⟩
end
theorem lows_iff {n : Nat} {xs : List AV} : AV.lows n xs = true ↔ ∀ x ∈ xs, x.low n = true := by
  induction xs with
  | nil => simp [AV.lows]
  | cons x xs ih => simp [AV.lows, ih]
theorem cells_low {n : Nat} {x : AV} (h : ∀ y ∈ x.cells, y.low n = true) : x.low n = true := by
  cases x with
  | agg cs => simp only [AV.low, lows_iff]; exact h
  | _ => exact h _ (by simp [AV.cells])
theorem φ_some {φ : List (Option Nat)} {b d : Nat} (h : φ[b]? = some (some d)) : b < φ.length := by
  rcases Nat.lt_or_ge b φ.length with hl | hl
  · exact hl
  · rw [List.getElem?_eq_none hl] at h; cases h
/-- what stands for a value names only blocks that are there -/
theorem R.low {G : Gh} {x : AV} {v : Value} (h : R G x v) : x.low G.φ.length = true := by
  induction h with
  | ptr b o c h => simp [AV.low, φ_some h]
  | slr b o n c cap h hc => simp [AV.low, φ_some h]
  | iptr cs c o f h _ ih =>
    simp only [AV.low, lows_iff]
    intro x hx
    obtain ⟨j, hj, rfl⟩ := List.getElem_of_mem hx
    exact ih j hj
  | sl sz xs c o cap f hs hc h _ h1 ih =>
    simp only [AV.low, lows_iff]
    intro x hx
    refine cells_low fun y hy => ?_
    have : y ∈ fl xs := List.mem_flatMap.2 ⟨x, hx, hy⟩
    obtain ⟨j, hj, rfl⟩ := List.getElem_of_mem this
    exact ih j hj
  | fn f a b va vb ha hb _ _ iha ihb =>
    simp only [AV.low, Bool.and_eq_true, lows_iff]
    refine ⟨fun x hx => ?_, fun x hx => ?_⟩
    · obtain ⟨j, hj, rfl⟩ := List.getElem_of_mem hx
      exact iha j hj (by omega)
    · obtain ⟨j, hj, rfl⟩ := List.getElem_of_mem hx
      exact ihb j hj (by omega)
  | iface t x v _ ih => simpa [AV.low] using ih
  | agg cs vs hl _ ih =>
    simp only [AV.low, lows_iff]
    intro x hx
    obtain ⟨j, hj, rfl⟩ := List.getElem_of_mem hx
    exact ih j hj (by omega)
  | tup cs vs hl _ ih =>
    simp only [AV.low, lows_iff]
    intro x hx
    obtain ⟨j, hj, rfl⟩ := List.getElem_of_mem hx
    exact ih j hj (by omega)
  | bself0 t b d h ht =>
    simp only [AV.low, decide_eq_true_eq]
    rcases Nat.lt_or_ge b G.φ.length with hl | hl
    · exact hl
    · rw [List.getElem?_eq_none hl] at h; cases h
  | bself t b d h ht =>
    simp only [AV.low, decide_eq_true_eq]
    rcases Nat.lt_or_ge b G.φ.length with hl | hl
    · exact hl
    · rw [List.getElem?_eq_none hl] at h; cases h
  | _ => rfl

theorem lt_of_heap {w : World} {d : Nat} {o : Obj} (h : w.heap[d]? = some o) : d < w.heap.size := by
  rcases Nat.lt_or_ge d w.heap.size with hl | hl
  · exact hl
  · rw [Array.getElem?_eq_none hl] at h; cases h
theorem lt_of_cell {w : World} {d o : Nat} {v : Value} (h : w.cell? ⟨d, o, none⟩ = some v) : d < w.heap.size := by
  unfold World.cell? at h
  split at h
  · rename_i hh; exact lt_of_heap hh
  · cases h
theorem heap_alloc_lt {w : World} {o : Obj} {d : Nat} (h : d < w.heap.size) : (w.alloc o).heap[d]? = w.heap[d]? := by
  show (w.heap.push o)[d]? = _
  rw [Array.getElem?_push, if_neg (by omega)]
theorem heap_alloc_new {w : World} {o : Obj} : (w.alloc o).heap[w.heap.size]? = some o := by
  show (w.heap.push o)[w.heap.size]? = _
  simp
theorem size_alloc {w : World} {o : Obj} : (w.alloc o).heap.size = w.heap.size + 1 := by
  show (w.heap.push o).size = _
  simp
theorem cell_alloc_lt {w : World} {o : Obj} {d i : Nat} (h : d < w.heap.size) : (w.alloc o).cell? ⟨d, i, none⟩ = w.cell? ⟨d, i, none⟩ := by
  simp only [World.cell?, heap_alloc_lt h]
theorem cell_of_heap {w : World} {d o : Nat} {vs : Array Value} {t : TypeId} {fr : Nat × Nat} (h : w.heap[d]? = some (.cells vs t fr)) : w.cell? ⟨d, o, none⟩ = vs[o]? := by
  simp [World.cell?, h]

section
variable {c : Ctx} {B : Bd} {w0 : World} {G : Gh} {S : St} {w : World}

theorem Inv.φ_lt (inv : Inv c B w0 G S w) {b d : Nat} (h : G.φ[b]? = some (some d)) : d < w.heap.size ∧ b < S.H.length := by
  have hb : b < G.φ.length := by
    rcases Nat.lt_or_ge b G.φ.length with hl | hl
    · exact hl
    · rw [List.getElem?_eq_none hl] at h; cases h
  rw [inv.lenφ] at hb
  obtain ⟨_, vs, t, fr, hh, _⟩ := inv.blk b d _ (List.getElem?_eq_getElem hb) h
  exact ⟨lt_of_heap hh, hb⟩

theorem Tag.low1_mono {t : Tag} {m k : Nat} (hk : m ≤ k) (h : t.low1 m = true) : t.low1 k = true := by
  cases t with
  | tok id => simp only [Tag.low1, decide_eq_true_eq] at h ⊢; omega
  | _ => rfl
theorem Tag.low_mono {t : Tag} {m k : Nat} (hk : m ≤ k) (h : t.low m = true) : t.low k = true := by
  cases t with
  | agg ts => simp only [Tag.low, List.all_eq_true] at h ⊢; exact fun x hx => Tag.low1_mono hk (h x hx)
  | tok id => exact Tag.low1_mono (t := .tok id) hk h
  | _ => rfl
theorem RS.tagLow {T : List Nat} {x : SV} {v : Value} (h : RS G T x v) (hf : x.2.flat = x.2) : x.2.low T.length = true := by
  obtain ⟨x, tg⟩ := x
  cases tg with
  | tok id =>
    obtain ⟨⟨n, h1, _⟩, _⟩ := h.2
    rcases Nat.lt_or_ge id T.length with hl | hl
    · simpa [Tag.low, Tag.low1] using hl
    · rw [List.getElem?_eq_none hl] at h1; cases h1
  | agg ts => cases hf
  | _ => rfl
/-- a state's draws don't matter -/
theorem Inv.heapEq (inv : Inv c B w0 G S w) {w' : World} (hh : w'.heap = w.heap) (ho : w'.os = w.os) (ht : w'.tape = w.tape) (hu : w'.output = w.output) : Inv c B w0 G S w' where
  below := ⟨by rw [ho, inv.below.os], by rw [ht, inv.below.tape], by rw [hu, inv.below.output], by rw [hh]; exact inv.below.size, fun k hk => by rw [hh]; exact inv.below.block k hk⟩
  base := by rw [hh]; exact inv.base
  iD := inv.iD
  lenφ := inv.lenφ
  lenO := inv.lenO
  inj := inv.inj
  low := inv.low
  tag := inv.tag
  blk := by rw [hh]; exact inv.blk
  imm := fun d o v h => by
    have := inv.imm d o v h
    simpa only [World.cell?, hh] using this
  own := by rw [hh]; exact inv.own
  dis := inv.dis
  ty := by rw [hh]; exact inv.ty
  glob := inv.glob
  know := inv.know
theorem Inv.drew (inv : Inv c B w0 G S w) (n : Nat) : Inv c B w0 G S { w with drawn := n } := inv.heapEq rfl rfl rfl rfl

/-- the ghost with a new row of cells that stay as they are -/
def Gh.row (G : Gh) (d n : Nat) (f : Nat → Value) (x : TypeId × Nat) : Gh := { G with I := fun d' o => if d' = d ∧ o < n then some (f o) else G.I d' o, ty := fun d' => if d' = d then some x else G.ty d' }

theorem mono_row (inv : Inv c B w0 G S w) (n : Nat) (f : Nat → Value) (x : TypeId × Nat) : Mono G (G.row w.heap.size n f x) := by
  refine ⟨fun _ _ h => h, fun d o v h => ?_, fun d y h => ?_⟩
  · have := lt_of_cell (inv.imm d o v h).1
    simp only [Gh.row]
    rw [if_neg (by omega)]
    exact h
  · obtain ⟨vs, fr, h1, _⟩ := inv.ty d y.1 y.2 h
    have := lt_of_heap h1
    simp only [Gh.row]
    rw [if_neg (by omega)]
    exact h
theorem ty_alloc (h : ∀ (d : Nat) (t : TypeId) (n : Nat), G.ty d = some (t, n) → ∃ vs fr, w.heap[d]? = some (.cells vs t fr) ∧ vs.size = n ∧ fr.1 ≤ fr.2) (o : Obj) :
    ∀ (d : Nat) (t : TypeId) (n : Nat), G.ty d = some (t, n) → ∃ vs fr, (w.alloc o).heap[d]? = some (.cells vs t fr) ∧ vs.size = n ∧ fr.1 ≤ fr.2 := by
  intro d t n hd
  obtain ⟨vs, fr, h1, h2⟩ := h d t n hd
  exact ⟨vs, fr, by rw [heap_alloc_lt (lt_of_heap h1)]; exact h1, h2⟩
theorem ty_writes {w' : World} {d : Nat} {us vs : Array Value} {t : TypeId} {fr fr' : Nat × Nat} (h : ∀ (d : Nat) (t : TypeId) (n : Nat), G.ty d = some (t, n) → ∃ vs fr, w.heap[d]? = some (.cells vs t fr) ∧ vs.size = n ∧ fr.1 ≤ fr.2)
    (hu : w.heap[d]? = some (.cells us t fr)) (hat : w'.heap[d]? = some (.cells vs t fr')) (hother : ∀ k, k ≠ d → w'.heap[k]? = w.heap[k]?) (hvs : vs.size = us.size) (hfo : fr.1 ≤ fr.2 → fr'.1 ≤ fr'.2) : ∀ (d : Nat) (t : TypeId) (n : Nat), G.ty d = some (t, n) → ∃ vs fr, w'.heap[d]? = some (.cells vs t fr) ∧ vs.size = n ∧ fr.1 ≤ fr.2 := by
  intro d1 t1 n1 h1
  obtain ⟨vs1, fr1, h2, h3⟩ := h d1 t1 n1 h1
  by_cases e : d1 = d
  · subst e
    rw [hu] at h2
    cases h2
    exact ⟨vs, fr', hat, by rw [hvs]; exact h3.1, hfo h3.2⟩
  · exact ⟨vs1, fr1, by rw [hother d1 e]; exact h2, h3⟩
theorem grows_row (inv : Inv c B w0 G S w) (n : Nat) (f : Nat → Value) (x : TypeId × Nat) : Grows G S.T (G.row w.heap.size n f x) S.T :=
  ⟨mono_row inv n f x, fun _ _ => rfl, fun _ k h => ⟨k, h, Nat.le_refl k, fun _ => rfl⟩⟩

theorem RS.grow {G' : Gh} {T : List Nat} {x : SV} {v : Value} (m : Mono G G') (ho : G'.own = G.own) (h : RS G T x v) : RS G' T x v :=
  h.later ⟨m, fun _ n hn => ⟨n, hn, Nat.le_refl n, fun _ => by rw [ho]⟩⟩

/-- A NEW ROW, the first n cells of which stay as they are. -/
theorem Inv.newRow (inv : Inv c B w0 G S w) (vs : Array Value) (t : TypeId) (n : Nat) (f : Nat → Value) (hf : ∀ i, i < n → vs[i]? = some (f i)) :
    Inv c B w0 (G.row w.heap.size n f (t, vs.size)) S (w.alloc (.cells vs t)) where
  below := inv.below.alloc inv.base _
  base := fun d hd => inv.base d (by rw [size_alloc] at hd; omega)
  iD := fun d o hd => by
    have : d ≠ w.heap.size := fun e => inv.base d (Nat.le_of_eq e.symm) hd
    show (if d = w.heap.size ∧ o < n then some (f o) else G.I d o) = _
    rw [if_neg (fun h => this h.1)]
    exact inv.iD d o hd
  lenφ := inv.lenφ
  lenO := inv.lenO
  inj := inv.inj
  low := inv.low
  tag := inv.tag
  blk := fun b d cells hb hφ => by
    obtain ⟨h1, us, u, fr, h2, h3, h4, h5⟩ := inv.blk b d cells hb hφ
    exact ⟨h1, us, u, fr, by rw [heap_alloc_lt (lt_of_heap h2)]; exact h2, h3, h4, fun i hi hi' => (h5 i hi hi').grow (mono_row inv n f _) rfl⟩
  imm := fun d o v h => by
    simp only [Gh.row] at h
    split at h
    · rename_i hd
      obtain ⟨rfl, ho⟩ := hd
      cases h
      refine ⟨?_, fun b hb => ?_⟩
      · rw [cell_of_heap heap_alloc_new]; exact hf o ho
      · have := (inv.φ_lt hb).1; omega
    · obtain ⟨h1, h2⟩ := inv.imm d o v h
      exact ⟨by rw [cell_alloc_lt (lt_of_cell h1)]; exact h1, h2⟩
  own := fun id ow h => by
    obtain ⟨h1, h2, h3⟩ := inv.own id ow h
    refine ⟨h1, h2, fun hlt => ?_⟩
    obtain ⟨d, o, k1, k2, k3, us, u, fr, k4, k5, k6⟩ := h3 hlt
    have := lt_of_heap k4
    refine ⟨d, o, k1, k2, k3, us, u, fr, by rw [heap_alloc_lt this]; exact k4, k5, fun i hi => ⟨(k6 i hi).1, ?_⟩⟩
    simp only [Gh.row]
    rw [if_neg (by omega)]
    exact (k6 i hi).2
  dis := inv.dis
  ty := fun d t' m h => by
    simp only [Gh.row] at h
    split at h
    · rename_i e
      cases h
      exact ⟨vs, _, by rw [e]; exact heap_alloc_new, rfl, Nat.le_refl 0⟩
    · exact ty_alloc inv.ty _ d t' m h
  glob := fun g cs h => ⟨(inv.glob g cs h).1.mono (mono_row inv n f _), (inv.glob g cs h).2⟩
  know := fun I ty h h2 => inv.know I ty (fun d o v x => h d o v ((mono_row inv n f _).I d o v x)) (fun d x e => h2 d x ((mono_row inv n f _).ty d x e))

/-- A NEW VARIABLE. -/
def Gh.var (G : Gh) (d : Nat) (x : TypeId × Nat) : Gh := { G with φ := G.φ ++ [some d], ty := fun d' => if d' = d then some x else G.ty d' }
theorem mono_var (inv : Inv c B w0 G S w) (x : TypeId × Nat) : Mono G (G.var w.heap.size x) := by
  refine ⟨fun b e h => ?_, fun _ _ _ h => h, fun d y h => ?_⟩
  rotate_left
  · obtain ⟨vs, fr, h1, _⟩ := inv.ty d y.1 y.2 h
    have := lt_of_heap h1
    simp only [Gh.var]
    rw [if_neg (by omega)]
    exact h
  have hb : b < G.φ.length := by
    rcases Nat.lt_or_ge b G.φ.length with hl | hl
    · exact hl
    · rw [List.getElem?_eq_none hl] at h; cases h
  show (G.φ ++ [some _])[b]? = _
  rw [List.getElem?_append_left hb]
  exact h
theorem φ_snoc {φ : List (Option Nat)} {x : Option Nat} {b d : Nat} (h : (φ ++ [x])[b]? = some (some d)) : φ[b]? = some (some d) ∨ (b = φ.length ∧ x = some d) := by
  rcases Nat.lt_trichotomy b φ.length with hl | hl | hl
  · rw [List.getElem?_append_left hl] at h; exact .inl h
  · subst hl; simp at h; exact .inr ⟨rfl, h⟩
  · rw [List.getElem?_append_right (by omega), List.getElem?_eq_none (by simp; omega)] at h; cases h

theorem Inv.newVar (inv : Inv c B w0 G S w) (cells : List SV) (vs : Array Value) (t : TypeId) (hl : cells.length ≤ vs.size)
    (hr : ∀ i (h : i < cells.length) (h' : i < vs.size), RS G S.T cells[i] vs[i]) (hf : ∀ x ∈ cells, x.2.flat = x.2) :
    Inv c B w0 (G.var w.heap.size (t, vs.size)) ⟨S.H ++ [cells], S.T⟩ (w.alloc (.cells vs t)) where
  below := inv.below.alloc inv.base _
  base := fun d hd => inv.base d (by rw [size_alloc] at hd; omega)
  iD := inv.iD
  lenφ := by simp [Gh.var, inv.lenφ]
  lenO := inv.lenO
  inj := fun i j d hi hj => by
    rcases φ_snoc hi with h1 | ⟨h1, h2⟩ <;> rcases φ_snoc hj with k1 | ⟨k1, k2⟩
    · exact inv.inj i j d h1 k1
    · cases k2; have := (inv.φ_lt h1).1; omega
    · cases h2; have := (inv.φ_lt k1).1; omega
    · omega
  low := fun b cs hb => by
    simp only at hb
    rcases Nat.lt_trichotomy b S.H.length with hl' | hl' | hl'
    · rw [List.getElem?_append_left hl'] at hb; exact inv.low b cs hb
    · subst hl'
      simp at hb
      subst hb
      intro x hx
      obtain ⟨j, hj, rfl⟩ := List.getElem_of_mem hx
      have := R.low (hr j hj (by omega)).1
      rw [inv.lenφ] at this
      exact AV.low_mono (Nat.le_succ _) this
    · rw [List.getElem?_append_right (by omega), List.getElem?_eq_none (by simp; omega)] at hb; cases hb
  tag := fun b cs hb => by
    simp only at hb
    rcases Nat.lt_trichotomy b S.H.length with hl' | hl' | hl'
    · rw [List.getElem?_append_left hl'] at hb; exact inv.tag b cs hb
    · subst hl'
      simp at hb
      subst hb
      intro x hx
      obtain ⟨j, hj, rfl⟩ := List.getElem_of_mem hx
      exact (hr j hj (by omega)).tagLow (hf _ hx)
    · rw [List.getElem?_append_right (by omega), List.getElem?_eq_none (by simp; omega)] at hb; cases hb
  blk := fun b d cs hb hφ => by
    rcases φ_snoc hφ with h | ⟨h1, h2⟩
    · have hlt := inv.φ_lt h
      have hb' : S.H[b]? = some cs := by
        simp only at hb
        rw [List.getElem?_append_left hlt.2] at hb
        exact hb
      obtain ⟨h1, us, u, fr, h2, h3, h4, h5⟩ := inv.blk b d cs hb' h
      exact ⟨h1, us, u, fr, by rw [heap_alloc_lt (lt_of_heap h2)]; exact h2, h3, h4, fun i hi hi' => (h5 i hi hi').grow (mono_var inv _) rfl⟩
    · cases h2
      rw [h1, inv.lenφ] at hb
      simp at hb
      subst hb
      exact ⟨inv.base _ (Nat.le_refl _), vs, t, (0, 0), heap_alloc_new, hl, fun o _ h => by simp at h, fun i hi hi' => (hr i hi hi').grow (mono_var inv _) rfl⟩
  imm := fun d o v h => by
    obtain ⟨h1, h2⟩ := inv.imm d o v h
    refine ⟨by rw [cell_alloc_lt (lt_of_cell h1)]; exact h1, fun b hb => ?_⟩
    rcases φ_snoc hb with h3 | ⟨_, h4⟩
    · exact h2 b h3
    · cases h4; exact absurd (lt_of_cell h1) (by omega)
  own := fun id ow h => by
    obtain ⟨h1, h2, h3⟩ := inv.own id ow h
    refine ⟨h1, h2, fun hlt => ?_⟩
    obtain ⟨d, o, k1, k2, k3, us, u, fr, k4, k5, k6⟩ := h3 hlt
    have := lt_of_heap k4
    refine ⟨d, o, k1, k2, fun b hb => ?_, us, u, fr, by rw [heap_alloc_lt this]; exact k4, k5, k6⟩
    rcases φ_snoc hb with h3 | ⟨_, h4⟩
    · exact k3 b h3
    · cases h4; omega
  dis := inv.dis
  ty := fun d t' m h => by
    simp only [Gh.var] at h
    split at h
    · rename_i e
      cases h
      exact ⟨vs, _, by rw [e]; exact heap_alloc_new, rfl, Nat.le_refl 0⟩
    · exact ty_alloc inv.ty _ d t' m h
  glob := fun g cs h => ⟨(inv.glob g cs h).1.mono (mono_var inv _), (inv.glob g cs h).2⟩
  know := fun I ty h h2 => inv.know I ty (fun d o v x => h d o v ((mono_var inv _).I d o v x)) (fun d x e => h2 d x ((mono_var inv _).ty d x e))
theorem grows_var (inv : Inv c B w0 G S w) (T : List Nat) (x : TypeId × Nat) : Grows G T (G.var w.heap.size x) T :=
  ⟨mono_var inv x, fun b hb => by show (G.φ ++ [some _])[b]? = _; rw [List.getElem?_append_left hb], fun _ k h => ⟨k, h, Nat.le_refl k, fun _ => rfl⟩⟩

/-- A WRITE INTO A BLOCK OF THE RUN'S OWN. -/
structure Writes (w w' : World) (d : Nat) (o : Obj) : Prop where
  at_ : w'.heap[d]? = some o
  other : ∀ k, k ≠ d → w'.heap[k]? = w.heap[k]?
  size : w'.heap.size = w.heap.size
  os : w'.os = w.os
  tape : w'.tape = w.tape
  output : w'.output = w.output
theorem Writes.cell {w w' : World} {d : Nat} {o : Obj} (h : Writes w w' d o) {k i : Nat} (hk : k ≠ d) : w'.cell? ⟨k, i, none⟩ = w.cell? ⟨k, i, none⟩ := by
  simp only [World.cell?, h.other k hk]
theorem Writes.below {w w' : World} {d : Nat} {o : Obj} (h : Writes w w' d o) (b : BelowD B w0 w) (hd : B.free d) : BelowD B w0 w' :=
  b.trans ⟨h.os, h.tape, h.output, by rw [h.size]; exact Nat.le_refl _, fun k hk => h.other k (fun e => hd (e ▸ hk))⟩

theorem Inv.blkSet' (inv : Inv c B w0 G S w) {w' : World} {b d : Nat} {cells cells' : List SV} {us vs : Array Value} {t : TypeId} {fr fr' : Nat × Nat} (hb : S.H[b]? = some cells) (hφ : G.φ[b]? = some (some d))
    (hu : w.heap[d]? = some (.cells us t fr)) (hw : Writes w w' d (.cells vs t fr')) (hfr' : ∀ o, o < cells.length → ¬ (fr'.1 ≤ o ∧ o < fr'.2)) (hfo : fr.1 ≤ fr.2 → fr'.1 ≤ fr'.2) (hsz : vs.size = us.size) (hlen : cells'.length = cells.length) (hlow : ∀ x ∈ cells', x.1.low (b + 1) = true) (htag : ∀ x ∈ cells', x.2.low S.T.length = true)
    (hr : ∀ i (h : i < cells'.length) (h' : i < vs.size), RS G S.T cells'[i] vs[i]) : Inv c B w0 G ⟨S.H.set b cells', S.T⟩ w' := by
  obtain ⟨p1, us', t', fr2, p2, p3, p4, p5⟩ := inv.blk b d cells hb hφ
  rw [hu] at p2
  cases p2
  exact {
    below := hw.below inv.below p1
    base := fun d hd => inv.base d (by rw [hw.size] at hd; exact hd)
    iD := inv.iD
    lenφ := by simp [inv.lenφ]
    lenO := inv.lenO
    inj := inv.inj
    low := fun b' cs hb' => by
      simp only at hb'
      by_cases e : b' = b
      · subst e
        have hlt := (inv.φ_lt hφ).2
        simp [hlt] at hb'
        subst hb'
        exact hlow
      · rw [List.getElem?_set_ne (fun h => e h.symm)] at hb'
        exact inv.low b' cs hb'
    tag := fun b' cs hb' => by
      simp only at hb'
      by_cases e : b' = b
      · subst e
        have hlt := (inv.φ_lt hφ).2
        simp [hlt] at hb'
        subst hb'
        exact htag
      · rw [List.getElem?_set_ne (fun h => e h.symm)] at hb'
        exact inv.tag b' cs hb'
    blk := fun b' d' cs hb' hφ' => by
      by_cases e : b' = b
      · subst e
        rw [hφ] at hφ'
        cases hφ'
        have hlt := (inv.φ_lt hφ).2
        simp [hlt] at hb'
        subst hb'
        exact ⟨p1, vs, t, fr', hw.at_, by omega, fun o ho => hfr' o (by omega), hr⟩
      · have hne : d' ≠ d := fun h => e (inv.inj b' b d (h ▸ hφ') hφ)
        simp only at hb'
        rw [List.getElem?_set_ne (fun h => e h.symm)] at hb'
        obtain ⟨h1, us', u, fr', h2, h3, h4, h5⟩ := inv.blk b' d' cs hb' hφ'
        exact ⟨h1, us', u, fr', by rw [hw.other d' hne]; exact h2, h3, h4, h5⟩
    imm := fun d' o v h => by
      obtain ⟨h1, h2⟩ := inv.imm d' o v h
      have hne : d' ≠ d := fun e => h2 b (e ▸ hφ)
      exact ⟨by rw [hw.cell hne]; exact h1, h2⟩
    own := fun id ow h => by
      obtain ⟨h1, h2, h3⟩ := inv.own id ow h
      refine ⟨h1, h2, fun hlt => ?_⟩
      obtain ⟨d', o, k1, k2, k3, us', u, fr', k4, k5, k6⟩ := h3 hlt
      have hne : d' ≠ d := fun e => k3 b (e ▸ hφ)
      exact ⟨d', o, k1, k2, k3, us', u, fr', by rw [hw.other d' hne]; exact k4, k5, k6⟩
    dis := inv.dis
    ty := ty_writes inv.ty hu hw.at_ hw.other hsz hfo
    glob := inv.glob
    know := inv.know }

theorem Inv.blkSet (inv : Inv c B w0 G S w) {w' : World} {b d : Nat} {cells cells' : List SV} {us vs : Array Value} {t : TypeId} {fr : Nat × Nat} (hb : S.H[b]? = some cells) (hφ : G.φ[b]? = some (some d))
    (hu : w.heap[d]? = some (.cells us t fr)) (hw : Writes w w' d (.cells vs t fr)) (hsz : vs.size = us.size) (hlen : cells'.length = cells.length) (hlow : ∀ x ∈ cells', x.1.low (b + 1) = true) (htag : ∀ x ∈ cells', x.2.low S.T.length = true)
    (hr : ∀ i (h : i < cells'.length) (h' : i < vs.size), RS G S.T cells'[i] vs[i]) : Inv c B w0 G ⟨S.H.set b cells', S.T⟩ w' := by
  obtain ⟨p1, us', t', fr', p2, p3, p4, p5⟩ := inv.blk b d cells hb hφ
  rw [hu] at p2
  cases p2
  exact inv.blkSet' hb hφ hu hw p4 id hsz hlen hlow htag hr

/-- tokens for slices without spare room -/
theorem Inv.toks (inv : Inv c B w0 G S w) (ows : List Own) (hows : ∀ ow ∈ ows, ow.shut) : Inv c B w0 { G with own := G.own ++ ows } ⟨S.H, S.T ++ ows.map Own.len⟩ w ∧
    Grows G S.T { G with own := G.own ++ ows } (S.T ++ ows.map Own.len) := by
  have gr : Grows G S.T { G with own := G.own ++ ows } (S.T ++ ows.map Own.len) := by
    refine ⟨⟨fun _ _ h => h, fun _ _ _ h => h, fun _ _ h => h⟩, fun _ _ => rfl, fun id n hn => ⟨n, ?_, Nat.le_refl n, fun _ => ?_⟩⟩
    · have : id < S.T.length := by
        rcases Nat.lt_or_ge id S.T.length with hl | hl
        · exact hl
        · rw [List.getElem?_eq_none hl] at hn; cases hn
      rw [List.getElem?_append_left this]; exact hn
    · have : id < G.own.length := by
        rw [inv.lenO]
        rcases Nat.lt_or_ge id S.T.length with hl | hl
        · exact hl
        · rw [List.getElem?_eq_none hl] at hn; cases hn
      show (G.own ++ _)[id]? = _
      rw [List.getElem?_append_left this]
  have split : ∀ (i : Nat) (ow : Own), (G.own ++ ows)[i]? = some ow → G.own[i]? = some ow ∨ (G.own.length ≤ i ∧ ows[i - G.own.length]? = some ow) := by
    intro i ow h
    rcases Nat.lt_or_ge i G.own.length with hl | hl
    · rw [List.getElem?_append_left hl] at h; exact .inl h
    · rw [List.getElem?_append_right hl] at h
      exact .inr ⟨hl, h⟩
  refine ⟨{
    below := inv.below
    base := inv.base
    iD := inv.iD
    lenφ := inv.lenφ
    lenO := by simp [inv.lenO]
    inj := inv.inj
    low := inv.low
    tag := fun b cs hb x hx => Tag.low_mono (by simp) (inv.tag b cs hb x hx)
    blk := fun b d cells hb hφ => by
      obtain ⟨h1, us, u, fr, h2, h3, h4, h5⟩ := inv.blk b d cells hb hφ
      exact ⟨h1, us, u, fr, h2, h3, h4, fun i hi hi' => (h5 i hi hi').later gr.later⟩
    imm := inv.imm
    own := fun id ow h => by
      rcases split id ow h with h' | ⟨h1, h2⟩
      · obtain ⟨h1, h2, h3⟩ := inv.own id ow h'
        have : id < S.T.length := by
          rcases Nat.lt_or_ge id S.T.length with hl | hl
          · exact hl
          · rw [List.getElem?_eq_none hl] at h1; cases h1
        exact ⟨by show (S.T ++ _)[id]? = _; rw [List.getElem?_append_left this]; exact h1, h2, h3⟩
      · have hlc := hows ow (List.mem_of_getElem? h2)
        refine ⟨?_, ⟨Nat.le_of_eq hlc.1, fun e => by rw [← hlc.1, e]⟩, fun h => absurd h (Own.shut_live hlc)⟩
        show (S.T ++ _)[id]? = _
        rw [inv.lenO] at h1 h2
        rw [List.getElem?_append_right h1, List.getElem?_map, h2]
        rfl
    dis := fun i j oi oj d o o' hne hi hj li lj hb => by
      rcases split i oi hi with h | ⟨_, h2⟩
      · rcases split j oj hj with h' | ⟨_, h2⟩
        · exact inv.dis i j oi oj d o o' hne h h' li lj hb
        · have := hows oj (List.mem_of_getElem? h2); exact absurd lj (Own.shut_live this)
      · have := hows oi (List.mem_of_getElem? h2); exact absurd li (Own.shut_live this)
    ty := inv.ty
    glob := fun g cs h => ⟨(inv.glob g cs h).1.mono gr.mono, (inv.glob g cs h).2⟩
    know := fun I ty h h2 => inv.know I ty (fun d o v x => h d o v (gr.mono.I d o v x)) (fun d x e => h2 d x (gr.mono.ty d x e)) }, gr⟩
end
end Go.Ab
end
