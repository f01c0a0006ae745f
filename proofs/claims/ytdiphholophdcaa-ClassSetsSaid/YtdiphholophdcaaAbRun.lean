import Derived.Test.YtdiphholophdcaaAbDom2
import Derived.Test.YtdiphholophdcaaAbBeq
import Derived.CheckFast
set_option linter.unusedVariables false
set_option linter.unusedSimpArgs false
namespace Go.Ab

/-- what a call comes to -/
inductive COut where
  | ret (v : SV)
  | panic (v : AV)
inductive Ex where
  | normal
  | exit (id : Nat)
  | ret
  | panic (v : AV)
structure Fr where
  env : Env
  ds : List (FuncId × List SV)
def Fr.put (fr : Fr) (dst : Option Tmp) (v : SV) : Fr :=
  match dst with
  | some d => { fr with env := fr.env.set d v }
  | none => fr
abbrev CallFn := FuncId → List SV → St → Option (COut × St)

/-- no list that a run makes is longer -/
def maxLen : Nat := 2 ^ 32

inductive ARes where
  | ok (v : SV) (S : St)
  | panic (v : AV) (S : St)

/-- what may be kept in a cell of block b: no pointer to what is newer; where the block is older than the frame, no token but the cell's own -/
def keepTag (older : Bool) (new old : Tag) : Tag :=
  match new with
  | .tok i => if older then (match old with
    | .tok j => if i = j then .tok i else .no
    | _ => .no) else .tok i
  | .full => .full
  | _ => .no
def keepIn (older : Bool) (b : Nat) (old new : SV) : SV := if new.1.low (b + 1) then (new.1, keepTag older new.2 old.2) else (.undef, .no)
/-- the cells of a new variable: a nil slice gets a token where the type is one whose fields grow -/
def newCells (pre : Bool) : List SV → Nat → List SV × List Nat
  | [], _ => ([], [])
  | (.sl xs, .full) :: r, m => if pre then let x := newCells pre r (m + 1); ((.sl xs, .tok m) :: x.1, xs.length :: x.2) else let x := newCells pre r m; ((.sl xs, .full) :: x.1, x.2)
  | c :: r, m => let x := newCells pre r m; (c :: x.1, x.2)

structure Env0 where
  c : Ctx
  pre : TypeId → Bool
  n0 : Nat
  m0 : Nat
  call : CallFn
  drop : Nat → List Tmp

def Env0.newVar (e : Env0) (t : TypeId) (cells : List SV) (S : St) : ARes :=
  let x := newCells (e.pre t) cells S.T.length
  .ok (.ptr S.H.length 0, .no) ⟨S.H ++ [x.1], S.T ++ x.2⟩

def storeCells (n0 b o : Nat) (old : List SV) (new : List SV) : List SV :=
  replaceAt old o (new.zipIdx.map fun (x, i) => keepIn (decide (b < n0)) b (old.getD (o + i) (.undef, .no)) x)

/-- the elements that an append adds -/
def Env0.added (e : Env0) (S : St) (elem : TypeId) (k : TK) (x : AV) : Option (List AV) :=
  match x, k with
  | .sl ys, .slice _ => if szOk ys (tsz e.c.P elem) then some ys else none
  | .str s, .string => match tk e.c.P elem with
    | .int .u8 => if tsz e.c.P elem = 1 then some (toBytes s) else none
    | _ => none
  | .slr b o n, .slice _ => match S.H[b]? with
    | some cells => if tsz e.c.P elem = 1 ∧ o + n ≤ cells.length ∧ (((cells.drop o).take n).map (·.1)).all AV.isCell then some (((cells.drop o).take n).map (·.1)) else none
    | none => none
  | _, _ => none
def Env0.append (e : Env0) (t t2 : TypeId) (s x : SV) (S : St) : Option ARes :=
  match tk e.c.P t with
  | .slice elem =>
    match (match s.1 with | .sl xs => if szOk xs (tsz e.c.P elem) then some xs else none | _ => none), e.added S elem (tk e.c.P t2) x.1 with
    | some xs, some ys =>
      if xs.length + ys.length ≤ maxLen ∧ 1 ≤ tsz e.c.P elem ∧ tsz e.c.P elem ≤ 256 ∧ e.c.P.bytesOf elem ≤ 4096 ∧ hasZero e.c.P elem ∧ (tz e.c.P elem).length = tsz e.c.P elem then
        match s.2 with
        | .tok id =>
          if S.T[id]? = some xs.length then
            if ys.isEmpty then some (.ok s S)
            else some (.ok (.sl (xs ++ ys), .tok id) ⟨S.H, S.T.set id (xs.length + ys.length)⟩)
          else none
        | .full =>
          if ys.isEmpty then some (.ok s S)
          else some (.ok (.sl (xs ++ ys), .tok S.T.length) ⟨S.H, S.T ++ [xs.length + ys.length]⟩)
        | _ => none
      else none
    | _, _ => none
  | _ => none

def Env0.act (e : Env0) (op : Op) (ρ : Operand → SV) (S : St) : Option ARes :=
  match op with
  | .alloc t => if hasZero e.c.P t then some (e.newVar t (tzs e.c.P t) S) else none
  | .box t x => if (ρ x).1.known then some (e.newVar t (expand (ρ x)) S) else none
  | .store t a x =>
    match (ρ a).1 with
    | .ptr b o => match S.H[b]? with
      | some cells =>
        if (expand (ρ x)).length = tsz e.c.P t ∧ 1 ≤ tsz e.c.P t ∧ o + tsz e.c.P t ≤ cells.length ∧ (expand (ρ x)).all (fun y => y.1.isCell) then
          some (.ok (.tup [], .no) ⟨S.H.set b (storeCells e.n0 b o cells (expand (ρ x))), S.T⟩)
        else none
      | none => none
    | _ => none
  | .makeSlice t l k =>
    match tk e.c.P t, (ρ l).1, (ρ k).1 with
    | .slice elem, .int _ n, .int _ m =>
      if n = m ∧ 0 ≤ n ∧ n ≤ maxLen ∧ tsz e.c.P elem = 1 ∧ e.c.P.bytesOf elem ≤ 64 ∧ hasZero e.c.P elem ∧ (tz e.c.P elem).length = 1 then
        some (.ok (.slr S.H.length 0 n.toNat, .no) ⟨S.H ++ [List.replicate n.toNat ((tz e.c.P elem).headD .undef, .no)], S.T⟩)
      else none
    | _, _, _ => none
  | .convert src dst x =>
    if (tk e.c.P src).isOther then none else
    match tk e.c.P dst, (ρ x).1 with
    | .slice elem, .str s => match tk e.c.P elem with
      | .int .u8 => some (.ok (.slr S.H.length 0 s.length, .no) ⟨S.H ++ [(toBytes s).map (·, .no)], S.T⟩)
      | _ => none
    | _, _ => none
  | .panic x => match (ρ x).1 with
    | .iface t v => some (.panic (.iface t v) S)
    | _ => none
  | .call { callee := .builtin .append, args, argTypes } =>
    match args.toList, argTypes.toList with
    | [s, x], [t, t2] => e.append t t2 (ρ s) (ρ x) S
    | _, _ => none
  | .call { callee := .value f, args, .. } =>
    match (ρ f).1 with
    | .fn k first cap =>
      match e.call k (first.map (·, .no) ++ args.toList.map ρ ++ cap.map (·, .no)) S with
      | some (.ret v, S') => some (.ok v S')
      | some (.panic v, S') => some (.panic v S')
      | none => none
    | _ => none
  | _ => none

def isAct : Op → Bool
  | .alloc _ | .box _ _ | .store _ _ _ | .makeSlice _ _ _ | .panic _ => true
  | .call { callee := .builtin .len, .. } | .call { callee := .builtin .min, .. } | .call { callee := .builtin .max, .. } => false
  | .call _ => true
  | _ => false

def wantedA (ops : Array Oper) (env : Env) (o : Oper) : Option Bool :=
  match o.guard with
  | none => some true
  | some (j, want) => match (ops[j]?).bind (·.dst) with
    | some d => match (env.getD d (.undef, .no)).1 with
      | .bool b => some (b == want)
      | .tup [] => some false
      | _ => none
    | none => none

inductive ORes where
  | ok (fr : Fr) (S : St)
  | panic (v : AV) (fr : Fr) (S : St)

/-- one operation, in the text's order -/
def Env0.step (e : Env0) (ops : Array Oper) (o : Oper) (fr : Fr) (S : St) : Option ORes :=
  match wantedA ops fr.env o with
  | none => none
  | some false => some (.ok (fr.put o.dst (.tup [], .no)) S)
  | some true =>
    match o.op with
    | .defer { callee := .value f, args, .. } =>
      match (e.c.eval fr.env f).1 with
      | .fn k first cap => some (.ok ({ fr with ds := (k, (first ++ args.toList.map (fun x => (e.c.eval fr.env x).1) ++ cap).map fun v => ((v, Tag.no) : SV)) :: fr.ds }.put o.dst (.tup [], .no)) S)
      | _ => none
    | op =>
      match e.c.pure op (e.c.eval fr.env) with
      | some v => some (.ok (fr.put o.dst v) S)
      | none =>
        match e.c.read op (e.c.eval fr.env) S with
        | some v => some (.ok (fr.put o.dst v) S)
        | none =>
          match e.act op (e.c.eval fr.env) S with
          | some (.ok v S') => some (.ok (fr.put o.dst v) S')
          | some (.panic v S') => some (.panic v fr S')
          | none => none

def Env0.ops (e : Env0) (ops : Array Oper) : List Oper → Fr → St → Option ORes
  | [], fr, S => some (.ok fr S)
  | o :: rest, fr, S =>
    match e.step ops o fr S with
    | some (.ok fr' S') => e.ops ops rest fr' S'
    | r => r

/-- is t overwritten by one of these operations? then what it holds is forgotten -/
def forget (ops : List Oper) (fr : Fr) : Fr := { fr with env := ops.foldl (fun env o => match o.dst with | some d => env.set d (.undef, .no) | none => env) fr.env }

/-! ### a region whose order is open -/
def allocs (P : Program) (o : Oper) : Bool :=
  match o.op, o.guard with
  | .alloc t, none => hasZero P t
  | _, _ => false
/-- what moves the state, but for new variables -/
def moves (P : Program) (o : Oper) : Bool :=
  match o.op with
  | .alloc _ => false
  | .convert _ dst _ => match tk P dst with
    | .slice _ => true
    | _ => false
  | op => isAct op
def readsTmp (ops : Array Oper) (o : Oper) : List Tmp :=
  (o.op.operands.toList.filterMap fun | .tmp t => some t | _ => none) ++
  (match o.guard with
    | some (j, _) => ((ops[j]?).bind (·.dst)).toList
    | none => [])
/-- j comes ahead of i in every order -/
def ahead (b : List Nat) (i j : Nat) : Bool := (b.getD i 0).testBit j
def goodOp : Op → Bool
  | .defer _ | .go _ | .select _ _ | .send _ _ | .recv _ _ _ => false
  | .call { callee := .invoke _ _, .. } => false
  | .call { callee := .builtin .recover, .. } => false
  | _ => true
def drawOkAt (P : Program) (ops : Array Oper) (b : List Nat) (i : Nat) (o : Oper) : Bool :=
  goodOp o.op &&
  o.after.all (fun e => !Region.binds .any e || decide (e.on < i)) &&
  (match o.guard with
    | none => true
    | some (j, _) => ahead b i j) &&
  (List.range i).all fun j =>
    match ops[j]? with
    | none => false
    | some p =>
      (o.dst.isNone || !(o.dst == p.dst)) &&
      (ahead b i j || (!(moves P o && moves P p) && (match p.dst with | some d => !(readsTmp ops o).contains d | none => true) && (match o.dst with | some d => !(readsTmp ops p).contains d | none => true)))
def drawOk (P : Program) (ops : Array Oper) (b : List Nat) : Bool := ops.toList.zipIdx.all fun (o, i) => drawOkAt P ops b i o
def lows (P : Program) (ops : Array Oper) (b : List Nat) (i : Nat) : Nat := ((List.range ops.size).filter fun j => (((ops[j]?).map (moves P)).getD false) && ahead b i j).length
def highs (P : Program) (ops : Array Oper) (b : List Nat) (i : Nat) : Nat := ((List.range ops.size).filter fun j => (((ops[j]?).map (moves P)).getD false) && !ahead b j i).length

structure Rec where
  o : Oper
  env : Env
  v : SV
  al : Nat
def Env0.zeroVar (e : Env0) (t : TypeId) (m : Nat) : List SV × List Nat := newCells (e.pre t) (tzs e.c.P t) m
/-- the new variables of a region are laid ahead of it -/
def Env0.prealloc (e : Env0) : List Oper → St → St
  | [], S => S
  | o :: r, S =>
    if allocs e.c.P o then
      match o.op with
      | .alloc t => e.prealloc r ⟨S.H ++ [(e.zeroVar t S.T.length).1], S.T ++ (e.zeroVar t S.T.length).2⟩
      | _ => e.prealloc r S
    else e.prealloc r S
/-- what an operation of a region sees -/
def Ctx.evalR (c : Ctx) (env : Env) (rd : List Tmp) : Operand → SV
  | .tmp t => if rd.contains t then env.getD t (.undef, .no) else (.undef, .no)
  | x => c.eval env x
/-- does the block at b still hold what it held ahead of the region? -/
def Env0.fresh (b : Nat) (S0 S : St) : Bool :=
  match S0.H[b]?, S.H[b]? with
  | some x, some y => SV.beqs x y
  | _, _ => false
def Env0.quietAt (e : Env0) (ops : Array Oper) (S0 : St) (base al : Nat) (o : Oper) (env : Env) (S : St) : Option SV :=
  match wantedA ops env o with
  | none => none
  | some false => some (.tup [], .no)
  | some true =>
    match o.op with
    | .alloc _ => if allocs e.c.P o && Env0.fresh (base + al) S0 S then some (.ptr (base + al) 0, .no) else none
    | op => match e.c.pure op (e.c.evalR env (readsTmp ops o)) with
      | some v => some v
      | none => e.c.read op (e.c.evalR env (readsTmp ops o)) S
inductive DRes where
  | ok (env : Env) (Ss : List St) (recs : List Rec)
  | panic (v : AV) (S : St) (Ss : List St) (recs : List Rec) (rest : List Oper)
/-- the region in the text's order: the states that it goes through (the last one first), what each operation gave -/
def Env0.lexD (e : Env0) (ops : Array Oper) (S0 : St) (base : Nat) : List Oper → Nat → Env → List St → List Rec → Option DRes
  | [], _, env, Ss, recs => some (.ok env Ss recs)
  | o :: rest, al, env, Ss, recs =>
    match Ss with
    | [] => none
    | S :: _ =>
      let al' := if allocs e.c.P o then al + 1 else al
      if moves e.c.P o then
        match wantedA ops env o with
        | none => none
        | some false => e.lexD ops S0 base rest al' (Fr.put ⟨env, []⟩ o.dst (.tup [], .no)).env (S :: Ss) (⟨o, env, (.tup [], .no), al⟩ :: recs)
        | some true =>
          match e.act o.op (e.c.evalR env (readsTmp ops o)) S with
          | some (.ok v S') => e.lexD ops S0 base rest al' (Fr.put ⟨env, []⟩ o.dst v).env (S' :: Ss) (⟨o, env, v, al⟩ :: recs)
          | some (.panic v S') => some (.panic v S' Ss (⟨o, env, (.undef, .no), al⟩ :: recs) rest)
          | none => none
      else
        match e.quietAt ops S0 base al o env S with
        | some v => e.lexD ops S0 base rest al' (Fr.put ⟨env, []⟩ o.dst v).env Ss (⟨o, env, v, al⟩ :: recs)
        | none => none
/-- each reading operation gives the same in every state in which an order may let it come -/
def Env0.sameAll (e : Env0) (ops : Array Oper) (b : List Nat) (S0 : St) (base : Nat) (Ss : List St) : Nat → List Rec → Bool
  | _, [] => true
  | i, r :: rs =>
    (moves e.c.P r.o || (e.c.pure r.o.op (e.c.evalR r.env (readsTmp ops r.o))).isSome ||
      ((List.range (highs e.c.P ops b i + 1)).all fun k =>
        decide (k < lows e.c.P ops b i) ||
        match Ss[k]? with
        | some S => match e.quietAt ops S0 base r.al r.o r.env S with
          | some v => SV.beq v r.v
          | none => false
        | none => true)) && e.sameAll ops b S0 base Ss (i + 1) rs
/-- behind a panic: what is left waits for it, or is a mere move -/
def restOk (b : List Nat) (p : Nat) : Nat → List Oper → Bool
  | _, [] => true
  | i, o :: r => (ahead b i p || ((match o.op with | .move _ => true | _ => false) && o.guard.isNone)) && restOk b p (i + 1) r
def Env0.drawsAt (e : Env0) (ops : Array Oper) (b : List Nat) (S0 : St) (fr : Fr) (S : St) : Option (Ex × Fr × St) :=
  if drawOk e.c.P ops b then
    match e.lexD ops S0 S.H.length ops.toList 0 fr.env [S0] [] with
    | some (.ok env Ss recs) =>
      if e.sameAll ops b S0 S.H.length Ss.reverse 0 recs.reverse then some (.normal, ⟨env, fr.ds⟩, Ss.headD S) else none
    | some (.panic v S' Ss recs rest) =>
      if e.sameAll ops b S0 S.H.length Ss.reverse 0 recs.reverse && restOk b (recs.length - 1) recs.length rest then
        some (.panic v, forget ops.toList fr, S') else none
    | none => none
  else none
def Env0.draws (e : Env0) (ops : Array Oper) (fr : Fr) (S : St) : Option (Ex × Fr × St) := e.drawsAt ops (CheckFast.beforeL ops.toList 0 []) (e.prealloc ops.toList S) fr S
def Env0.region (e : Env0) (ops : Array Oper) (draw : Bool) (fr : Fr) (S : St) : Option (Ex × Fr × St) :=
  if draw then e.draws ops fr S else
  match e.ops ops ops.toList fr S with
  | some (.ok fr' S') => some (.normal, fr', S')
  | some (.panic v fr' S') => some (.panic v, fr', S')
  | none => none

/-! ### loops -/
def Tag.max1 : Tag → Nat
  | .tok id => id + 1
  | _ => 0
def Tag.maxTok : Tag → Nat
  | .agg ts => ts.foldl (fun m t => max m t.max1) 0
  | t => t.max1
def maxTok (l : List SV) (m : Nat) : Nat := l.foldl (fun m x => max m x.2.maxTok) m
def SV.low' (n : Nat) (x : SV) : SV := if x.1.low n then x else (.undef, .no)
/-- what stays of a round: slots that stood before the loop, blocks that stood before it -/
def tidyEnv (n : Nat) : Env → Env → Env
  | _, [] => []
  | [], f :: fs => SV.low' n f :: tidyEnv n [] fs
  | e :: es, f :: fs => (match e.1 with | .undef => (.undef, .no) | _ => SV.low' n f) :: tidyEnv n es fs
def tidyT (m : Nat) (T : List Nat) (env : Env) (loc : List Blk) : List Nat := if T.length = m then T else T.take (loc.foldl (fun m b => maxTok b m) (maxTok env m))
def Env0.tidy (e : Env0) (env0 : Env) (S0 : St) (fr : Fr) (S : St) : Fr × St :=
  (⟨tidyEnv S0.H.length env0 fr.env, fr.ds.map fun d => (d.1, d.2.map (SV.low' S0.H.length))⟩,
    ⟨S.H.take S0.H.length, tidyT S0.T.length S.T (tidyEnv S0.H.length env0 fr.env) ((S.H.take S0.H.length).drop e.n0)⟩)

def iter (f : Fr → St → Option (Ex × Fr × St)) (tidy : Fr → St → Fr × St) : Nat → Fr → St → Option (Ex × Fr × St)
  | 0, _, _ => none
  | k + 1, fr, S =>
    match f fr S with
    | some (.normal, fr', S') => iter f tidy k (tidy fr' S').1 (tidy fr' S').2
    | r => r

/-- the slots that only a region's own operations see -/
def dropped (ts : List Tmp) (fr : Fr) : Fr := { fr with env := ts.foldl (fun env t => env.set t (.undef, .no)) fr.env }
def Env0.code (e : Env0) (fuel : Nat) : Code → Fr → St → Option (Ex × Fr × St)
  | .skip, fr, S => some (.normal, fr, S)
  | .label _, fr, S => some (.normal, fr, S)
  | .region id ops draw, fr, S => (e.region ops draw fr S).map fun r => (r.1, dropped (e.drop id) r.2.1, r.2.2)
  | .seq a b, fr, S =>
    match e.code fuel a fr S with
    | some (.normal, fr', S') => e.code fuel b fr' S'
    | r => r
  | .cond x a b, fr, S =>
    match (e.c.eval fr.env x).1 with
    | .bool true => e.code fuel a fr S
    | .bool false => e.code fuel b fr S
    | _ => none
  | .block id body, fr, S =>
    match e.code fuel body fr S with
    | some (.exit id', fr', S') => if id' = id then some (.normal, fr', S') else some (.exit id', fr', S')
    | r => r
  | .loop body, fr, S => iter (fun fr S => e.code fuel body fr S) (e.tidy fr.env S) fuel fr S
  | .exit id, fr, S => some (.exit id, fr, S)
  | .ret, fr, S => some (.ret, fr, S)
  | _, _, _ => none

/-! ### calls -/
def Ctx.result (c : Ctx) (env : Env) (S : St) : ResultVar → Option SV
  | .tmp t => some (env.getD t (.undef, .no))
  | .cell a t => match (env.getD a (.undef, .no)).1 with
    | .ptr b o => match S.H[b]? with
      | some cells => c.part t cells o
      | none => none
    | _ => none
def allSome {α : Type} : List (Option α) → Option (List α)
  | [] => some []
  | some a :: r => (allSome r).map (a :: ·)
  | none :: _ => none
/-- how a result leaves its function: a slice of the function's own gets the caller's next token -/
def leaveTag (m0 : Nat) (T : List Nat) (x : SV) : Tag × List Nat :=
  match x with
  | (.sl xs, .full) => (.tok m0, [xs.length])
  | (.sl xs, .tok id) =>
    if id < m0 then (.tok id, [])
    else if T[id]? = some xs.length then (.tok m0, [xs.length]) else (.no, [])
  | _ => (.no, [])
def leaveTags (m0 : Nat) (T : List Nat) : List SV → List SV × List Nat
  | [] => ([], [])
  | x :: r =>
    let y := leaveTag m0 T x
    if y.2.isEmpty then let z := leaveTags m0 T r; ((x.1, y.1) :: z.1, z.2)
    else ((x.1, y.1) :: r.map (fun z => (z.1, .no)), y.2)
def asOne : List SV → SV
  | [v] => v
  | vs => (.tup (vs.map (·.1)), .agg (vs.map (·.2)))
def leave (n0 m0 : Nat) (S : St) (vs : List SV) : COut × St :=
  if vs.all (fun v => v.1.low n0) then
    (.ret (asOne (leaveTags m0 S.T vs).1), ⟨S.H.take n0, S.T.take m0 ++ (leaveTags m0 S.T vs).2⟩)
  else (.ret (asOne vs), S)
def Ctx.finish (c : Ctx) (fn : Func) (n0 m0 : Nat) (fr : Fr) (S : St) : Option (COut × St) :=
  match allSome (fn.results.toList.map (c.result fr.env S)) with
  | some vs => some (leave n0 m0 S vs)
  | none => none


/-- the frame below, as a deferred call finds it -/
inductive Below1 where
  | returning
  | panics (v : AV)
  | recovered
def isRecover : Oper → Bool
  | { op := .call { callee := .builtin .recover, .. }, guard := none, .. } => true
  | _ => false
/-- the operations of a deferred function that asks recover -/
def Env0.opsD (e : Env0) (ops : Array Oper) : List Oper → Below1 → Fr → St → Option (Below1 × ORes)
  | [], u, fr, S => some (u, .ok fr S)
  | o :: rest, u, fr, S =>
    if isRecover o then
      match u with
      | .panics v => e.opsD ops rest .recovered (fr.put o.dst (v, .no)) S
      | _ => e.opsD ops rest u (fr.put o.dst (.nili, .no)) S
    else
    match e.step ops o fr S with
    | some (.ok fr' S') => e.opsD ops rest u fr' S'
    | some (.panic v fr' S') => some (u, .panic v fr' S')
    | none => none
def asksRecover : Code → Bool
  | .region _ ops false => ops.toList.any isRecover
  | .seq a b => asksRecover a || asksRecover b
  | _ => false
def Env0.codeD (e : Env0) (fuel : Nat) : Code → Below1 → Fr → St → Option (Below1 × Ex × Fr × St)
  | .seq a b, u, fr, S =>
    if asksRecover (.seq a b) then
      match e.codeD fuel a u fr S with
      | some (u', .normal, fr', S') => e.codeD fuel b u' fr' S'
      | r => r
    else (e.code fuel (.seq a b) fr S).map fun r => (u, r)
  | .region id ops false, u, fr, S =>
    if ops.toList.any isRecover then
      match e.opsD ops ops.toList u fr S with
      | some (u', .ok fr' S') => some (u', .normal, fr', S')
      | some (u', .panic v fr' S') => some (u', .panic v, fr', S')
      | none => none
    else (e.code fuel (.region id ops false) fr S).map fun r => (u, r)
  | k, u, fr, S => (e.code fuel k fr S).map fun r => (u, r)

def frame0 (fn : Func) (args : List SV) : Fr := ⟨args ++ List.replicate (fn.ntmps - args.length) (.undef, .no), []⟩

/-- a deferred call, made while the frame below leaves -/
def Ctx.deferred (c : Ctx) (pre : TypeId → Bool) (call : CallFn) (n : Nat) (g : FuncId) (args : List SV) (u : Below1) (S : St) : Option (Below1 × St) :=
  match c.P.funcs[g]? with
  | none => none
  | some fn =>
    match fn.body with
    | none => none
    | some code =>
      if fn.results.size = 0 then
        match Env0.codeD ⟨c, pre, S.H.length, S.T.length, call, c.drop g⟩ n code u (frame0 fn args) S with
        | some (u', .normal, ⟨_, []⟩, S') | some (u', .ret, ⟨_, []⟩, S') => some (u', ⟨S'.H.take S.H.length, S'.T.take S.T.length⟩)
        | _ => none
      else none
def panicked (n0 m0 : Nat) (v : AV) (S : St) : Option (COut × St) := if v.low n0 then some (.panic v, ⟨S.H.take n0, S.T.take m0⟩) else none
/-- how a body's end becomes the call's -/
def Ctx.ends (c : Ctx) (pre : TypeId → Bool) (call : CallFn) (n : Nat) (fn : Func) (n0 m0 : Nat) : Option (Ex × Fr × St) → Option (COut × St)
  | some (ex, ⟨env, []⟩, S') => match ex with
    | .normal | .ret => c.finish fn n0 m0 ⟨env, []⟩ S'
    | .panic v => panicked n0 m0 v S'
    | _ => none
  | some (ex, ⟨env, [(g, dargs)]⟩, S') => match ex with
    | .normal | .ret =>
      match c.deferred pre call n g dargs .returning S' with
      | some (.returning, S'') => c.finish fn n0 m0 ⟨env, []⟩ S''
      | _ => none
    | .panic v =>
      match c.deferred pre call n g dargs (.panics v) S' with
      | some (.recovered, S'') => c.finish fn n0 m0 ⟨env, []⟩ S''
      | some (.panics v, S'') => panicked n0 m0 v S''
      | _ => none
    | _ => none
  | _ => none
/-- THE PURE RUN OF A CALL -/
def Ctx.call (c : Ctx) (pre : TypeId → Bool) (ext : FuncId → Option (List SV → St → Option (COut × St))) : Nat → CallFn
  | 0 => fun _ _ _ => none
  | n + 1 => fun f args S =>
    match ext f with
    | some g => g args S
    | none =>
      match c.P.funcs[f]? with
      | none => none
      | some fn =>
        match fn.body with
        | none => none
        | some code => c.ends pre (Ctx.call c pre ext n) n fn S.H.length S.T.length
            (Env0.code ⟨c, pre, S.H.length, S.T.length, Ctx.call c pre ext n, c.drop f⟩ n code (frame0 fn args) S)

end Go.Ab
