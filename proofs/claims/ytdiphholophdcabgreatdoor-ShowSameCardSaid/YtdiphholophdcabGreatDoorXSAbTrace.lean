import Derived.Test.YtdiphholophdcabGreatDoorXSAbTags2
import Derived.Test.YtdiphholophdcabGreatDoorXSAbBeqEq
import Derived.Orders
set_option linter.all false
section
/- A REGION IN THE TEXT's ORDER, step by step; WHAT COMES AHEAD OF WHAT. -/
namespace Go.Ab
open Go.RowKit

/-! ### equality that the run decides -/
mutual
theorem Tag.beq_eq : ∀ (a b : Tag), Tag.beq a b = true → a = b
  | .no, b, h => by cases b <;> first | rfl | (simp [Tag.beq] at h)
  | .full, b, h => by cases b <;> first | rfl | (simp [Tag.beq] at h)
  | .tok i, b, h => by cases b <;> simp [Tag.beq] at h; subst h; rfl
  | .agg x, b, h => by cases b <;> simp [Tag.beq] at h; rw [Tag.beqs_eq x _ h]
theorem Tag.beqs_eq : ∀ (a b : List Tag), Tag.beqs a b = true → a = b
  | [], b, h => by cases b <;> first | rfl | (simp [Tag.beqs] at h)
  | x :: xs, b, h => by
    cases b with
    | nil => simp [Tag.beqs] at h
    | cons y ys =>
      simp [Tag.beqs] at h
      rw [Tag.beq_eq x y h.1, Tag.beqs_eq xs ys h.2]
end
theorem SV.beq_eq {a b : SV} (h : SV.beq a b = true) : a = b := by
  simp only [SV.beq, Bool.and_eq_true] at h
  exact Prod.ext (AV.beq_eq _ _ h.1) (Tag.beq_eq _ _ h.2)
theorem SV.beqs_eq : ∀ {a b : List SV}, SV.beqs a b = true → a = b
  | [], b, h => by cases b <;> first | rfl | (simp [SV.beqs] at h)
  | x :: xs, b, h => by
    cases b with
    | nil => simp [SV.beqs] at h
    | cons y ys =>
      simp [SV.beqs] at h
      rw [SV.beq_eq h.1, SV.beqs_eq h.2]

/-! ### what comes ahead -/
/-- listed: closed under the edges that bind -/
def Closed (ops : Array Oper) (D : Nat → Prop) : Prop := ∀ (i : Nat) (o : Oper), ops[i]? = some o → D i → ∀ e ∈ o.after, Region.binds .any e = true → D e.on

theorem one_bits (look : Nat → Nat) (es : List Edge) (s j : Nat) (h : (es.foldl (fun s e => if Region.binds .any e then s ||| 2 ^ e.on ||| look e.on else s) s).testBit j = true) :
    s.testBit j = true ∨ ∃ e ∈ es, Region.binds .any e = true ∧ (e.on = j ∨ (look e.on).testBit j = true) := by
  induction es generalizing s with
  | nil => exact .inl h
  | cons e es ih =>
    simp only [List.foldl_cons] at h
    rcases ih _ h with h1 | ⟨e', he', hb, hj⟩
    · split at h1
      · rename_i hb
        simp only [Nat.testBit_or, Bool.or_eq_true, Nat.testBit_two_pow, decide_eq_true_eq] at h1
        rcases h1 with (h1 | h1) | h1
        · exact .inl h1
        · exact .inr ⟨e, List.mem_cons_self .., hb, .inl h1⟩
        · exact .inr ⟨e, List.mem_cons_self .., hb, .inr h1⟩
      · exact .inl h1
    · exact .inr ⟨e', List.mem_cons_of_mem _ he', hb, hj⟩

theorem before_closed {ops : Array Oper} {D : Nat → Prop} (hD : Closed ops D) : ∀ (l : List Oper) (acc : List Nat), ops.toList = ops.toList.take acc.length ++ l → acc.length ≤ ops.size →
    (∀ i, i < acc.length → ∀ j, (acc.reverse.getD i 0).testBit j = true → D i → D j) →
    ∀ i j, ((CheckFast.beforeL l acc.length acc).getD i 0).testBit j = true → D i → D j := by
  intro l
  induction l with
  | nil =>
    intro acc hl hle ha i j h hi
    simp only [CheckFast.beforeL] at h
    rcases Nat.lt_or_ge i acc.length with hlt | hge
    · exact ha i hlt j h hi
    · rw [List.getD_eq_getElem?_getD, List.getElem?_eq_none (by simpa using hge)] at h
      simp at h
  | cons o l ih =>
    intro acc hl hle ha i j h hi
    rw [CheckFast.beforeL, CheckFast.force_eq] at h
    have hlen : ops.toList.length = acc.length + (l.length + 1) := by
      have := congrArg List.length hl
      simp only [List.length_append, List.length_take, List.length_cons, Array.length_toList] at this ⊢
      omega
    have hlt : acc.length < ops.size := by simp at hlen; omega
    have hget : ops[acc.length]? = some o := by
      have : ops.toList[acc.length]? = some o := by
        rw [hl, List.getElem?_append_right (by simp; omega)]
        have e : acc.length - (List.take acc.length ops.toList).length = 0 := by simp; omega
        rw [e]
        rfl
      simpa using this
    have hl' : ops.toList = ops.toList.take (acc.length + 1) ++ l := by
      have hd : ops.toList.drop acc.length = o :: l := by
        have h1 := congrArg (List.drop acc.length) hl
        rw [List.drop_append_of_le_length (by simp; omega)] at h1
        simpa using h1
      have h2 : ops.toList.drop (acc.length + 1) = l := by
        rw [← List.drop_drop, hd]; rfl
      have h3 := (List.take_append_drop (acc.length + 1) ops.toList).symm
      rw [h2] at h3
      exact h3
    refine ih (_ :: acc) (by simpa using hl') (by simp; omega) ?_ i j h hi
    intro i' hi' j' h' hD'
    simp only [List.length_cons] at hi'
    rw [List.reverse_cons] at h'
    rcases Nat.lt_or_ge i' acc.length with hlt' | hge
    · rw [List.getD_eq_getElem?_getD, List.getElem?_append_left (by simpa using hlt'), ← List.getD_eq_getElem?_getD] at h'
      exact ha i' hlt' j' h' hD'
    · have e : i' = acc.length := by omega
      subst e
      rw [List.getD_eq_getElem?_getD, List.getElem?_append_right (by simp)] at h'
      simp only [List.length_reverse, Nat.sub_self, List.getElem?_cons_zero, Option.getD_some] at h'
      unfold CheckFast.one at h'
      rw [← Array.foldl_toList] at h'
      rcases one_bits (fun i => if i < acc.length then acc.getD (acc.length - 1 - i) 0 else 0) _ _ _ h' with h1 | ⟨e, he, hb, h1 | h1⟩
      · simp at h1
      · exact h1 ▸ hD _ o hget hD' e (by simpa using he) hb
      · have hon := hD _ o hget hD' e (by simpa using he) hb
        split at h1
        · rename_i hlt2
          refine ha e.on hlt2 j' ?_ hon
          have e2 : acc.reverse.getD e.on 0 = acc.getD (acc.length - 1 - e.on) 0 := by
            rw [List.getD_eq_getElem?_getD, List.getElem?_reverse hlt2, ← List.getD_eq_getElem?_getD]
          rw [e2]; exact h1
        · simp at h1

theorem ahead_closed {ops : Array Oper} {D : Nat → Prop} (hD : Closed ops D) {i j : Nat} (h : ahead (CheckFast.beforeL ops.toList 0 []) i j = true) (hi : D i) : D j :=
  before_closed hD ops.toList [] (by simp) (by simp) (fun i hi => by simp at hi) i j h hi

/-! ### the steps -/
def isMv (P : Program) (ops : Array Oper) (j : Nat) : Bool := ((ops[j]?).map (moves P)).getD false

inductive Trace (e : Env0) (ops : Array Oper) (S0 : St) (base : Nat) (env0 : Env) : Nat → List Rec → List St → Env → Nat → Prop
  | nil : Trace e ops S0 base env0 0 [] [S0] env0 0
  | quiet {i recs S Ss env al} (o : Oper) (v : SV) : Trace e ops S0 base env0 i recs (S :: Ss) env al → ops[i]? = some o → moves e.c.P o = false → e.quietAt ops S0 base al o env S = some v →
      Trace e ops S0 base env0 (i + 1) (recs ++ [⟨o, env, v, al⟩]) (S :: Ss) (Fr.put ⟨env, []⟩ o.dst v).env (if allocs e.c.P o then al + 1 else al)
  | skip {i recs S Ss env al} (o : Oper) : Trace e ops S0 base env0 i recs (S :: Ss) env al → ops[i]? = some o → moves e.c.P o = true → wantedA ops env o = some false →
      Trace e ops S0 base env0 (i + 1) (recs ++ [⟨o, env, (.tup [], .no), al⟩]) (S :: S :: Ss) (Fr.put ⟨env, []⟩ o.dst (.tup [], .no)).env (if allocs e.c.P o then al + 1 else al)
  | act {i recs S Ss env al} (o : Oper) (v : SV) (S' : St) : Trace e ops S0 base env0 i recs (S :: Ss) env al → ops[i]? = some o → moves e.c.P o = true → wantedA ops env o = some true →
      e.act o.op (e.c.evalR env (readsTmp ops o)) S = some (.ok v S') →
      Trace e ops S0 base env0 (i + 1) (recs ++ [⟨o, env, v, al⟩]) (S' :: S :: Ss) (Fr.put ⟨env, []⟩ o.dst v).env (if allocs e.c.P o then al + 1 else al)

theorem lexD_trace {e : Env0} {ops : Array Oper} {S0 : St} {base : Nat} {env0 : Env} : ∀ (l : List Oper) (i al : Nat) (env : Env) (Ss : List St) (recs : List Rec) (r : DRes), (∀ j, l[j]? = ops[i + j]?) →
    Trace e ops S0 base env0 i recs.reverse Ss env al → e.lexD ops S0 base l al env Ss recs = some r →
    match r with
    | .ok env' Ss' recs' => ∃ al', Trace e ops S0 base env0 (i + l.length) recs'.reverse Ss' env' al'
    | .panic v S' Ss' recs' rest => ∃ p env' al' recs1 o S, Trace e ops S0 base env0 p recs1.reverse Ss' env' al' ∧ recs' = ⟨o, env', (.undef, .no), al'⟩ :: recs1 ∧ ops[p]? = some o ∧ (∀ j, rest[j]? = ops[p + 1 + j]?) ∧ moves e.c.P o = true ∧
        wantedA ops env' o = some true ∧ Ss'.head? = some S ∧ e.act o.op (e.c.evalR env' (readsTmp ops o)) S = some (.panic v S') := by
  intro l
  induction l with
  | nil =>
    intro i al env Ss recs r hl ht h
    simp only [Env0.lexD] at h
    cases h
    exact ⟨al, ht⟩
  | cons o l ih =>
    intro i al env Ss recs r hl ht h
    have ho : ops[i]? = some o := by have := hl 0; simpa using this.symm
    have hl' : ∀ j, l[j]? = ops[i + 1 + j]? := fun j => by
      have := hl (j + 1)
      rw [show i + (j + 1) = i + 1 + j by omega] at this
      simpa using this
    have fin : ∀ (r : DRes), (match r with
        | .ok env' Ss' recs' => ∃ al', Trace e ops S0 base env0 (i + 1 + l.length) recs'.reverse Ss' env' al'
        | .panic v S' Ss' recs' rest => ∃ p env' al' recs1 o S, Trace e ops S0 base env0 p recs1.reverse Ss' env' al' ∧ recs' = ⟨o, env', (.undef, .no), al'⟩ :: recs1 ∧ ops[p]? = some o ∧ (∀ j, rest[j]? = ops[p + 1 + j]?) ∧ moves e.c.P o = true ∧
            wantedA ops env' o = some true ∧ Ss'.head? = some S ∧ e.act o.op (e.c.evalR env' (readsTmp ops o)) S = some (.panic v S')) →
        (match r with
        | .ok env' Ss' recs' => ∃ al', Trace e ops S0 base env0 (i + (o :: l).length) recs'.reverse Ss' env' al'
        | .panic v S' Ss' recs' rest => ∃ p env' al' recs1 o S, Trace e ops S0 base env0 p recs1.reverse Ss' env' al' ∧ recs' = ⟨o, env', (.undef, .no), al'⟩ :: recs1 ∧ ops[p]? = some o ∧ (∀ j, rest[j]? = ops[p + 1 + j]?) ∧ moves e.c.P o = true ∧
            wantedA ops env' o = some true ∧ Ss'.head? = some S ∧ e.act o.op (e.c.evalR env' (readsTmp ops o)) S = some (.panic v S')) := by
      intro r hr
      cases r with
      | ok env' Ss' recs' =>
        simp only [List.length_cons] at hr ⊢
        rw [show i + (l.length + 1) = i + 1 + l.length by omega]
        exact hr
      | panic => exact hr
    cases Ss with
    | nil => simp [Env0.lexD] at h
    | cons S Ss =>
      simp only [Env0.lexD] at h
      by_cases hm : moves e.c.P o = true
      · rw [if_pos hm] at h
        cases hw : wantedA ops env o with
        | none => simp [hw] at h
        | some b =>
          cases b with
          | false =>
            simp only [hw] at h
            exact fin r (ih (i + 1) _ _ _ _ r hl' (by rw [List.reverse_cons]; exact .skip o ht ho hm hw) h)
          | true =>
            simp only [hw] at h
            cases ha : e.act o.op (e.c.evalR env (readsTmp ops o)) S with
            | none => simp [ha] at h
            | some ar =>
              cases ar with
              | ok v S' =>
                simp only [ha] at h
                exact fin r (ih (i + 1) _ _ _ _ r hl' (by rw [List.reverse_cons]; exact .act o v S' ht ho hm hw ha) h)
              | panic v S' =>
                simp only [ha] at h
                cases h
                exact ⟨i, env, al, recs, o, S, ht, rfl, ho, hl', hm, hw, rfl, ha⟩
      · rw [if_neg hm] at h
        cases hq : e.quietAt ops S0 base al o env S with
        | none => simp [hq] at h
        | some v =>
          simp only [hq] at h
          exact fin r (ih (i + 1) _ _ _ _ r hl' (by rw [List.reverse_cons]; exact .quiet o v ht ho (by simpa using hm) hq) h)
end Go.Ab
end
section
/- WHAT A REGION's STEPS SAY, by place. -/
namespace Go.Ab
open Go.RowKit

theorem countP_range_succ (p : Nat → Bool) (n : Nat) : (List.range (n + 1)).countP p = (List.range n).countP p + (if p n then 1 else 0) := by
  rw [List.range_succ, List.countP_append]
  simp [List.countP_cons]

/-- how many of the first i operations move the state -/
def mvc (P : Program) (ops : Array Oper) (i : Nat) : Nat := (List.range i).countP (isMv P ops)

structure EnvAt (env0 : Env) (rs : List Rec) (env : Env) : Prop where
  len : env.length = env0.length
  hit : ∀ (j : Nat) (r : Rec) (t : Tmp), rs[j]? = some r → r.o.dst = some t → (∀ (j' : Nat) (r' : Rec), rs[j']? = some r' → r'.o.dst = some t → j' = j) → t < env0.length → env.getD t (.undef, .no) = r.v
  miss : ∀ t : Tmp, (∀ (j : Nat) (r : Rec), rs[j]? = some r → r.o.dst ≠ some t) → env.getD t (.undef, .no) = env0.getD t (.undef, .no)

theorem getD_set {env : Env} {d t : Nat} {v : SV} : (env.set d v).getD t (.undef, .no) = if d = t ∧ t < env.length then v else env.getD t (.undef, .no) := by
  simp only [List.getD_eq_getElem?_getD]
  by_cases e : d = t
  · subst e
    rcases Nat.lt_or_ge d env.length with hl | hl
    · simp [hl]
    · simp [Nat.not_lt.2 hl]
  · rw [List.getElem?_set_ne e, if_neg (fun h => e h.1)]

theorem EnvAt.snoc {env0 : Env} {rs : List Rec} {env : Env} (h : EnvAt env0 rs env) (o : Oper) (v : SV) (al : Nat) : EnvAt env0 (rs ++ [⟨o, env, v, al⟩]) (Fr.put ⟨env, []⟩ o.dst v).env := by
  have get : ∀ (j : Nat) (r : Rec), (rs ++ [(⟨o, env, v, al⟩ : Rec)])[j]? = some r → rs[j]? = some r ∨ (j = rs.length ∧ r = ⟨o, env, v, al⟩) := by
    intro j r hr
    rcases Nat.lt_trichotomy j rs.length with hl | hl | hl
    · rw [List.getElem?_append_left hl] at hr; exact .inl hr
    · subst hl; simp at hr; exact .inr ⟨rfl, hr.symm⟩
    · rw [List.getElem?_append_right (by omega), List.getElem?_eq_none (by simp; omega)] at hr; cases hr
  have old : ∀ (j : Nat) (r : Rec), rs[j]? = some r → (rs ++ [(⟨o, env, v, al⟩ : Rec)])[j]? = some r ∧ j < rs.length := by
    intro j r hr
    have hl : j < rs.length := by
      rcases Nat.lt_or_ge j rs.length with hl | hl
      · exact hl
      · rw [List.getElem?_eq_none hl] at hr; cases hr
    exact ⟨by rw [List.getElem?_append_left hl]; exact hr, hl⟩
  have new : (rs ++ [(⟨o, env, v, al⟩ : Rec)])[rs.length]? = some ⟨o, env, v, al⟩ := by simp
  cases hd : o.dst with
  | none =>
    refine ⟨h.len, fun j r t hr ht hu hlt => ?_, fun t hm => ?_⟩
    · rcases get j r hr with h1 | ⟨h1, h2⟩
      · exact h.hit j r t h1 ht (fun j' r' hr' ht' => hu j' r' (old j' r' hr').1 ht') hlt
      · subst h2; simp only at ht; rw [hd] at ht; cases ht
    · exact h.miss t fun j r hr => hm j r (old j r hr).1
  | some d =>
    refine ⟨by simp [Fr.put, h.len], fun j r t hr ht hu hlt => ?_, fun t hm => ?_⟩
    · show (env.set d v).getD t _ = _
      rw [getD_set]
      by_cases e : d = t
      · subst e
        rw [if_pos ⟨rfl, by rw [h.len]; exact hlt⟩]
        have := hu rs.length _ new hd
        subst this
        rw [new] at hr
        cases hr
        rfl
      · rw [if_neg (fun h => e h.1)]
        rcases get j r hr with h1 | ⟨h1, h2⟩
        · exact h.hit j r t h1 ht (fun j' r' hr' ht' => hu j' r' (old j' r' hr').1 ht') hlt
        · subst h2; simp only at ht; rw [hd] at ht; cases ht; exact absurd rfl e
    · show (env.set d v).getD t _ = _
      have hne : d ≠ t := fun e => hm rs.length _ new (by simp only; rw [hd, e])
      rw [getD_set, if_neg (fun h => hne h.1)]
      exact h.miss t fun j r hr => hm j r (old j r hr).1

/-- one step, by place -/
structure StepAt (e : Env0) (ops : Array Oper) (S0 : St) (base : Nat) (env0 : Env) (recs : List Rec) (st : List St) (i : Nat) (r : Rec) : Prop where
  op : ops[i]? = some r.o
  al : r.al = nAl e.c.P (ops.toList.take i)
  env : EnvAt env0 (recs.take i) r.env
  quiet : moves e.c.P r.o = false → ∃ S, st[mvc e.c.P ops i]? = some S ∧ e.quietAt ops S0 base r.al r.o r.env S = some r.v
  mv : moves e.c.P r.o = true → ∃ S S', st[mvc e.c.P ops i]? = some S ∧ st[mvc e.c.P ops i + 1]? = some S' ∧
    ((wantedA ops r.env r.o = some false ∧ S' = S ∧ r.v = (.tup [], .no)) ∨ (wantedA ops r.env r.o = some true ∧ e.act r.o.op (e.c.evalR r.env (readsTmp ops r.o)) S = some (.ok r.v S')))

structure Facts (e : Env0) (ops : Array Oper) (S0 : St) (base : Nat) (env0 : Env) (n : Nat) (recs : List Rec) (st : List St) (env : Env) (al : Nat) : Prop where
  len : recs.length = n
  le : n ≤ ops.size
  al : al = nAl e.c.P (ops.toList.take n)
  mvl : st.length = mvc e.c.P ops n + 1
  zero : st[0]? = some S0
  env : EnvAt env0 recs env
  step : ∀ (i : Nat) (r : Rec), recs[i]? = some r → StepAt e ops S0 base env0 recs st i r

theorem get_snoc {α : Type} {l : List α} {x y : α} {j : Nat} (h : (l ++ [x])[j]? = some y) : l[j]? = some y ∨ (j = l.length ∧ y = x) := by
  rcases Nat.lt_trichotomy j l.length with hl | hl | hl
  · rw [List.getElem?_append_left hl] at h; exact .inl h
  · subst hl; simp at h; exact .inr ⟨rfl, h.symm⟩
  · rw [List.getElem?_append_right (by omega), List.getElem?_eq_none (by simp; omega)] at h; cases h
theorem lt_of_some {α : Type} {l : List α} {i : Nat} {x : α} (h : l[i]? = some x) : i < l.length := by
  rcases Nat.lt_or_ge i l.length with hl | hl
  · exact hl
  · rw [List.getElem?_eq_none hl] at h; cases h

theorem nAl_succ {P : Program} {ops : Array Oper} {i : Nat} {o : Oper} (h : ops[i]? = some o) : nAl P (ops.toList.take (i + 1)) = if allocs P o then nAl P (ops.toList.take i) + 1 else nAl P (ops.toList.take i) := by
  have : ops.toList[i]? = some o := by simpa using h
  rw [List.take_add_one, this]
  simp only [nAl, Option.toList_some, List.countP_append, List.countP_cons, List.countP_nil, Nat.zero_add]
  split <;> simp_all
theorem mvc_succ {P : Program} {ops : Array Oper} {i : Nat} {o : Oper} (h : ops[i]? = some o) : mvc P ops (i + 1) = mvc P ops i + if moves P o then 1 else 0 := by
  unfold mvc
  rw [countP_range_succ]
  simp [isMv, h]

theorem StepAt.snoc {e : Env0} {ops : Array Oper} {S0 : St} {base : Nat} {env0 : Env} {recs : List Rec} {st : List St} {i : Nat} {r : Rec} (h : StepAt e ops S0 base env0 recs st i r) (hi : i < recs.length) (x : Rec) (xs : List St) :
    StepAt e ops S0 base env0 (recs ++ [x]) (st ++ xs) i r := by
  have put : ∀ {k : Nat} {S : St}, st[k]? = some S → (st ++ xs)[k]? = some S := fun hk => by rw [List.getElem?_append_left (lt_of_some hk)]; exact hk
  refine ⟨h.op, h.al, by rw [List.take_append_of_le_length (by omega)]; exact h.env, fun hm => ?_, fun hm => ?_⟩
  · obtain ⟨S, h1, h2⟩ := h.quiet hm
    exact ⟨S, put h1, h2⟩
  · obtain ⟨S, S', h1, h2, h3⟩ := h.mv hm
    exact ⟨S, S', put h1, put h2, h3⟩

theorem Trace.facts {e : Env0} {ops : Array Oper} {S0 : St} {base : Nat} {env0 : Env} {n : Nat} {recs : List Rec} {Ss : List St} {env : Env} {al : Nat} (h : Trace e ops S0 base env0 n recs Ss env al) :
    Facts e ops S0 base env0 n recs Ss.reverse env al ∧ Ss ≠ [] := by
  induction h with
  | nil =>
    refine ⟨⟨rfl, Nat.zero_le _, by simp [nAl], by simp [mvc], rfl, ⟨rfl, fun j r t h => by simp at h, fun t _ => rfl⟩, fun i r h => by simp at h⟩, by simp⟩
  | @quiet i recs S Ss env al o v ht ho hm hq ih =>
    obtain ⟨f, _⟩ := ih
    have hlt : i < ops.size := (Array.getElem?_eq_some_iff.1 ho).1
    refine ⟨⟨by simp [f.len], hlt, by rw [nAl_succ ho, f.al], by rw [f.mvl, mvc_succ ho, hm]; simp, f.zero, f.env.snoc o v al, fun j r hr => ?_⟩, by simp⟩
    rcases get_snoc hr with h1 | ⟨h1, h2⟩
    · have := (f.step j r h1).snoc (lt_of_some h1) ⟨o, env, v, al⟩ []
      rw [List.append_nil] at this
      exact this
    · subst h2
      rw [f.len] at h1
      subst h1
      refine ⟨ho, f.al, by simp only; rw [List.take_append_of_le_length (by rw [f.len]; exact Nat.le_refl _), List.take_of_length_le (by rw [f.len]; exact Nat.le_refl _)]; exact f.env, fun _ => ⟨S, ?_, hq⟩, fun h => by simp only at h; rw [hm] at h; cases h⟩
      have hl := f.mvl
      rw [List.reverse_cons] at hl ⊢
      rw [List.getElem?_append_right (by simp at hl ⊢; omega)]
      have : mvc e.c.P ops j - Ss.reverse.length = 0 := by simp at hl ⊢; omega
      rw [this]; rfl
  | @skip i recs S Ss env al o ht ho hm hw ih =>
    obtain ⟨f, _⟩ := ih
    have hlt : i < ops.size := (Array.getElem?_eq_some_iff.1 ho).1
    have hl := f.mvl
    refine ⟨⟨by simp [f.len], hlt, by rw [nAl_succ ho, f.al], by rw [mvc_succ ho, hm]; simp at hl ⊢; omega, ?_, f.env.snoc o _ al, fun j r hr => ?_⟩, by simp⟩
    · have := f.zero
      rw [List.reverse_cons (a := S), List.getElem?_append_left (lt_of_some this)]
      exact this
    rcases get_snoc hr with h1 | ⟨h1, h2⟩
    · have := (f.step j r h1).snoc (lt_of_some h1) ⟨o, env, (.tup [], .no), al⟩ [S]
      rw [← List.reverse_cons] at this
      exact this
    · subst h2
      rw [f.len] at h1
      subst h1
      refine ⟨ho, f.al, by simp only; rw [List.take_append_of_le_length (by rw [f.len]; exact Nat.le_refl _), List.take_of_length_le (by rw [f.len]; exact Nat.le_refl _)]; exact f.env, fun h => (by simp only at h; rw [hm] at h; cases h), fun _ => ⟨S, S, ?_, ?_, .inl ⟨hw, rfl, rfl⟩⟩⟩
      · rw [List.reverse_cons (a := S) (as := S :: Ss), List.getElem?_append_left (by rw [hl]; omega), List.reverse_cons, List.getElem?_append_right (by simp at hl ⊢; omega)]
        have : mvc e.c.P ops j - Ss.reverse.length = 0 := by simp at hl ⊢; omega
        rw [this]; rfl
      · rw [List.reverse_cons (a := S) (as := S :: Ss), List.getElem?_append_right (by rw [hl]; exact Nat.le_refl _), hl]
        simp
  | @act i recs S Ss env al o v S' ht ho hm hw ha ih =>
    obtain ⟨f, _⟩ := ih
    have hlt : i < ops.size := (Array.getElem?_eq_some_iff.1 ho).1
    have hl := f.mvl
    refine ⟨⟨by simp [f.len], hlt, by rw [nAl_succ ho, f.al], by rw [mvc_succ ho, hm]; simp at hl ⊢; omega, ?_, f.env.snoc o v al, fun j r hr => ?_⟩, by simp⟩
    · have := f.zero
      rw [List.reverse_cons (a := S'), List.getElem?_append_left (lt_of_some this)]
      exact this
    rcases get_snoc hr with h1 | ⟨h1, h2⟩
    · have := (f.step j r h1).snoc (lt_of_some h1) ⟨o, env, v, al⟩ [S']
      rw [← List.reverse_cons] at this
      exact this
    · subst h2
      rw [f.len] at h1
      subst h1
      refine ⟨ho, f.al, by simp only; rw [List.take_append_of_le_length (by rw [f.len]; exact Nat.le_refl _), List.take_of_length_le (by rw [f.len]; exact Nat.le_refl _)]; exact f.env, fun h => (by simp only at h; rw [hm] at h; cases h), fun _ => ⟨S, S', ?_, ?_, .inr ⟨hw, ha⟩⟩⟩
      · rw [List.reverse_cons (a := S') (as := S :: Ss), List.getElem?_append_left (by rw [hl]; omega), List.reverse_cons, List.getElem?_append_right (by simp at hl ⊢; omega)]
        have : mvc e.c.P ops j - Ss.reverse.length = 0 := by simp at hl ⊢; omega
        rw [this]; rfl
      · rw [List.reverse_cons (a := S') (as := S :: Ss), List.getElem?_append_right (by rw [hl]; exact Nat.le_refl _), hl]
        simp

/-! ### what the checks say -/
theorem drawOk_at {P : Program} {ops : Array Oper} {b : List Nat} (h : drawOk P ops b = true) {i : Nat} {o : Oper} (ho : ops[i]? = some o) : drawOkAt P ops b i o = true := by
  unfold drawOk at h
  rw [List.all_eq_true] at h
  have hm : (o, i) ∈ ops.toList.zipIdx := by
    refine List.mem_of_getElem? (i := i) ?_
    have h1 : ops.toList[i]? = some o := by simpa using ho
    simp [h1]
  exact h _ hm
structure OkAt (P : Program) (ops : Array Oper) (b : List Nat) (i : Nat) (o : Oper) : Prop where
  good : goodOp o.op = true
  after : ∀ e ∈ o.after, Region.binds .any e = true → e.on < i
  guard : ∀ j w, o.guard = some (j, w) → ahead b i j = true
  other : ∀ (j : Nat) (p : Oper), j < i → ops[j]? = some p → (∀ t, o.dst = some t → p.dst ≠ some t) ∧
    (ahead b i j = true ∨ (¬ (moves P o = true ∧ moves P p = true) ∧ (∀ t, p.dst = some t → t ∉ readsTmp ops o) ∧ (∀ t, o.dst = some t → t ∉ readsTmp ops p)))
theorem drawOkAt_spec {P : Program} {ops : Array Oper} {b : List Nat} {i : Nat} {o : Oper} (h : drawOkAt P ops b i o = true) : OkAt P ops b i o := by
  unfold drawOkAt at h
  simp only [Bool.and_eq_true] at h
  obtain ⟨⟨⟨h1, h2⟩, h3⟩, h4⟩ := h
  refine ⟨h1, fun e he hb => ?_, fun j w hg => ?_, fun j p hj hp => ?_⟩
  · have := Array.all_eq_true_iff_forall_mem.1 h2 e he
    simpa [hb] using this
  · rw [hg] at h3; exact h3
  · rw [List.all_eq_true] at h4
    have := h4 j (List.mem_range.2 hj)
    simp only [hp, Bool.and_eq_true, Bool.or_eq_true] at this
    obtain ⟨h5, h6⟩ := this
    refine ⟨fun t ht hp' => ?_, h6.imp id fun h7 => ?_⟩
    · rcases h5 with h5 | h5
      · rw [ht] at h5; cases h5
      · rw [ht, hp'] at h5; simp at h5
    · obtain ⟨⟨h8, h9⟩, h10⟩ := h7
      refine ⟨fun h => ?_, fun t ht => ?_, fun t ht => ?_⟩
      · simp [h.1, h.2] at h8
      · rw [ht] at h9; simpa using h9
      · rw [ht] at h10; simpa using h10

theorem sameAll_at {e : Env0} {ops : Array Oper} {b : List Nat} {S0 : St} {base : Nat} {Ss : List St} : ∀ (rs : List Rec) (i0 : Nat), e.sameAll ops b S0 base Ss i0 rs = true → ∀ (j : Nat) (r : Rec), rs[j]? = some r →
    moves e.c.P r.o = true ∨ (e.c.pure r.o.op (e.c.evalR r.env (readsTmp ops r.o))).isSome = true ∨
      ∀ k S, k ≤ highs e.c.P ops b (i0 + j) → lows e.c.P ops b (i0 + j) ≤ k → Ss[k]? = some S → e.quietAt ops S0 base r.al r.o r.env S = some r.v := by
  intro rs
  induction rs with
  | nil => intro i0 _ j r h; simp at h
  | cons x rs ih =>
    intro i0 h j r hr
    simp only [Env0.sameAll, Bool.and_eq_true] at h
    cases j with
    | succ j =>
      have := ih (i0 + 1) h.2 j r (by simpa using hr)
      rw [show i0 + 1 + j = i0 + (j + 1) by omega] at this
      exact this
    | zero =>
      simp at hr
      subst hr
      rw [Nat.add_zero]
      have h1 := h.1
      simp only [Bool.or_eq_true, or_assoc] at h1
      refine h1.imp id (Or.imp id fun h2 k S hk1 hk2 hS => ?_)
      rw [List.all_eq_true] at h2
      have h3 := h2 k (List.mem_range.2 (by omega))
      simp only [hS, Bool.or_eq_true, decide_eq_true_eq] at h3
      rcases h3 with h3 | h3
      · omega
      · split at h3
        · rename_i v hv
          rw [hv, SV.beq_eq h3]
        · cases h3
end Go.Ab
end
section
/- A REGION WHOSE ORDER IS OPEN: any order comes to the same. -/
namespace Go.Ab
open Go.RowKit

section
variable {c : Ctx} {B : Bd} {w0 : World}

/-- what of an environment an operation sees -/
def seen (n : Nat) (env : Env) (rd : List Tmp) : Env := (List.range n).map fun t => if rd.contains t then env.getD t (.undef, .no) else (.undef, .no)
theorem seen_getD {n : Nat} {env : Env} {rd : List Tmp} {t : Tmp} : (seen n env rd).getD t (.undef, .no) = if t < n ∧ rd.contains t then env.getD t (.undef, .no) else (.undef, .no) := by
  unfold seen
  rw [List.getD_eq_getElem?_getD]
  rcases Nat.lt_or_ge t n with hl | hl
  · simp [hl]
  · rw [List.getElem?_eq_none (by simpa using hl)]
    simp [Nat.not_lt.2 hl]
theorem evalR_seen {env : Env} {rd : List Tmp} {n : Nat} (hn : env.length = n) : c.evalR env rd = c.eval (seen n env rd) := by
  funext x
  cases x with
  | tmp t =>
    simp only [Ctx.evalR, Ctx.eval]
    rw [seen_getD]
    rcases Nat.lt_or_ge t n with hl | hl
    · simp [hl]
    · have e : env.getD t (AV.undef, Tag.no) = (.undef, .no) := by rw [List.getD_eq_getElem?_getD, List.getElem?_eq_none (by omega)]; rfl
      simp only [e, ite_self]
  | _ => rfl
theorem wanted_seen {env : Env} {ops : Array Oper} {o : Oper} {n : Nat} (hn : env.length = n) : wantedA ops env o = wantedA ops (seen n env (readsTmp ops o)) o := by
  unfold wantedA
  cases hg : o.guard with
  | none => rfl
  | some g =>
    obtain ⟨j, want⟩ := g
    simp only
    cases hd : (ops[j]?).bind (·.dst) with
    | none => rfl
    | some d =>
      simp only
      have hm : d ∈ readsTmp ops o := by
        unfold readsTmp
        rw [hg]
        simp only [hd]
        exact List.mem_append_right _ (by simp)
      rw [seen_getD]
      rcases Nat.lt_or_ge d n with hl | hl
      · rw [if_pos ⟨hl, by simpa using hm⟩]
      · have e : env.getD d (AV.undef, Tag.no) = (.undef, .no) := by rw [List.getD_eq_getElem?_getD, List.getElem?_eq_none (by omega)]; rfl
        simp only [e, ite_self]
theorem seen_EnvR {G : Gh} {T : List Nat} {env : Env} {rd : List Tmp} {a : Act} (h : ∀ t, t ∈ rd → ∀ (ht : t < a.tmps.size), RS G T (env.getD t (.undef, .no)) a.tmps[t]) : EnvR G T (seen a.tmps.size env rd) a := by
  refine ⟨by simp [seen], fun t h1 h2 => ?_⟩
  simp only [seen, List.getElem_map, List.getElem_range]
  split
  · rename_i hm; exact h t (by simpa using hm) h2
  · exact .no (.undef _)

/-- the plan of a region: what its run in the text's order says -/
structure Plan (c : Ctx) (e : Env0) (ops : Array Oper) (b : List Nat) (Sp : St) (base : Nat) (env0 : Env) (N : Nat) (recs : List Rec) (st : List St) (env : Env) (al : Nat) : Prop where
  ce : e.c = c
  hb : b = CheckFast.beforeL ops.toList 0 []
  ok : ∀ (i : Nat) (o : Oper), ops[i]? = some o → OkAt c.P ops b i o
  facts : Facts e ops Sp base env0 N recs st env al
  same : ∀ (i : Nat) (r : Rec), recs[i]? = some r → moves c.P r.o = true ∨ (c.pure r.o.op (c.evalR r.env (readsTmp ops r.o))).isSome = true ∨
      ∀ k S, k ≤ highs c.P ops b i → lows c.P ops b i ≤ k → st[k]? = some S → e.quietAt ops Sp base r.al r.o r.env S = some r.v
  late : ∀ (i : Nat) (o : Oper), ops[i]? = some o → N < i → ahead b i N = true ∨ (∃ x, o.op = .move x) ∧ o.guard = none

variable {e : Env0} {ops : Array Oper} {b : List Nat} {Sp : St} {base : Nat} {env0 : Env} {N : Nat} {recs : List Rec} {st : List St} {env : Env} {al : Nat}

theorem Plan.uniq (p : Plan c e ops b Sp base env0 N recs st env al) {i j : Nat} {oi oj : Oper} {t : Tmp} (hi : ops[i]? = some oi) (hj : ops[j]? = some oj) (ti : oi.dst = some t) (tj : oj.dst = some t) : i = j := by
  rcases Nat.lt_trichotomy i j with h | h | h
  · exact absurd ti (((p.ok j oj hj).other i oi h hi).1 t tj)
  · exact h
  · exact absurd tj (((p.ok i oi hi).other j oj h hj).1 t ti)

def valAt (recs : List Rec) (i : Nat) : SV := match recs[i]? with | some r => r.v | none => (.undef, .no)

/-- how far a region has come -/
def done (listed : Array Bool) (i : Nat) : Bool := listed.getD i false
def cnt (P : Program) (ops : Array Oper) (listed : Array Bool) : Nat := (List.range ops.size).countP fun j => isMv P ops j && done listed j

structure EnvJ (ops : Array Oper) (env0 : Env) (recs : List Rec) (listed : Array Bool) (G : Gh) (T : List Nat) (a : Act) : Prop where
  len : a.tmps.size = env0.length
  hit : ∀ (i : Nat) (o : Oper) (t : Tmp) (ht : t < a.tmps.size), ops[i]? = some o → o.dst = some t → done listed i = true → RS G T (valAt recs i) a.tmps[t]
  miss : ∀ (t : Tmp) (ht : t < a.tmps.size), (∀ (i : Nat) (o : Oper), ops[i]? = some o → o.dst = some t → done listed i = false) → RS G T (env0.getD t (.undef, .no)) a.tmps[t]

theorem EnvJ.later {G G' : Gh} {T T' : List Nat} {listed : Array Bool} {a : Act} (l : Later G T G' T') (h : EnvJ ops env0 recs listed G T a) : EnvJ ops env0 recs listed G' T' a :=
  ⟨h.len, fun i o t ht ho hd hl => (h.hit i o t ht ho hd hl).later l, fun t ht hm => (h.miss t ht hm).later l⟩

theorem done_set {listed : Array Bool} {i j : Nat} (hi : i < listed.size) : done (listed.setIfInBounds i true) j = (decide (j = i) || done listed j) := by
  unfold done
  by_cases e : i = j
  · subst e; simp [hi]
  · rw [getD_set_ne false e]
    have : ¬ j = i := fun h => e h.symm
    simp [this]

theorem EnvJ.put (p : Plan c e ops b Sp base env0 N recs st env al) {G : Gh} {T : List Nat} {listed : Array Bool} {a : Act} {i : Nat} {o : Oper} {v : Value} (hsz : listed.size = ops.size) (ho : ops[i]? = some o)
    (h : EnvJ ops env0 recs listed G T a) (hv : RS G T (valAt recs i) v) : EnvJ ops env0 recs (listed.setIfInBounds i true) G T (a.put o.dst v) := by
  have hlt : i < listed.size := by rw [hsz]; exact (Array.getElem?_eq_some_iff.1 ho).1
  cases hd : o.dst with
  | none =>
    refine ⟨h.len, fun j oj t ht hj htj hl => ?_, fun t ht hm => ?_⟩
    · rw [done_set hlt] at hl
      have hne : j ≠ i := fun e => by subst e; rw [ho] at hj; cases hj; rw [hd] at htj; cases htj
      simp [hne] at hl
      exact h.hit j oj t ht hj htj hl
    · exact h.miss t ht fun j oj hj htj => by
        have := hm j oj hj htj
        rw [done_set hlt] at this
        simp at this
        exact this.2
  | some d =>
    have hsz2 : (a.put (some d) v).tmps.size = a.tmps.size := by simp [Act.put]
    refine ⟨by rw [hsz2]; exact h.len, fun j oj t ht hj htj hl => ?_, fun t ht hm => ?_⟩
    · have ht' : t < a.tmps.size := by rw [← hsz2]; exact ht
      by_cases e : d = t
      · subst e
        have : j = i := p.uniq hj ho htj hd
        subst this
        simp [Act.put]
        exact hv
      · rw [done_set hlt] at hl
        have hne : j ≠ i := fun e2 => by subst e2; rw [ho] at hj; cases hj; rw [hd] at htj; cases htj; exact e rfl
        simp [hne] at hl
        have := h.hit j oj t ht' hj htj hl
        simp only [Act.put]
        rw [Array.getElem_setIfInBounds_ne ht' e]
        exact this
    · have ht' : t < a.tmps.size := by rw [← hsz2]; exact ht
      have hne : d ≠ t := fun e2 => by
        have := hm i o ho (by rw [hd, e2])
        rw [done_set hlt] at this
        simp at this
      have := h.miss t ht' fun j oj hj htj => by
        have := hm j oj hj htj
        rw [done_set hlt] at this
        simp at this
        exact this.2
      simp only [Act.put]
      rw [Array.getElem_setIfInBounds_ne ht' hne]
      exact this

structure J (c : Ctx) (B : Bd) (w0 : World) (ops : Array Oper) (base : Nat) (env0 : Env) (ds : List (FuncId × List SV)) (N : Nat) (recs : List Rec) (st : List St) (Ge Gp : Gh) (Te Tp : List Nat) (listed : Array Bool) (a : Act) (w : World) (G : Gh) (S : St) : Prop where
  size : listed.size = ops.size
  closed : Closed ops (fun i => done listed i = true)
  late : ∀ i, N ≤ i → done listed i = true → N < i
  at_ : st[cnt c.P ops listed]? = some S
  inv : Inv c B w0 G S w
  later : Later Gp Tp G S.T
  grows : Grows Ge Te G S.T
  env : EnvJ ops env0 recs listed G S.T a
  pend : ∀ (i : Nat) (o : Oper), ops[i]? = some o → allocs c.P o = true → done listed i = false → G.φ[base + nAl c.P (ops.toList.take i)]? = some none
  ds : DefR G ds a.defers

variable {ds : List (FuncId × List SV)} {Ge Gp : Gh} {Te Tp : List Nat} {listed : Array Bool} {a : Act} {w : World} {G : Gh} {S : St}

/-- what a ready operation finds listed -/
theorem J.front (p : Plan c e ops b Sp base env0 N recs st env al) (h : J c B w0 ops base env0 ds N recs st Ge Gp Te Tp listed a w G S) {i : Nat} (hi : i ∈ Region.ready .any ops listed) {j : Nat} (ha : ahead b i j = true) : done listed j = true ∨ j = i := by
  obtain ⟨h0, o, ho, hall⟩ := mem_ready.1 hi
  rw [p.hb] at ha
  refine ahead_closed (D := fun j => done listed j = true ∨ j = i) (fun k ok hk hd e he hb => ?_) ha (.inr rfl)
  rcases hd with hd | rfl
  · exact .inl (h.closed k ok hk hd e he hb)
  · rw [ho] at hk; cases hk; exact .inl (hall e he hb)
theorem not_done {i : Nat} (hi : i ∈ Region.ready .any ops listed) : done listed i = false := by
  have h0 := (mem_ready.1 hi).1
  unfold done
  rcases Nat.lt_or_ge i listed.size with hl | hl
  · simpa [hl] using h0
  · simp [Array.getElem?_eq_none hl]
/-- an operation that waits for i is not listed while i is not -/
theorem J.behind (p : Plan c e ops b Sp base env0 N recs st env al) (h : J c B w0 ops base env0 ds N recs st Ge Gp Te Tp listed a w G S) {i j : Nat} (hi : done listed i = false) (ha : ahead b j i = true) : done listed j = false := by
  rw [p.hb] at ha
  cases hd : done listed j with
  | false => rfl
  | true =>
    have := ahead_closed (D := fun j => done listed j = true) h.closed ha hd
    rw [hi] at this; cases this

/-- what a ready operation sees, it sees in the text's order too -/
theorem J.sees (p : Plan c e ops b Sp base env0 N recs st env al) (h : J c B w0 ops base env0 ds N recs st Ge Gp Te Tp listed a w G S) {i : Nat} (hi : i ∈ Region.ready .any ops listed) {o : Oper} (ho : ops[i]? = some o) {env1 : Env} (hE : EnvAt env0 (recs.take i) env1) (hiN : i ≤ N) :
    EnvR G S.T (seen a.tmps.size env1 (readsTmp ops o)) a := by
  refine seen_EnvR fun t ht hlt => ?_
  have hnd := not_done hi
  have hok := p.ok i o ho
  have rget : ∀ (j : Nat) (r : Rec), (recs.take i)[j]? = some r → j < i ∧ recs[j]? = some r ∧ ops[j]? = some r.o := by
    intro j r hr
    obtain ⟨h1, h2⟩ := take_some hr
    exact ⟨h1, h2, (p.facts.step j r h2).op⟩
  by_cases hx : ∃ (j : Nat) (r : Rec), (recs.take i)[j]? = some r ∧ r.o.dst = some t
  · obtain ⟨j, r, hr, hd⟩ := hx
    obtain ⟨h1, h2, h3⟩ := rget j r hr
    rw [hE.hit j r t hr hd (fun j' r' hr' hd' => p.uniq (rget j' r' hr').2.2 h3 hd' hd) (by rw [← h.env.len]; exact hlt)]
    have hah : Ab.ahead b i j = true := by
      rcases (hok.other j r.o h1 h3).2 with h4 | ⟨_, h5, _⟩
      · exact h4
      · exact absurd ht (h5 t hd)
    have hdone : done listed j = true := (h.front p hi hah).resolve_right (by omega)
    have := h.env.hit j r.o t hlt h3 hd hdone
    simpa [valAt, h2] using this
  · rw [hE.miss t (fun j r hr hd => hx ⟨j, r, hr, hd⟩)]
    refine h.env.miss t hlt fun j oj hj hd => ?_
    rcases Nat.lt_trichotomy j i with hl | hl | hl
    · exfalso
      have hjr : j < recs.length := by rw [p.facts.len]; omega
      have h2 : recs[j]? = some recs[j] := List.getElem?_eq_getElem hjr
      refine hx ⟨j, recs[j], by rw [List.getElem?_take, if_pos hl]; exact h2, ?_⟩
      have := (p.facts.step j _ h2).op
      rw [hj] at this
      cases this
      exact hd
    · subst hl; exact hnd
    · refine h.behind p hnd ?_
      rcases ((p.ok j oj hj).other i o hl ho).2 with h4 | ⟨_, _, h6⟩
      · exact h4
      · exact absurd ht (h6 t hd)

/-- counting moves -/
theorem countP_le_of {p q : Nat → Bool} {l : List Nat} (h : ∀ x ∈ l, p x = true → q x = true) : l.countP p ≤ l.countP q := List.countP_mono_left h
theorem countP_split {p : Nat → Bool} {n i : Nat} (hi : i ≤ n) (hq : ∀ j, i ≤ j → j < n → p j = false) : (List.range n).countP p = (List.range i).countP p := by
  induction n with
  | zero => have : i = 0 := by omega
            subst this; rfl
  | succ n ih =>
    rcases Nat.lt_or_ge n i with hl | hl
    · have : i = n + 1 := by omega
      subst this; rfl
    · rw [countP_range_succ, ih hl (fun j h1 h2 => hq j h1 (by omega)), hq n hl (by omega)]
      simp
theorem countP_add_one {p q : Nat → Bool} {n i : Nat} (hi : i < n) (hp : p i = false) (hq : q i = true) (h : ∀ j, j ≠ i → q j = p j) : (List.range n).countP q = (List.range n).countP p + 1 := by
  induction n with
  | zero => omega
  | succ n ih =>
    rw [countP_range_succ, countP_range_succ]
    rcases Nat.lt_or_ge i n with hl | hl
    · rw [ih hl, h n (by omega)]; omega
    · have : i = n := by omega
      subst this
      rw [hp, hq]
      have e : (List.range i).countP q = (List.range i).countP p := List.countP_congr fun x hx => by
        rw [h x (by have := List.mem_range.1 hx; omega)]
      simp [e]

theorem cnt_set {i : Nat} {o : Oper} (hsz : listed.size = ops.size) (ho : ops[i]? = some o) (hnd : done listed i = false) : cnt c.P ops (listed.setIfInBounds i true) = cnt c.P ops listed + if moves c.P o then 1 else 0 := by
  have hlt : i < ops.size := (Array.getElem?_eq_some_iff.1 ho).1
  unfold cnt
  by_cases hm : moves c.P o = true
  · rw [if_pos hm]
    refine countP_add_one hlt (by simp [hnd]) ?_ fun j hj => ?_
    · rw [done_set (by omega)]; simp [isMv, ho, hm]
    · rw [done_set (by omega)]; simp [hj]
  · rw [if_neg hm, Nat.add_zero]
    refine List.countP_congr fun j _ => ?_
    rw [done_set (by omega)]
    by_cases e : j = i
    · subst e; simp [isMv, ho, hm]
    · simp [e]

theorem isMv_iff {P : Program} {j : Nat} : isMv P ops j = true ↔ ∃ o, ops[j]? = some o ∧ moves P o = true := by
  unfold isMv
  cases h : ops[j]? <;> simp

/-- at a move's turn just the moves ahead of it in the text are done -/
theorem J.cnt_mv (p : Plan c e ops b Sp base env0 N recs st env al) (h : J c B w0 ops base env0 ds N recs st Ge Gp Te Tp listed a w G S) {i : Nat} (hi : i ∈ Region.ready .any ops listed) {o : Oper} (ho : ops[i]? = some o) (hm : moves c.P o = true) : cnt c.P ops listed = mvc c.P ops i := by
  have hlt : i < ops.size := (Array.getElem?_eq_some_iff.1 ho).1
  have hnd := not_done hi
  unfold cnt mvc
  rw [countP_split (i := i) (by omega) (fun j h1 h2 => by
    cases hmv : isMv c.P ops j with
    | false => rfl
    | true =>
      obtain ⟨oj, hj, hmj⟩ := isMv_iff.1 hmv
      rcases Nat.lt_or_ge i j with hl | hl
      · rw [h.behind p hnd]
        · rfl
        · rcases ((p.ok j oj hj).other i o hl ho).2 with h4 | ⟨h5, _⟩
          · exact h4
          · exact absurd ⟨hmj, hm⟩ h5
      · have : j = i := by omega
        subst this
        rw [hnd]; rfl)]
  refine List.countP_congr fun j hj => ?_
  have hj' := List.mem_range.1 hj
  cases hmv : isMv c.P ops j with
  | false => simp
  | true =>
    obtain ⟨oj, hoj, hmj⟩ := isMv_iff.1 hmv
    have hah : Ab.ahead b i j = true := by
      rcases ((p.ok i o ho).other j oj hj' hoj).2 with h4 | ⟨h5, _⟩
      · exact h4
      · exact absurd ⟨hm, hmj⟩ h5
    have := (h.front p hi hah).resolve_right (by omega)
    simp [this]
theorem J.cnt_low (p : Plan c e ops b Sp base env0 N recs st env al) (h : J c B w0 ops base env0 ds N recs st Ge Gp Te Tp listed a w G S) {i : Nat} (hi : i ∈ Region.ready .any ops listed) {o : Oper} (ho : ops[i]? = some o) (hm : moves c.P o = false) : lows c.P ops b i ≤ cnt c.P ops listed ∧ cnt c.P ops listed ≤ highs c.P ops b i := by
  have hnd := not_done hi
  unfold lows highs cnt
  rw [← List.countP_eq_length_filter, ← List.countP_eq_length_filter]
  constructor
  · refine countP_le_of fun j hj hp => ?_
    simp only [Bool.and_eq_true] at hp ⊢
    refine ⟨hp.1, (h.front p hi hp.2).resolve_right fun e => ?_⟩
    subst e
    have := hp.1
    simp [ho, hm] at this
  · refine countP_le_of fun j hj hp => ?_
    simp only [Bool.and_eq_true, Bool.not_eq_true'] at hp ⊢
    refine ⟨hp.1, ?_⟩
    cases ha : Ab.ahead b j i with
    | false => rfl
    | true => rw [h.behind p hnd ha] at hp; exact absurd hp.2 (by simp)
end
end Go.Ab
end
section
/- A REGION WHOSE ORDER IS OPEN: the steps, the whole. -/
namespace Go.Ab
open Go.RowKit

theorem quietAt_cases {e : Env0} {ops : Array Oper} {S0 S : St} {base al : Nat} {o : Oper} {env : Env} {v : SV} (h : e.quietAt ops S0 base al o env S = some v) :
    (wantedA ops env o = some false ∧ v = (.tup [], .no)) ∨ (wantedA ops env o = some true ∧
      ((∃ t, o.op = .alloc t ∧ allocs e.c.P o = true ∧ Env0.fresh (base + al) S0 S = true ∧ v = (.ptr (base + al) 0, .no)) ∨
        ((∀ t, o.op ≠ .alloc t) ∧ (e.c.pure o.op (e.c.evalR env (readsTmp ops o)) = some v ∨ (e.c.pure o.op (e.c.evalR env (readsTmp ops o)) = none ∧ e.c.read o.op (e.c.evalR env (readsTmp ops o)) S = some v))))) := by
  unfold Env0.quietAt at h
  split at h
  · cases h
  · rename_i hw; cases h; exact .inl ⟨hw, rfl⟩
  · rename_i hw
    refine .inr ⟨hw, ?_⟩
    split at h
    · rename_i t hop
      obtain ⟨h1, h2⟩ := Option.ite_none_right_eq_some.1 h
      cases h2
      simp only [Bool.and_eq_true] at h1
      exact .inl ⟨t, hop, h1.1, h1.2, rfl⟩
    · rename_i hop
      refine .inr ⟨fun t => by exact hop t, ?_⟩
      split at h
      · rename_i hp; cases h; exact .inl hp
      · rename_i hp; exact .inr ⟨hp, h⟩
theorem quietAt_pure {e : Env0} {ops : Array Oper} {S0 S S1 : St} {base al : Nat} {o : Oper} {env : Env} {v : SV} (hp : (e.c.pure o.op (e.c.evalR env (readsTmp ops o))).isSome = true) (h : e.quietAt ops S0 base al o env S1 = some v) :
    e.quietAt ops S0 base al o env S = some v := by
  unfold Env0.quietAt at h ⊢
  split at h
  · cases h
  · exact h
  · split at h
    · rename_i t hop
      rw [hop] at hp
      simp [Ctx.pure] at hp
    · split at h
      · exact h
      · rename_i hn; rw [hn] at hp; cases hp

section
variable {c : Ctx} {B : Bd} {w0 : World}
variable {e : Env0} {ops : Array Oper} {b : List Nat} {Sp : St} {base : Nat} {env0 : Env} {N : Nat} {recs : List Rec} {st : List St} {env : Env} {al : Nat}
variable {ds : List (FuncId × List SV)} {Ge Gp : Gh} {Te Tp : List Nat} {listed : Array Bool} {a : Act} {w : World} {G : Gh} {S : St}

theorem J.next (p : Plan c e ops b Sp base env0 N recs st env al) (h : J c B w0 ops base env0 ds N recs st Ge Gp Te Tp listed a w G S) {i : Nat} (hi : i ∈ Region.ready .any ops listed) {o : Oper} (ho : ops[i]? = some o) {G' : Gh} {S' : St} {w' : World} {v : Value}
    (hlate : N ≤ i → N < i) (hat : st[cnt c.P ops listed + if moves c.P o then 1 else 0]? = some S') (inv' : Inv c B w0 G' S' w') (hl : Later G S.T G' S'.T) (hg : Grows Ge Te G' S'.T)
    (hp : ∀ (j : Nat) (o' : Oper), ops[j]? = some o' → allocs c.P o' = true → done listed j = false → j ≠ i → G'.φ[base + nAl c.P (ops.toList.take j)]? = some none) (hv : RS G' S'.T (valAt recs i) v) :
    J c B w0 ops base env0 ds N recs st Ge Gp Te Tp (listed.setIfInBounds i true) (a.put o.dst v) w' G' S' := by
  have hlt : i < listed.size := by rw [h.size]; exact (Array.getElem?_eq_some_iff.1 ho).1
  refine ⟨by simp [h.size], fun j oj hj hd e' he hb => ?_, fun j hj hd => ?_, ?_, inv', h.later.trans hl, hg, ?_, fun j oj hj haj hd => ?_, ?_⟩
  · have hd : done (listed.setIfInBounds i true) j = true := hd
    show done (listed.setIfInBounds i true) e'.on = true
    rw [done_set hlt] at hd ⊢
    simp only [Bool.or_eq_true, decide_eq_true_eq] at hd ⊢
    rcases hd with rfl | hd
    · obtain ⟨_, o', ho', hall⟩ := mem_ready.1 hi
      rw [hj] at ho'
      cases ho'
      exact .inr (hall e' he hb)
    · exact .inr (h.closed j oj hj hd e' he hb)
  · rw [done_set hlt] at hd
    simp only [Bool.or_eq_true, decide_eq_true_eq] at hd
    rcases hd with rfl | hd
    · exact hlate hj
    · exact h.late j hj hd
  · rw [cnt_set h.size ho (not_done hi)]; exact hat
  · exact (h.env.later hl).put p h.size ho hv
  · rw [done_set hlt] at hd
    simp only [Bool.or_eq_false_iff, decide_eq_false_iff_not] at hd
    exact hp j oj hj haj hd.2 hd.1
  · have := h.ds.mono hl.mono
    cases hdst : o.dst <;> simpa [Act.put, hdst] using this

theorem J.pend_grow (h : J c B w0 ops base env0 ds N recs st Ge Gp Te Tp listed a w G S) {G' : Gh} {T' : List Nat} (g : Grows G S.T G' T') (j : Nat) (o' : Oper) (hj : ops[j]? = some o') (ha : allocs c.P o' = true) (hd : done listed j = false) :
    G'.φ[base + nAl c.P (ops.toList.take j)]? = some none := by
  have := h.pend j o' hj ha hd
  rw [g.φ _ (lt_of_some this)]; exact this

/-- a step that leaves the plan's states -/
theorem wpOp_wp {P : Program} {Q : Exit → Act → World → Prop} {i : Nat} {o : Oper} {K : Act → World → Prop} (ho : ops[i]? = some o) (hw : Region.wanted o (yielded ops a.tmps) = true) (h : o.wp P a w K Q) : wpOp P ops Q i K a w := by
  unfold wpOp
  simp only [ho, hw, if_true]
  exact .inl h
theorem wpOp_off {P : Program} {Q : Exit → Act → World → Prop} {i : Nat} {o : Oper} {K : Act → World → Prop} (ho : ops[i]? = some o) (hw : Region.wanted o (yielded ops a.tmps) = false) (h : K (a.put o.dst undef) w) : wpOp P ops Q i K a w := by
  unfold wpOp
  simp only [ho, hw]
  exact h

theorem allocs_pos {i j : Nat} {o : Oper} (P : Program) (hi : ops[i]? = some o) (ha : allocs P o = true) (hij : i < j) : nAl P (ops.toList.take i) < nAl P (ops.toList.take j) := by
  have h1 := nAl_succ (P := P) hi
  rw [if_pos ha] at h1
  have : nAl P (ops.toList.take (i + 1)) ≤ nAl P (ops.toList.take j) := by
    unfold nAl
    have e : ops.toList.take (i + 1) = (ops.toList.take j).take (i + 1) := by rw [List.take_take]; congr 1; omega
    rw [e]
    exact List.Sublist.countP_le (List.take_sublist _ _)
  omega

/-- an operation that leaves the state -/
theorem J.quiet (p : Plan c e ops b Sp base env0 N recs st env al) (h : J c B w0 ops base env0 ds N recs st Ge Gp Te Tp listed a w G S) (hbase : Ge.φ.length ≤ base)
    (hcells : ∀ (i : Nat) (o : Oper) (t : TypeId), ops.toList[i]? = some o → allocs c.P o = true → o.op = .alloc t → ∃ cells z, Sp.H[base + nAl c.P (ops.toList.take i)]? = some cells ∧ (∀ w' : World, (zeroValue t).run c.P w' = .ok z w') ∧ RSs Gp Tp cells z.cells)
    {i : Nat} (hi : i ∈ Region.ready .any ops listed) {r : Rec} (hr : recs[i]? = some r) (hm : moves c.P r.o = false) {K : Act → World → Prop} {Q : Exit → Act → World → Prop}
    (hK : ∀ a' w' G' S', J c B w0 ops base env0 ds N recs st Ge Gp Te Tp (listed.setIfInBounds i true) a' w' G' S' → K a' w') : wpOp c.P ops Q i K a w := by
  have hce := p.ce
  subst hce
  have sa := p.facts.step i r hr
  have ho := sa.op
  have hiN : i < N := by rw [← p.facts.len]; exact lt_of_some hr
  have hval : valAt recs i = r.v := by simp [valAt, hr]
  have hsee := h.sees p hi ho sa.env (by omega)
  have hlen : r.env.length = a.tmps.size := by rw [sa.env.len, h.env.len]
  obtain ⟨hlo, hhi⟩ := h.cnt_low p hi ho hm
  have hq : e.quietAt ops Sp base r.al r.o r.env S = some r.v := by
    rcases p.same i r hr with h1 | h1 | h1
    · rw [hm] at h1; cases h1
    · obtain ⟨S1, _, h2⟩ := sa.quiet hm
      exact quietAt_pure h1 h2
    · exact h1 _ S hhi hlo h.at_
  have hat : st[cnt e.c.P ops listed + if moves e.c.P r.o then 1 else 0]? = some S := by simpa [hm] using h.at_
  have hρ : ∀ x, RS G S.T (e.c.evalR r.env (readsTmp ops r.o) x) (a.eval x) := fun x => by
    rw [evalR_seen hlen]; exact eval_sound h.inv hsee x
  rcases quietAt_cases hq with ⟨hw, hv⟩ | ⟨hw, hv⟩
  · rw [wanted_seen hlen] at hw
    refine wpOp_off ho (wanted_sound hsee hw) (hK _ _ _ _ (h.next p hi ho (by omega) hat h.inv (.refl _ _) h.grows (fun j o' hj ha hd _ => h.pend j o' hj ha hd) ?_))
    rw [hval, hv]; exact tup_undef
  · rw [wanted_seen hlen] at hw
    have hwt := wanted_sound hsee hw
    refine wpOp_wp ho hwt ?_
    have fin : ∀ {x : SV}, x = r.v → Does e.c B w0 G S w a.eval r.o x S → r.o.wp e.c.P a w K Q := by
      intro x hx hd
      subst hx
      refine upon_of_does hd fun G' v w' i' g' hv' => hK _ _ _ _ (h.next p hi ho (by omega) hat i' g'.later (h.grows.trans g') (fun j o' hj ha hd _ => h.pend_grow g' j o' hj ha hd) ?_)
      rw [hval]; exact hv'
    rcases hv with ⟨t, hop, hal, hfr, hv⟩ | ⟨_, hv | ⟨_, hv⟩⟩
    · -- a new variable
      obtain ⟨cells, z, hc1, hz, hrs⟩ := hcells i r.o t (by simpa using ho) hal hop
      rw [← sa.al] at hc1
      have hnd := not_done hi
      have hφ := h.pend i r.o ho hal hnd
      rw [← sa.al] at hφ
      have hcS : S.H[base + r.al]? = some cells := by
        unfold Env0.fresh at hfr
        rw [hc1] at hfr
        cases hs : S.H[base + r.al]? with
        | none => rw [hs] at hfr; cases hfr
        | some y => rw [hs] at hfr; rw [SV.beqs_eq hfr]
      have hrs' := hrs.later h.later
      obtain ⟨i', m'⟩ := h.inv.activate hcS hφ z.cells t (by rw [hrs'.1]; exact Nat.le_refl _) hrs'.2
      have hl' : Later G S.T { G with φ := G.φ.set (base + r.al) (some w.heap.size) } S.T := ⟨m', fun _ n hn => ⟨n, hn, Nat.le_refl n, fun _ => rfl⟩⟩
      have hg' : Grows Ge Te { G with φ := G.φ.set (base + r.al) (some w.heap.size) } S.T := by
        refine ⟨h.grows.mono.trans m', fun q hq => ?_, h.grows.T⟩
        show (G.φ.set _ _)[q]? = _
        rw [List.getElem?_set_ne (by omega)]
        exact h.grows.φ q hq
      have run : (execOp a.eval r.o).run e.c.P w = .ok (.value (.pointer (some ⟨w.heap.size, 0, none⟩))) (w.alloc (.cells z.cells t)) := by
        simp [execOp, hop, Instr.alloc, hz w, newVar, newRow]
      unfold Oper.wp
      rw [run]
      refine hK _ _ _ _ (h.next p hi ho (by omega) hat i' hl' hg' (fun j o' hj ha hd hne => ?_) ?_)
      · have h1 := h.pend j o' hj ha hd
        show (G.φ.set _ _)[_]? = _
        rw [List.getElem?_set_ne]
        · exact h1
        · rw [sa.al]
          intro heq
          rcases Nat.lt_trichotomy i j with hl | hl | hl
          · have := allocs_pos e.c.P ho hal hl; omega
          · exact hne hl.symm
          · have := allocs_pos e.c.P hj ha hl; omega
      · rw [hval, hv]
        refine RS.no (.ptr _ _ _ ?_)
        show (G.φ.set _ _)[_]? = _
        have := lt_of_some hφ
        simp [this]
    · exact fin rfl (pure_sound h.inv hρ hv)
    · exact fin rfl ((read_sound h.inv hρ hv).does h.inv)

/-- an operation that moves the state -/
theorem J.mv (p : Plan c e ops b Sp base env0 N recs st env al) (hcall : CallSound c e.call) (h : J c B w0 ops base env0 ds N recs st Ge Gp Te Tp listed a w G S)
    {i : Nat} (hi : i ∈ Region.ready .any ops listed) {r : Rec} (hr : recs[i]? = some r) (hm : moves c.P r.o = true) {K : Act → World → Prop} {Q : Exit → Act → World → Prop}
    (hK : ∀ a' w' G' S', J c B w0 ops base env0 ds N recs st Ge Gp Te Tp (listed.setIfInBounds i true) a' w' G' S' → K a' w') : wpOp c.P ops Q i K a w := by
  have hce := p.ce
  subst hce
  have sa := p.facts.step i r hr
  have ho := sa.op
  have hiN : i < N := by rw [← p.facts.len]; exact lt_of_some hr
  have hval : valAt recs i = r.v := by simp [valAt, hr]
  have hsee := h.sees p hi ho sa.env (by omega)
  have hlen : r.env.length = a.tmps.size := by rw [sa.env.len, h.env.len]
  have hcnt := h.cnt_mv p hi ho hm
  obtain ⟨S1, S2, h1, h2, h3⟩ := sa.mv hm
  have hS : S1 = S := by
    have := h.at_
    rw [hcnt, h1] at this
    exact Option.some.inj this
  subst hS
  have hat : st[cnt e.c.P ops listed + if moves e.c.P r.o then 1 else 0]? = some S2 := by simpa [hm, hcnt] using h2
  have hρ : ∀ x, RS G S1.T (e.c.evalR r.env (readsTmp ops r.o) x) (a.eval x) := fun x => by
    rw [evalR_seen hlen]; exact eval_sound h.inv hsee x
  rcases h3 with ⟨hw, rfl, hv⟩ | ⟨hw, hact⟩
  · rw [wanted_seen hlen] at hw
    refine wpOp_off ho (wanted_sound hsee hw) (hK _ _ _ _ (h.next p hi ho (by omega) hat h.inv (.refl _ _) h.grows (fun j o' hj ha hd _ => h.pend j o' hj ha hd) ?_))
    rw [hval, hv]; exact tup_undef
  · rw [wanted_seen hlen] at hw
    refine wpOp_wp ho (wanted_sound hsee hw) (act_sound rfl hcall h.inv hρ hact (fun x S' hx G' v w' i' g' hv' => ?_) (fun x S' hx => by cases hx))
    cases hx
    refine hK _ _ _ _ (h.next p hi ho (by omega) hat i' g'.later (h.grows.trans g') (fun j o' hj ha hd _ => h.pend_grow g' j o' hj ha hd) ?_)
    rw [hval]; exact hv'

/-- a mere move behind the panic -/
theorem J.move (p : Plan c e ops b Sp base env0 N recs st env al) (h : J c B w0 ops base env0 ds N recs st Ge Gp Te Tp listed a w G S)
    {i : Nat} (hi : i ∈ Region.ready .any ops listed) {o : Oper} (ho : ops[i]? = some o) (hN : N < i) {K : Act → World → Prop} {Q : Exit → Act → World → Prop}
    (hK : ∀ a' w' G' S', J c B w0 ops base env0 ds N recs st Ge Gp Te Tp (listed.setIfInBounds i true) a' w' G' S' → K a' w') : wpOp c.P ops Q i K a w := by
  rcases p.late i o ho hN with hah | ⟨⟨x, hop⟩, hg⟩
  · exfalso
    rcases h.front p hi hah with h1 | h1
    · have := h.late N (Nat.le_refl _) h1; omega
    · omega
  · have hm : moves c.P o = false := by simp [moves, hop, isAct]
    have hat : st[cnt c.P ops listed + if moves c.P o then 1 else 0]? = some S := by simpa [hm] using h.at_
    have hwt : Region.wanted o (yielded ops a.tmps) = true := by simp [Region.wanted, hg]
    refine wpOp_wp ho hwt ?_
    have run : (execOp a.eval o).run c.P w = .ok (.value (a.eval x)) w := by simp [execOp, hop]
    unfold Oper.wp
    rw [run]
    refine hK _ _ _ _ (h.next p hi ho (by omega) hat h.inv (.refl _ _) h.grows (fun j o' hj ha hd _ => h.pend j o' hj ha hd) ?_)
    have : valAt recs i = (.undef, .no) := by
      unfold valAt
      rw [List.getElem?_eq_none (by rw [p.facts.len]; omega)]
    rw [this]
    exact .no (.undef _)

/-- while something is not listed, something is ready -/
theorem ready_of {i : Nat} (ok : ∀ (i : Nat) (o : Oper), ops[i]? = some o → OkAt c.P ops b i o) (hsz : listed.size = ops.size) (hi : i < ops.size) (hnd : done listed i = false) : Region.ready .any ops listed ≠ [] := by
  induction i using Nat.strongRecOn with
  | _ i ih =>
    obtain ⟨o, ho⟩ : ∃ o, ops[i]? = some o := ⟨ops[i], by simp [hi]⟩
    by_cases hx : ∃ e ∈ o.after, Region.binds .any e = true ∧ done listed e.on = false
    · obtain ⟨e, he, hb, hd⟩ := hx
      have := (ok i o ho).after e he hb
      exact ih e.on this (by omega) hd
    · intro hnil
      have : i ∈ Region.ready .any ops listed := mem_ready.2 ⟨?_, o, ho, fun e he hb => ?_⟩
      · rw [hnil] at this; cases this
      · unfold done at hnd
        have hl : i < listed.size := by omega
        simpa [hl] using hnd
      · cases hd : done listed e.on with
        | true => exact hd
        | false => exact absurd ⟨e, he, hb, hd⟩ hx
end
end Go.Ab
end
section
/- A REGION WHOSE ORDER IS OPEN: the whole; CALLS, the whole. -/
namespace Go.Ab
open Go.RowKit

section
variable {c : Ctx} {B : Bd} {w0 : World}
variable {e : Env0} {ops : Array Oper} {b : List Nat} {Sp : St} {base : Nat} {env0 : Env} {N : Nat} {recs : List Rec} {st : List St} {env : Env} {al : Nat}
variable {ds : List (FuncId × List SV)} {Ge Gp : Gh} {Te Tp : List Nat}

theorem J.run (p : Plan c e ops b Sp base env0 N recs st env al) (hcall : CallSound c e.call) (hbase : Ge.φ.length ≤ base)
    (hcells : ∀ (i : Nat) (o : Oper) (t : TypeId), ops.toList[i]? = some o → allocs c.P o = true → o.op = .alloc t → ∃ cells z, Sp.H[base + nAl c.P (ops.toList.take i)]? = some cells ∧ (∀ w' : World, (zeroValue t).run c.P w' = .ok z w') ∧ RSs Gp Tp cells z.cells)
    {Q : Exit → Act → World → Prop}
    (hfin : ∀ listed a w G S, J c B w0 ops base env0 ds N recs st Ge Gp Te Tp listed a w G S → (∀ i, i < ops.size → done listed i = true) → Q .normal a w)
    (hpan : ∀ listed a w G S, J c B w0 ops base env0 ds N recs st Ge Gp Te Tp listed a w G S → N ∈ Region.ready .any ops listed → ∀ K, wpOp c.P ops Q N K a w) :
    ∀ (fuel : Nat) (listed : Array Bool) (a : Act) (w : World) (G : Gh) (S : St), J c B w0 ops base env0 ds N recs st Ge Gp Te Tp listed a w G S → ((List.range ops.size).countP fun j => !done listed j) ≤ fuel → wpAny c.P .any ops Q fuel listed a w := by
  have nil : ∀ (listed : Array Bool) (a : Act) (w : World) (G : Gh) (S : St), J c B w0 ops base env0 ds N recs st Ge Gp Te Tp listed a w G S → Region.ready .any ops listed = [] → Q .normal a w := by
    intro listed a w G S h hr
    refine hfin listed a w G S h fun i hi => ?_
    cases hd : done listed i with
    | true => rfl
    | false => exact absurd hr (ready_of p.ok h.size hi hd)
  intro fuel
  induction fuel with
  | zero =>
    intro listed a w G S h hc
    have hr : Region.ready .any ops listed = [] := by
      cases hr : Region.ready .any ops listed with
      | nil => rfl
      | cons i l =>
        have hi : i ∈ Region.ready .any ops listed := by rw [hr]; exact List.mem_cons_self ..
        have hnd := not_done hi
        obtain ⟨_, o, ho, _⟩ := mem_ready.1 hi
        have hlt : i < ops.size := (Array.getElem?_eq_some_iff.1 ho).1
        have h0 : ((List.range ops.size).countP fun j => !done listed j) = 0 := by omega
        rw [List.countP_eq_zero] at h0
        have := h0 i (List.mem_range.2 hlt)
        simp [hnd] at this
    exact ⟨hr, nil listed a w G S h hr⟩
  | succ fuel ih =>
    intro listed a w G S h hc
    refine ⟨nil listed a w G S h, fun i hi => ?_⟩
    obtain ⟨_, o, ho, _⟩ := mem_ready.1 hi
    have hlt : i < ops.size := (Array.getElem?_eq_some_iff.1 ho).1
    have hnd := not_done hi
    have hK : ∀ a' w' G' S', J c B w0 ops base env0 ds N recs st Ge Gp Te Tp (listed.setIfInBounds i true) a' w' G' S' → wpAny c.P .any ops Q fuel (listed.setIfInBounds i true) a' w' := by
      intro a' w' G' S' h'
      refine ih _ a' w' G' S' h' ?_
      have := countP_add_one (p := fun j => !done (listed.setIfInBounds i true) j) (q := fun j => !done listed j) hlt (by rw [done_set (by rw [h.size]; exact hlt)]; simp) (by simp [hnd]) (fun j hj => by rw [done_set (by rw [h.size]; exact hlt)]; simp [hj])
      omega
    rcases Nat.lt_trichotomy i N with hl | hl | hl
    · have hlr : i < recs.length := by rw [p.facts.len]; exact hl
      have hr : recs[i]? = some recs[i] := List.getElem?_eq_getElem hlr
      cases hm : moves c.P (recs[i]).o with
      | false => exact h.quiet p hbase hcells hi hr hm hK
      | true => exact h.mv p hcall hi hr hm hK
    · subst hl; exact hpan listed a w G S h hi _
    · exact h.move p hi ho hl hK

theorem restOk_at {b : List Nat} {p : Nat} : ∀ (l : List Oper) (i0 : Nat), restOk b p i0 l = true → ∀ (j : Nat) (o : Oper), l[j]? = some o → ahead b (i0 + j) p = true ∨ (∃ x, o.op = .move x) ∧ o.guard = none := by
  intro l
  induction l with
  | nil => intro i0 _ j o h; simp at h
  | cons x l ih =>
    intro i0 h j o ho
    simp only [restOk, Bool.and_eq_true, Bool.or_eq_true] at h
    cases j with
    | zero =>
      simp at ho
      subst ho
      refine h.1.imp id fun h1 => ?_
      obtain ⟨h2, h3⟩ := h1
      refine ⟨?_, by simpa using h3⟩
      split at h2
      · rename_i x hop; exact ⟨x, hop⟩
      · cases h2
    | succ j =>
      have := ih (i0 + 1) h.2 j o (by simpa using ho)
      rw [show i0 + 1 + j = i0 + (j + 1) by omega] at this
      exact this

theorem forget_getD (l : List Oper) (env : Env) (t : Tmp) : (l.foldl (fun env o => match o.dst with | some d => env.set d (.undef, .no) | none => env) env).length = env.length ∧
    ((l.foldl (fun env o => match o.dst with | some d => env.set d (.undef, .no) | none => env) env).getD t (.undef, .no) = (.undef, .no) ∨
      (∀ o ∈ l, o.dst ≠ some t) ∧ (l.foldl (fun env o => match o.dst with | some d => env.set d (.undef, .no) | none => env) env).getD t (.undef, .no) = env.getD t (.undef, .no)) := by
  induction l generalizing env with
  | nil => exact ⟨rfl, .inr ⟨fun _ h => (by cases h), rfl⟩⟩
  | cons o l ih =>
    simp only [List.foldl_cons]
    cases hd : o.dst with
    | none =>
      obtain ⟨h1, h2⟩ := ih env
      refine ⟨h1, h2.imp id fun h3 => ⟨fun x hx => ?_, h3.2⟩⟩
      rcases List.mem_cons.1 hx with rfl | hx
      · rw [hd]; simp
      · exact h3.1 x hx
    | some d =>
      obtain ⟨h1, h2⟩ := ih (env.set d (.undef, .no))
      refine ⟨by rw [h1]; simp, ?_⟩
      rcases h2 with h2 | ⟨h2, h3⟩
      · exact .inl h2
      · rw [getD_set] at h3
        by_cases e : d = t
        · refine .inl ?_
          rw [h3]
          split
          · rfl
          · rename_i hn
            rw [List.getD_eq_getElem?_getD, List.getElem?_eq_none]
            · rfl
            · exact Nat.le_of_not_lt fun h => hn ⟨e, h⟩
        · refine .inr ⟨fun x hx => ?_, by rw [h3, if_neg (fun h => e h.1)]⟩
          rcases List.mem_cons.1 hx with rfl | hx
          · rw [hd]; intro h; cases h; exact e rfl
          · exact h2 x hx

theorem draws_sound (he : e.c = c) (hm : c.P.follows .mixedOrders = true) (hcall : CallSound c e.call) : DrawSound c B w0 e := by
  intro id ops fr S r a w G Q h inv hfr hq
  refine wp_region_any hm ?_
  have inv1 := inv.drew (w.drawn + 1)
  unfold Env0.draws Env0.drawsAt at h
  obtain ⟨hok, h⟩ := Option.ite_none_right_eq_some.1 h
  obtain ⟨Gp, ip, gp, hφ, hold, hcells⟩ := prealloc_sound he ops.toList G S inv1
  have ok : ∀ (i : Nat) (o : Oper), ops[i]? = some o → OkAt c.P ops (CheckFast.beforeL ops.toList 0 []) i o := fun i o ho => by
    subst he; exact drawOkAt_spec (drawOk_at hok ho)
  -- how it begins
  have start : ∀ {N : Nat} {recs : List Rec} {st : List St} {env : Env} {al : Nat}, Plan c e ops (CheckFast.beforeL ops.toList 0 []) (e.prealloc ops.toList S) S.H.length fr.env N recs st env al →
      J c B w0 ops S.H.length fr.env fr.ds N recs st G Gp S.T (e.prealloc ops.toList S).T (Array.replicate ops.size false) a { w with drawn := w.drawn + 1 } Gp (e.prealloc ops.toList S) := by
    intro N recs st env al p
    have hd : ∀ i, done (Array.replicate ops.size false) i = false := by
      intro i
      unfold done
      rcases Nat.lt_or_ge i ops.size with hl | hl <;> simp [hl, Array.getElem?_replicate]
    refine ⟨by simp, fun i o hi hdn => ?_, fun i hi hdn => ?_, ?_, ip, .refl _ _, gp, ⟨hfr.env.len.symm, fun i o t ht ho htd hdn => ?_, fun t ht hms => ?_⟩, fun i o ho ha hdn => ?_, hfr.ds.mono gp.mono⟩
    · have hdn' : done (Array.replicate ops.size false) i = true := hdn
      rw [hd] at hdn'; cases hdn'
    · rw [hd] at hdn; cases hdn
    · have : cnt c.P ops (Array.replicate ops.size false) = 0 := by
        unfold cnt
        rw [List.countP_eq_zero]
        intro j _
        simp [hd]
      rw [this]; exact p.facts.zero
    · rw [hd] at hdn; cases hdn
    · have hlt : t < fr.env.length := by rw [hfr.env.len]; exact ht
      have := (hfr.env.at_ t hlt ht).later gp.later
      rw [List.getD_eq_getElem?_getD, List.getElem?_eq_getElem hlt]
      exact this
    · have hlt : i < ops.size := (Array.getElem?_eq_some_iff.1 ho).1
      have h1 := allocs_pos (ops := ops) c.P ho ha hlt
      rw [List.take_of_length_le (i := ops.size) (by simp)] at h1
      rw [hφ, List.getElem?_append_right (by rw [inv.lenφ]; omega), inv.lenφ, List.getElem?_replicate, if_pos (by omega)]
  have cell' : ∀ (i : Nat) (o : Oper) (t : TypeId), ops.toList[i]? = some o → allocs c.P o = true → o.op = .alloc t → ∃ cells z, (e.prealloc ops.toList S).H[S.H.length + nAl c.P (ops.toList.take i)]? = some cells ∧ (∀ w' : World, (zeroValue t).run c.P w' = .ok z w') ∧ RSs Gp (e.prealloc ops.toList S).T cells z.cells := hcells
  have hcount : ((List.range ops.size).countP fun j => !done (Array.replicate ops.size false) j) ≤ ops.size := by
    have := List.countP_le_length (p := fun j => !done (Array.replicate ops.size false) j) (l := List.range ops.size)
    simpa using this
  cases hl : e.lexD ops (e.prealloc ops.toList S) S.H.length ops.toList 0 fr.env [e.prealloc ops.toList S] [] with
  | none => rw [hl] at h; cases h
  | some dr =>
    have ht := lexD_trace ops.toList 0 0 fr.env [e.prealloc ops.toList S] [] dr (fun j => by simp) .nil hl
    rw [hl] at h
    cases dr with
    | ok env Ss recs =>
      simp only at h ht
      obtain ⟨hsame, h⟩ := Option.ite_none_right_eq_some.1 h
      cases h
      obtain ⟨al', htr⟩ := ht
      obtain ⟨f, hne⟩ := htr.facts
      have hN : 0 + ops.toList.length = ops.size := by simp
      rw [hN] at f
      have p : Plan c e ops (CheckFast.beforeL ops.toList 0 []) (e.prealloc ops.toList S) S.H.length fr.env ops.size recs.reverse Ss.reverse env al' := by
        refine ⟨he, rfl, ok, f, fun i rr hr => ?_, fun i o ho hi => ?_⟩
        · have := sameAll_at _ _ hsame i rr hr
          rw [Nat.zero_add, he] at this
          exact this
        · have := (Array.getElem?_eq_some_iff.1 ho).1; omega
      refine J.run p hcall (by rw [inv.lenφ]; exact Nat.le_refl _) cell' (fun listed a' w' G' S' hj hall => ?_) (fun listed a' w' G' S' hj hi => ?_) ops.size _ _ _ _ _ (start p) hcount
      · have hcnt : cnt c.P ops listed = mvc c.P ops ops.size := by
          unfold cnt mvc
          refine List.countP_congr fun j hjm => ?_
          rw [hall j (List.mem_range.1 hjm)]; simp
        have hS : Ss.headD S = S' := by
          have h1 := hj.at_
          have h2 := f.mvl
          rw [he] at h2
          cases Ss with
          | nil => exact absurd rfl hne
          | cons X Ss =>
            rw [hcnt, List.getElem?_reverse (by simp at h2 ⊢; omega)] at h1
            have : (X :: Ss).length - 1 - mvc c.P ops ops.size = 0 := by simp at h2 ⊢; omega
            rw [this] at h1
            simpa using h1
        rw [hS] at hq
        refine hq G' .normal a' w' trivial hj.inv hj.grows ⟨⟨by rw [f.env.len, hj.env.len], fun t h1 h2 => ?_⟩, hj.ds⟩
        have hlt : t < fr.env.length := by rw [← hj.env.len]; exact h2
        have e1 : env[t] = env.getD t (.undef, .no) := by rw [List.getD_eq_getElem?_getD, List.getElem?_eq_getElem h1]; rfl
        rw [e1]
        by_cases hx : ∃ (j : Nat) (rr : Rec), recs.reverse[j]? = some rr ∧ rr.o.dst = some t
        · obtain ⟨j, rr, hr, hd⟩ := hx
          have ho := (f.step j rr hr).op
          rw [f.env.hit j rr t hr hd (fun j' r' hr' hd' => p.uniq (f.step j' r' hr').op ho hd' hd) hlt]
          have := hj.env.hit j rr.o t h2 ho hd (hall j (Array.getElem?_eq_some_iff.1 ho).1)
          simpa [valAt, hr] using this
        · rw [f.env.miss t fun j rr hr hd => hx ⟨j, rr, hr, hd⟩]
          refine hj.env.miss t h2 fun j oj hoj hd => ?_
          exfalso
          have hjl : j < recs.reverse.length := by rw [f.len]; exact (Array.getElem?_eq_some_iff.1 hoj).1
          have h3 : recs.reverse[j]? = some recs.reverse[j] := List.getElem?_eq_getElem hjl
          have h4 := (f.step j _ h3).op
          rw [hoj] at h4
          refine hx ⟨j, recs.reverse[j], h3, ?_⟩
          rw [← Option.some.inj h4]; exact hd
      · exfalso
        obtain ⟨_, o, ho, _⟩ := mem_ready.1 hi
        have := (Array.getElem?_eq_some_iff.1 ho).1; omega
    | panic v S' Ss recs rest =>
      simp only at h ht
      obtain ⟨hsame, h⟩ := Option.ite_none_right_eq_some.1 h
      cases h
      rw [Bool.and_eq_true] at hsame
      obtain ⟨hsame, hrest⟩ := hsame
      obtain ⟨pp, env', al', recs1, o, S1, htr, rfl, ho, hrest', hmv, hw, hhead, hact⟩ := ht
      obtain ⟨f, hne⟩ := htr.facts
      have hlen1 : recs1.length = pp := by have := f.len; simpa using this
      have p : Plan c e ops (CheckFast.beforeL ops.toList 0 []) (e.prealloc ops.toList S) S.H.length fr.env pp recs1.reverse Ss.reverse env' al' := by
        refine ⟨he, rfl, ok, f, fun i rr hr => ?_, fun i oi hoi hi => ?_⟩
        · have hr' : (⟨o, env', (.undef, .no), al'⟩ :: recs1 : List Rec).reverse[i]? = some rr := by
            rw [List.reverse_cons, List.getElem?_append_left (lt_of_some hr)]; exact hr
          have := sameAll_at _ _ hsame i rr hr'
          rw [Nat.zero_add, he] at this
          exact this
        · simp only [List.length_cons, Nat.add_sub_cancel, hlen1] at hrest
          have h1 := hrest' (i - (pp + 1))
          rw [show pp + 1 + (i - (pp + 1)) = i by omega, hoi] at h1
          have := restOk_at rest (pp + 1) hrest _ oi h1
          rw [show pp + 1 + (i - (pp + 1)) = i by omega] at this
          exact this
      refine J.run p hcall (by rw [inv.lenφ]; exact Nat.le_refl _) cell' (fun listed a' w' G' S'' hj hall => ?_) (fun listed a' w' G' S'' hj hi K => ?_) ops.size _ _ _ _ _ (start p) hcount
      · exfalso
        have := hj.late pp (Nat.le_refl _) (hall pp (Array.getElem?_eq_some_iff.1 ho).1)
        omega
      · subst he
        have hsee := hj.sees p hi ho (env1 := env') (by rw [List.take_of_length_le (by simp [hlen1])]; exact f.env) (Nat.le_refl _)
        have hlen : env'.length = a'.tmps.size := by rw [f.env.len, hj.env.len]
        have hcnt := hj.cnt_mv p hi ho hmv
        have hS : S1 = S'' := by
          have h1 := hj.at_
          have h2 := f.mvl
          cases Ss with
          | nil => exact absurd rfl hne
          | cons X Ss =>
            rw [hcnt, List.getElem?_reverse (by simp at h2 ⊢; omega)] at h1
            have : (X :: Ss).length - 1 - mvc e.c.P ops pp = 0 := by simp at h2 ⊢; omega
            rw [this] at h1
            simp at h1 hhead
            rw [← hhead, h1]
        subst hS
        have hρ : ∀ x, RS G' S1.T (e.c.evalR env' (readsTmp ops o) x) (a'.eval x) := fun x => by
          rw [evalR_seen hlen]; exact eval_sound hj.inv hsee x
        rw [wanted_seen hlen] at hw
        refine wpOp_wp ho (wanted_sound hsee hw) (act_sound rfl hcall hj.inv hρ hact (fun x S2 hx => by cases hx) (fun x S2 hx G2 w2 v2 i2 g2 hv2 => ?_))
        cases hx
        refine hq G2 _ a' w2 ⟨v2, rfl, hv2⟩ i2 (hj.grows.trans g2) ⟨⟨?_, fun t h1 h2 => ?_⟩, hj.ds.mono g2.mono⟩
        · rw [hj.env.len]; exact (forget_getD ops.toList fr.env 0).1
        · have hfg := forget_getD ops.toList fr.env t
          have e1 : (forget ops.toList fr).env[t] = (forget ops.toList fr).env.getD t (.undef, .no) := by rw [List.getD_eq_getElem?_getD, List.getElem?_eq_getElem h1]; rfl
          rw [e1]
          rcases hfg.2 with h3 | ⟨h3, h4⟩
          · have : (forget ops.toList fr).env.getD t (.undef, .no) = (.undef, .no) := h3
            rw [this]; exact .no (.undef _)
          · have : (forget ops.toList fr).env.getD t (.undef, .no) = fr.env.getD t (.undef, .no) := h4
            rw [this]
            exact (hj.env.miss t h2 fun j oj hoj hd => absurd hd (h3 oj (by
              have : ops.toList[j]? = some oj := by simpa using hoj
              exact List.mem_of_getElem? this))).later g2.later
end

/-- A CALL OF THE PURE RUN IS THE MACHINE'S: where orders are the model's any. -/
theorem run_sound {c : Ctx} {pre : TypeId → Bool} {ext : FuncId → Option (List SV → St → Option (COut × St))} (hm : c.P.follows .mixedOrders = true) (hname : ∀ (f : FuncId) (fn : Func), c.P.funcs[f]? = some fn → (fn.name == "runtime.NumGoroutine") = false)
    (hext : ∀ f g, ext f = some g → ∀ args S out S', g args S = some (out, S') → Steps1 S.H.length S S' ∧
      ∀ (B : Bd) (w0 : World) (G : Gh) (w : World) (vs : Array Value), Inv c B w0 G S w → RArgs G S.T args vs → CallTo c.P f vs w fun en w' => ∃ G', Inv c B w0 G' S' w' ∧ Grows G S.T G' S'.T ∧ OutR G' S'.T out en) :
    ∀ n, CallSound c (Ctx.call c pre ext n) :=
  call_sound hname (fun _ hs _ _ _ _ _ => draws_sound rfl hm hs) hext
end Go.Ab
end
section
/- FROM THE PURE RUN TO THE ROW's WALK. -/
namespace Go.Ab
open Go.RowKit

/-- blocks' types and sizes, of rows that bear no strange frozen range -/
def tyOf (W : World) (d : Nat) : Option (TypeId × Nat) := match W.heap[d]? with
  | some (.cells vs t fr) => if fr.1 ≤ fr.2 then some (t, vs.size) else none
  | _ => none
/-- the ghost of a world in which all that is there stays as it is -/
def ghost0 (W : World) : Gh := ⟨[], fun d o => W.cell? ⟨d, o, none⟩, [], tyOf W⟩
def GlobOk (c : Ctx) (W : World) : Prop := ∀ (g : Nat) (cs : List AV), c.glob g = some cs → R (ghost0 W) (.iptr cs) (.pointer (some ⟨g, 0, none⟩)) ∧ (AV.iptr cs).low 0 = true
/-- what is known holds at the run's begin -/
def KnowOk (c : Ctx) (W : World) : Prop := ∀ (I : Nat → Nat → Option Value) (ty : Nat → Option (TypeId × Nat)), (∀ d o v, W.cell? ⟨d, o, none⟩ = some v → I d o = some v) → (∀ d x, tyOf W d = some x → ty d = some x) → c.know I ty

theorem inv0 {c : Ctx} {W : World} (h : GlobOk c W ∧ KnowOk c W) : Inv c ⟨(· < W.heap.size), (ghost0 W).I⟩ W (ghost0 W) ⟨[], []⟩ W where
  below := .refl _ _
  base := fun d hd h => Nat.lt_irrefl d (Nat.lt_of_lt_of_le h hd)
  iD := fun _ _ _ => rfl
  lenφ := rfl
  lenO := rfl
  inj := fun i j d h => by simp [ghost0] at h
  low := fun b cells h => by simp at h
  tag := fun b cells h => by simp at h
  blk := fun b d cells h => by simp at h
  imm := fun d o v h => ⟨h, fun b hb => by simp [ghost0] at hb⟩
  own := fun id ow h => by simp [ghost0] at h
  dis := fun i j oi oj d o o' _ h => by simp [ghost0] at h
  ty := fun d t n h => by
    simp only [ghost0, tyOf] at h
    split at h
    · rename_i vs t' fr hh
      split at h
      · rename_i hfr
        cases h
        exact ⟨vs, fr, hh, rfl, hfr⟩
      · cases h
    · cases h
  glob := h.1
  know := h.2

end Go.Ab
end
section
/- CODE OVER ABSTRACT STATES: rules, with forgetting. -/
namespace Go.Ab
open Go.RowKit

abbrev Post1 := Ex → Fr → St → Prop

/-- what is asked behind code -/
def PostH (c : Ctx) (B : Bd) (w0 : World) (G0 : Gh) (T0 : List Nat) (Q : Post1) (Q' : Exit → Act → World → Prop) : Prop :=
  ∀ ex fr S, Q ex fr S → ∀ G ex' a w, ExR G ex ex' → Inv c B w0 G S w → Grows G0 T0 G S.T → FrR G S.T fr a → TagsLow G0.φ.length T0.length S → Q' ex' a w

/-- the code, begun in this frame and state, comes to Q -/
def CodeH (c : Ctx) (n0 m0 : Nat) (k : Code) (fr : Fr) (S : St) (Q : Post1) : Prop :=
  ∀ B w0 G0 T0 G a w Q', G0.φ.length = n0 → T0.length = m0 → Inv c B w0 G S w → Grows G0 T0 G S.T → FrR G S.T fr a → TagsLow n0 m0 S → PostH c B w0 G0 T0 Q Q' → k.wp c.P Q' a w

section
variable {c : Ctx} {n0 m0 : Nat}

theorem CodeH.mono {k : Code} {fr : Fr} {S : St} {Q Q2 : Post1} (h : CodeH c n0 m0 k fr S Q) (hq : ∀ ex fr S, Q ex fr S → Q2 ex fr S) : CodeH c n0 m0 k fr S Q2 :=
  fun B w0 G0 T0 G a w Q' h1 h2 h3 h4 h5 h6 h7 => h B w0 G0 T0 G a w Q' h1 h2 h3 h4 h5 h6 fun ex fr S q => h7 ex fr S (hq ex fr S q)

theorem CodeH.skip {fr : Fr} {S : St} {Q : Post1} (h : Q .normal fr S) : CodeH c n0 m0 .skip fr S Q :=
  fun _ _ _ _ G a w _ h1 h2 h3 h4 h5 h6 h7 => wp_skip (h7 _ _ _ h G .normal a w trivial h3 h4 h5 (by rw [h1, h2]; exact h6))
theorem CodeH.label {l : Nat} {fr : Fr} {S : St} {Q : Post1} (h : Q .normal fr S) : CodeH c n0 m0 (.label l) fr S Q :=
  fun _ _ _ _ G a w _ h1 h2 h3 h4 h5 h6 h7 => wp_label (h7 _ _ _ h G .normal a w trivial h3 h4 h5 (by rw [h1, h2]; exact h6))
theorem CodeH.exit {l : Nat} {fr : Fr} {S : St} {Q : Post1} (h : Q (.exit l) fr S) : CodeH c n0 m0 (.exit l) fr S Q :=
  fun _ _ _ _ G a w _ h1 h2 h3 h4 h5 h6 h7 => wp_exit (h7 _ _ _ h G (.exit l) a w rfl h3 h4 h5 (by rw [h1, h2]; exact h6))
theorem CodeH.ret {fr : Fr} {S : St} {Q : Post1} (h : Q .ret fr S) : CodeH c n0 m0 .ret fr S Q :=
  fun _ _ _ _ G a w _ h1 h2 h3 h4 h5 h6 h7 => wp_ret (h7 _ _ _ h G .ret a w trivial h3 h4 h5 (by rw [h1, h2]; exact h6))

theorem CodeH.seq {x y : Code} {fr : Fr} {S : St} {Q : Post1} (h : CodeH c n0 m0 x fr S fun ex fr S => match ex with
    | .normal => CodeH c n0 m0 y fr S Q
    | ex => Q ex fr S) : CodeH c n0 m0 (.seq x y) fr S Q := by
  intro B w0 G0 T0 G a w Q' h1 h2 h3 h4 h5 h6 h7
  refine wp_seq (h B w0 G0 T0 G a w _ h1 h2 h3 h4 h5 h6 fun ex fr1 S1 hq G1 ex' a1 w1 hex i1 g1 f1 t1 => ?_)
  cases ex with
  | normal =>
    cases ex' <;> simp only [ExR] at hex
    exact hq B w0 G0 T0 G1 a1 w1 Q' h1 h2 i1 g1 f1 (by rw [← h1, ← h2]; exact t1) h7
  | _ =>
    cases ex' <;> simp only [ExR] at hex <;> exact h7 _ _ _ hq G1 _ a1 w1 hex i1 g1 f1 t1

theorem CodeH.cond {x : Operand} {p q : Code} {fr : Fr} {S : St} {Q : Post1} {t : Bool} (hx : (c.eval fr.env x).1 = .bool t)
    (h1 : t = true → CodeH c n0 m0 p fr S Q) (h2 : t = false → CodeH c n0 m0 q fr S Q) : CodeH c n0 m0 (.cond x p q) fr S Q := by
  intro B w0 G0 T0 G a w Q' k1 k2 k3 k4 k5 k6 k7
  have hr := (eval_sound k3 k5.env x).1
  rw [hx] at hr
  generalize hv : a.eval x = v at hr
  cases hr
  cases t with
  | true => exact wp_cond_true hv (h1 rfl B w0 G0 T0 G a w Q' k1 k2 k3 k4 k5 k6 k7)
  | false => exact wp_cond_false hv (h2 rfl B w0 G0 T0 G a w Q' k1 k2 k3 k4 k5 k6 k7)

theorem CodeH.block {id : Nat} {body : Code} {fr : Fr} {S : St} {Q : Post1} (h : CodeH c n0 m0 body fr S fun ex fr S => match ex with
    | .exit id' => if id' = id then Q .normal fr S else Q (.exit id') fr S
    | ex => Q ex fr S) : CodeH c n0 m0 (.block id body) fr S Q := by
  intro B w0 G0 T0 G a w Q' h1 h2 h3 h4 h5 h6 h7
  refine wp_block (h B w0 G0 T0 G a w _ h1 h2 h3 h4 h5 h6 fun ex fr1 S1 hq G1 ex' a1 w1 hex i1 g1 f1 t1 => ?_)
  cases ex with
  | exit i =>
    cases ex' <;> simp only [ExR] at hex
    subst hex
    simp only [Exit.inBlock]
    simp only at hq
    split at hq
    · rename_i hi; rw [if_pos hi]; exact h7 _ _ _ hq G1 .normal a1 w1 trivial i1 g1 f1 t1
    · rename_i hi; rw [if_neg hi]; exact h7 _ _ _ hq G1 _ a1 w1 rfl i1 g1 f1 t1
  | _ =>
    cases ex' <;> simp only [ExR] at hex <;> exact h7 _ _ _ hq G1 _ a1 w1 hex i1 g1 f1 t1

/-! ### forgetting -/
/-- y says no more than x -/
def Wk (x y : SV) : Prop := y = (.undef, .no) ∨ (y.1 = x.1 ∧ (y.2 = x.2 ∨ y.2 = .no))
theorem Wk.refl (x : SV) : Wk x x := .inr ⟨rfl, .inl rfl⟩
theorem RS.wk {G : Gh} {T : List Nat} {x y : SV} {v : Value} (h : RS G T x v) (k : Wk x y) : RS G T y v := by
  rcases k with rfl | ⟨h1, h2 | h2⟩
  · exact .no (.undef v)
  · obtain ⟨y1, y2⟩ := y
    simp only at h1 h2
    subst h1; subst h2
    exact h
  · obtain ⟨y1, y2⟩ := y
    simp only at h1 h2
    subst h1; subst h2
    exact .no h.1
inductive WkL : List SV → List SV → Prop
  | nil : WkL [] []
  | keep {x xs ys} (h : WkL xs ys) : WkL (x :: xs) (x :: ys)
  | drop {x xs ys} (h : WkL xs ys) : WkL (x :: xs) ((.undef, .no) :: ys)
  | plain {x t xs ys} (h : WkL xs ys) : WkL ((x, t) :: xs) ((x, .no) :: ys)
theorem WkL.refl : ∀ (xs : List SV), WkL xs xs
  | [] => .nil
  | _ :: xs => .keep (WkL.refl xs)
theorem WkL.len {xs ys : List SV} (h : WkL xs ys) : xs.length = ys.length := by induction h <;> simp_all
theorem WkL.at_ {xs ys : List SV} (h : WkL xs ys) : ∀ i (h1 : i < xs.length) (h2 : i < ys.length), Wk xs[i] ys[i] := by
  induction h with
  | nil => intro i h1; simp at h1
  | keep _ ih => intro i h1 h2; cases i with
    | zero => exact .refl _
    | succ i => simpa using ih i (by simpa using h1) (by simpa using h2)
  | drop _ ih => intro i h1 h2; cases i with
    | zero => exact .inl rfl
    | succ i => simpa using ih i (by simpa using h1) (by simpa using h2)
  | plain _ ih => intro i h1 h2; cases i with
    | zero => exact .inr ⟨rfl, .inr rfl⟩
    | succ i => simpa using ih i (by simpa using h1) (by simpa using h2)
theorem EnvR.wk {G : Gh} {T : List Nat} {env env' : Env} {a : Act} (h : EnvR G T env a) (k : WkL env env') : EnvR G T env' a :=
  ⟨by rw [← k.len]; exact h.len, fun i h1 h2 => (h.at_ i (by rw [k.len]; exact h1) h2).wk (k.at_ i _ h1)⟩

/-- this frame and state may be taken for those -/
def Wkn (c : Ctx) (n0 m0 : Nat) (fr : Fr) (S : St) (fr2 : Fr) (S2 : St) : Prop :=
  ∀ B w0 G0 T0 G a w, G0.φ.length = n0 → T0.length = m0 → Inv c B w0 G S w → Grows G0 T0 G S.T → FrR G S.T fr a → TagsLow n0 m0 S → ∃ G2, Inv c B w0 G2 S2 w ∧ Grows G0 T0 G2 S2.T ∧ FrR G2 S2.T fr2 a ∧ TagsLow n0 m0 S2
theorem Wkn.refl (fr : Fr) (S : St) : Wkn c n0 m0 fr S fr S := fun _ _ _ _ G _ _ _ _ h3 h4 h5 h6 => ⟨G, h3, h4, h5, h6⟩
theorem Wkn.trans {fr fr2 fr3 : Fr} {S S2 S3 : St} (h : Wkn c n0 m0 fr S fr2 S2) (k : Wkn c n0 m0 fr2 S2 fr3 S3) : Wkn c n0 m0 fr S fr3 S3 := by
  intro B w0 G0 T0 G a w h1 h2 h3 h4 h5 h6
  obtain ⟨G2, i3, i4, i5, i6⟩ := h B w0 G0 T0 G a w h1 h2 h3 h4 h5 h6
  exact k B w0 G0 T0 G2 a w h1 h2 i3 i4 i5 i6
theorem CodeH.wkn {k : Code} {fr fr2 : Fr} {S S2 : St} {Q : Post1} (hw : Wkn c n0 m0 fr S fr2 S2) (h : CodeH c n0 m0 k fr2 S2 Q) : CodeH c n0 m0 k fr S Q := by
  intro B w0 G0 T0 G a w Q' h1 h2 h3 h4 h5 h6 h7
  obtain ⟨G2, i3, i4, i5, i6⟩ := hw B w0 G0 T0 G a w h1 h2 h3 h4 h5 h6
  exact h B w0 G0 T0 G2 a w Q' h1 h2 i3 i4 i5 i6 h7
/-- the frame is known less well -/
theorem Wkn.frame {env env' : Env} {ds : List (FuncId × List SV)} {S : St} (hw : WkL env env') : Wkn c n0 m0 ⟨env, ds⟩ S ⟨env', ds⟩ S :=
  fun _ _ _ _ G _ _ _ _ h3 h4 h5 h6 => ⟨G, h3, h4, ⟨h5.env.wk hw, h5.ds⟩, h6⟩

/-- a block is known less well -/
theorem Inv.wkBlk {B : Bd} {w0 w : World} {G : Gh} {S : St} {b : Nat} {cells cells' : Blk} (inv : Inv c B w0 G S w) (hb : S.H[b]? = some cells) (hw : WkL cells cells') : Inv c B w0 G ⟨S.H.set b cells', S.T⟩ w := by
  have hlt : b < S.H.length := by
    rcases Nat.lt_or_ge b S.H.length with hl | hl
    · exact hl
    · rw [List.getElem?_eq_none hl] at hb; cases hb
  have get : ∀ (i : Nat) (cs : Blk), (S.H.set b cells')[i]? = some cs → (i = b ∧ cs = cells') ∨ S.H[i]? = some cs := by
    intro i cs h
    by_cases e : b = i
    · subst e; simp [hlt] at h; exact .inl ⟨rfl, h.symm⟩
    · rw [List.getElem?_set_ne e] at h; exact .inr h
  have wkm : ∀ x ∈ cells', x = (.undef, .no) ∨ ∃ y ∈ cells, x.1 = y.1 ∧ (x.2 = y.2 ∨ x.2 = .no) := by
    intro x hx
    obtain ⟨i, hi, rfl⟩ := List.getElem_of_mem hx
    have hi' : i < cells.length := by rw [hw.len]; exact hi
    rcases hw.at_ i hi' hi with h | ⟨h1, h2⟩
    · exact .inl h
    · exact .inr ⟨_, List.getElem_mem hi', h1, h2⟩
  exact {
    below := inv.below
    base := inv.base
    iD := inv.iD
    lenφ := by simp [inv.lenφ]
    lenO := inv.lenO
    inj := inv.inj
    low := fun i cs h x hx => by
      rcases get i cs h with ⟨rfl, rfl⟩ | h
      · rcases wkm x hx with rfl | ⟨y, hy, h1, _⟩
        · rfl
        · rw [h1]; exact inv.low _ _ hb y hy
      · exact inv.low i cs h x hx
    tag := fun i cs h x hx => by
      rcases get i cs h with ⟨rfl, rfl⟩ | h
      · rcases wkm x hx with rfl | ⟨y, hy, _, h2 | h2⟩
        · rfl
        · rw [h2]; exact inv.tag _ _ hb y hy
        · rw [h2]; rfl
      · exact inv.tag i cs h x hx
    blk := fun i d cs h hφ => by
      rcases get i cs h with ⟨rfl, rfl⟩ | h
      · obtain ⟨h1, vs, t, fr, h2, h3, h4, h5⟩ := inv.blk i d cells hb hφ
        refine ⟨h1, vs, t, fr, h2, by rw [← hw.len]; exact h3, fun o ho => h4 o (by rw [hw.len]; exact ho), fun j hj hj' => ?_⟩
        exact (h5 j (by rw [hw.len]; exact hj) hj').wk (hw.at_ j _ hj)
      · exact inv.blk i d cs h hφ
    imm := inv.imm
    own := inv.own
    dis := inv.dis
    ty := inv.ty
    glob := inv.glob
    know := inv.know }
theorem Wkn.blk {fr : Fr} {S : St} {b : Nat} {cells cells' : Blk} (hb : S.H[b]? = some cells) (hw : WkL cells cells') : Wkn c n0 m0 fr S fr ⟨S.H.set b cells', S.T⟩ :=
  fun _ _ _ _ G _ _ _ _ h3 h4 h5 h6 => ⟨G, h3.wkBlk hb hw, h4, h5, fun i cs hi hc x hx => by
    have hlt : b < S.H.length := by
      rcases Nat.lt_or_ge b S.H.length with hl | hl
      · exact hl
      · rw [List.getElem?_eq_none hl] at hb; cases hb
    by_cases e : b = i
    · subst e
      simp [hlt] at hc
      subst hc
      obtain ⟨j, hj, rfl⟩ := List.getElem_of_mem hx
      have hj' : j < cells.length := by rw [hw.len]; exact hj
      rcases hw.at_ j hj' hj with h | ⟨_, h2 | h2⟩
      · rw [h]; rfl
      · rw [h2]; exact h6 b cells hi hb _ (List.getElem_mem hj')
      · rw [h2]; rfl
    · rw [List.getElem?_set_ne e] at hc; exact h6 i cs hi hc x hx⟩

/-- blocks and tokens of the code's own are forgotten -/
theorem Wkn.cut {fr : Fr} {S : St} (n m : Nat) (hn : n0 ≤ n) (hm : m0 ≤ m) (hlow : ∀ x ∈ fr.env, x.1.low n = true ∧ x.2.low m = true) (hds : fr.ds = []) (ht : ∀ (b : Nat) (cells : Blk), n0 ≤ b → b < n → S.H[b]? = some cells → ∀ x ∈ cells, x.2.low m = true)
    : Wkn c n0 m0 fr S fr ⟨S.H.take n, S.T.take m⟩ := by
  intro B w0 G0 T0 G a w h1 h2 h3 h4 h5 h6
  have htl : TagsLow n m S := fun b cells hb hc x hx => by
    rcases Nat.lt_or_ge b n0 with hl | hl
    · exact Tag.low_mono hm (h6 b cells hl hc x hx)
    · exact ht b cells hl hb hc x hx
  refine ⟨G.cut n m, h3.cut htl, h4.cut (by omega) (by omega), ⟨⟨h5.env.len, fun i a1 a2 => ?_⟩, ?_⟩, fun b cells hb hc x hx => h6 b cells hb (take_some hc).2 x hx⟩
  · have hx := hlow _ (List.getElem_mem a1)
    exact (h5.env.at_ i a1 a2).cut hx.1 hx.2
  · have := h5.ds
    rw [hds] at this ⊢
    cases hd2 : a.defers with
    | nil => trivial
    | cons x xs => rw [hd2] at this; exact this.elim

/-- a slice without spare room gets a token -/
theorem Wkn.own {env : Env} {ds : List (FuncId × List SV)} {S : St} (i : Nat) {xs : List AV} (hi : env[i]? = some (.sl xs, .full)) : Wkn c n0 m0 ⟨env, ds⟩ S ⟨env.set i (.sl xs, .tok S.T.length), ds⟩ ⟨S.H, S.T ++ [xs.length]⟩ := by
  intro B w0 G0 T0 G a w h1 h2 h3 h4 h5 h6
  obtain ⟨hlt, hxe⟩ := List.getElem?_eq_some_iff.1 hi
  have hlt' : i < a.tmps.size := by rw [← h5.env.len]; exact hlt
  have hr := h5.env.at_ i hlt hlt'
  simp only at hr
  rw [hxe] at hr
  obtain ⟨base, hv⟩ : ∃ base, a.tmps[i] = .slice base xs.length xs.length := by
    have e1 := hr.1
    have e2 := hr.2.1
    generalize a.tmps[i] = v at e1 e2
    cases e1 with
    | nils b => exact ⟨b, rfl⟩
    | sl sz _ cc oo cap f hs hc hI hR h1c =>
      have := e2 _ _ _ rfl
      exact ⟨some ⟨cc, oo, none⟩, by rw [← this]⟩
  obtain ⟨i1, g1⟩ := h3.pushOwn ⟨base, xs.length, xs.length, headSz xs, false⟩ ⟨Nat.le_refl _, fun e => e⟩ (fun hl => absurd hl (Own.shut_live ⟨rfl, rfl⟩)) (fun j oj d o o' hj hl => absurd hl (Own.shut_live ⟨rfl, rfl⟩))
  refine ⟨_, i1, h4.trans g1, ⟨⟨by simp [h5.env.len], fun j a1 a2 => ?_⟩, h5.ds.mono g1.mono⟩, fun b cells hb hc x hx => h6 b cells hb hc x hx⟩
  simp only at a1 ⊢
  by_cases e : i = j
  · subst e
    simp only [List.getElem_set_self]
    rw [hv]
    refine ⟨(by rw [← hv]; exact hr.1.mono g1.mono), ⟨xs.length, ?_, Nat.le_refl _, fun _ b l cc hv' => ⟨⟨base, xs.length, xs.length, headSz xs, false⟩, ?_, ?_, (fun y ys hy => by cases hy; rfl), fun t y ys hy => by cases hy⟩, fun t y ys hy => by cases hy⟩, trivial⟩
    · rw [List.getElem?_append_right (by omega)]; simp
    · show (G.own ++ _)[S.T.length]? = _
      rw [← h3.lenO]; simp
    · rfl
  · rw [List.getElem_set_ne e]
    exact (h5.env.at_ j (by simpa using a1) a2).later g1.later

/-! ### loops -/
theorem rounds_more {P : Program} {body : Code} {Q : Exit → Act → World → Prop} : ∀ {n : Nat} {a : Act} {w : World}, Code.rounds P body Q n a w → Code.rounds P body Q (n + 1) a w := by
  intro n
  induction n with
  | zero => intro a w h; exact h.elim
  | succ n ih =>
    intro a w h
    rw [rounds_succ] at h ⊢
    refine wp_mono h fun e a w q => ?_
    cases e <;> first | exact ih q | exact q
theorem rounds_le {P : Program} {body : Code} {Q : Exit → Act → World → Prop} {n m : Nat} (h : n ≤ m) {a : Act} {w : World} (hr : Code.rounds P body Q n a w) : Code.rounds P body Q m a w := by
  induction h with
  | refl => exact hr
  | step _ ih => exact rounds_more ih
/-- A LOOP: what holds at each round's head, with a measure that falls -/
theorem CodeH.loop {body : Code} {Q : Post1} (I : Nat → Fr → St → Prop) (hstep : ∀ m fr S, I m fr S → CodeH c n0 m0 body fr S fun ex fr' S' => match ex with
      | .normal => ∃ m' fr2 S2, m' < m ∧ Wkn c n0 m0 fr' S' fr2 S2 ∧ I m' fr2 S2
      | ex => Q ex fr' S') {m : Nat} {fr : Fr} {S : St} (h0 : I m fr S) : CodeH c n0 m0 (.loop body) fr S Q := by
  have key : ∀ m fr S, I m fr S → ∀ B w0 G0 T0 G a w Q', G0.φ.length = n0 → T0.length = m0 → Inv c B w0 G S w → Grows G0 T0 G S.T → FrR G S.T fr a → TagsLow n0 m0 S → PostH c B w0 G0 T0 Q Q' → Code.rounds c.P body Q' (m + 1) a w := by
    intro m
    induction m using Nat.strongRecOn with
    | _ m ih =>
      intro fr S hI B w0 G0 T0 G a w Q' h1 h2 h3 h4 h5 h6 h7
      rw [rounds_succ]
      refine hstep m fr S hI B w0 G0 T0 G a w _ h1 h2 h3 h4 h5 h6 fun ex fr1 S1 hq G1 ex' a1 w1 hex i1 g1 f1 t1 => ?_
      cases ex with
      | normal =>
        cases ex' <;> simp only [ExR] at hex
        obtain ⟨m', fr2, S2, hlt, hw, hI2⟩ := hq
        obtain ⟨G2, j3, j4, j5, j6⟩ := hw B w0 G0 T0 G1 a1 w1 h1 h2 i1 g1 f1 (by rw [← h1, ← h2]; exact t1)
        exact rounds_le (by omega) (ih m' hlt fr2 S2 hI2 B w0 G0 T0 G2 a1 w1 Q' h1 h2 j3 j4 j5 j6 h7)
      | _ =>
        cases ex' <;> simp only [ExR] at hex <;> exact h7 _ _ _ hq G1 _ a1 w1 hex i1 g1 f1 t1
  intro B w0 G0 T0 G a w Q' h1 h2 h3 h4 h5 h6 h7
  exact wp_loop_rounds (m + 1) (key m fr S h0 B w0 G0 T0 G a w Q' h1 h2 h3 h4 h5 h6 h7)

/-! ### regions -/
theorem CodeH.region {e : Env0} (he : e.c = c) (hm : c.P.follows .mixedOrders = true) (hcall : CallSound c e.call) (htags : CallTags e.call) (hn : e.n0 = n0) {id : Nat} {ops : Array Oper} {draw : Bool} {fr : Fr} {S : St} {r : Ex × Fr × St} {Q : Post1}
    (h : e.region ops draw fr S = some r) (hq : Q r.1 r.2.1 r.2.2) : CodeH c n0 m0 (.region id ops draw) fr S Q := by
  intro B w0 G0 T0 G a w Q' h1 h2 h3 h4 h5 h6 h7
  have hlen : n0 ≤ S.H.length := by rw [← h1, ← h3.lenφ]; exact len_le_of h4.φ
  have hst := region_steps htags (hn ▸ hlen) h
  have hpost : Post c B w0 G S.T r Q' := fun G' ex' a' w' k1 k2 k3 k4 =>
    h7 _ _ _ hq G' ex' a' w' k1 k2 (h4.trans k3) k4 (by rw [h1, h2]; exact hst.tags _ _ (Nat.le_of_eq hn.symm) h6)
  cases draw with
  | false => exact region_sound he hcall h h3 h5 hpost
  | true =>
    simp only [Env0.region, if_true] at h
    exact draws_sound he hm hcall id ops fr S r a w G Q' h h3 h5 hpost
end
end Go.Ab
end
section
/- A CALL SEES ONLY WHAT IT IS HANDED: the state is cut to those blocks and tokens, and put together again. -/
namespace Go.Ab
open Go.RowKit

def AV.ren1 (r : Nat → Nat) : AV → AV
  | .ptr b o => .ptr (r b) o
  | .slr b o n => .slr (r b) o n
  | .bself t b => .bself t (r b)
  | x => x
def AV.ren (r : Nat → Nat) : AV → AV
  | .agg cs => .agg (cs.map (AV.ren1 r))
  | .tup cs => .tup (cs.map (AV.ren1 r))
  | .fn f a b => .fn f (a.map (AV.ren1 r)) (b.map (AV.ren1 r))
  | x => x.ren1 r
def Tag.ren1 (t : Nat → Nat) : Tag → Tag
  | .tok i => .tok (t i)
  | .full => .full
  | _ => .no
def Tag.ren (t : Nat → Nat) : Tag → Tag
  | .agg ts => .agg (ts.map (Tag.ren1 t))
  | x => x.ren1 t
def SV.ren (r t : Nat → Nat) (x : SV) : SV := (x.1.ren r, x.2.ren t)

/-- pointers lead to P; what lies deeper holds none -/
def AV.ok1 (P : Nat → Prop) : AV → Prop
  | .ptr b _ => P b
  | .slr b _ _ => P b
  | .bself _ b => P b
  | x => x.low 0 = true
def AV.ok (P : Nat → Prop) : AV → Prop
  | .agg cs => ∀ x ∈ cs, x.ok1 P
  | .tup cs => ∀ x ∈ cs, x.ok1 P
  | .fn _ a b => (∀ x ∈ a, x.ok1 P) ∧ (∀ x ∈ b, x.ok1 P)
  | x => x.ok1 P
def Tag.ok1 (P : Nat → Prop) : Tag → Prop
  | .tok i => P i
  | _ => True
def Tag.ok (P : Nat → Prop) : Tag → Prop
  | .agg ts => ∀ x ∈ ts, x.ok1 P
  | x => x.ok1 P

theorem R.low0 {G G' : Gh} {x : AV} {v : Value} (h : R G x v) (hl : x.low 0 = true) (hI : ∀ c o v, G.I c o = some v → G'.I c o = some v) (hY : ∀ d y, G.ty d = some y → G'.ty d = some y) : R G' x v := by
  have h1 : R (G.cut 0 0) x v := h.cut hl
  have hm : Mono (G.cut 0 0) G' := ⟨fun b c hb => by simp [Gh.cut] at hb, hI, hY⟩
  exact h1.mono hm
theorem AV.ren1_low0 {x : AV} {r : Nat → Nat} (hl : x.low 0 = true) : x.ren1 r = x := by
  cases x <;> first | rfl | (simp [AV.low] at hl)
theorem R.ren1 {G G' : Gh} {P : Nat → Prop} {r : Nat → Nat} (hφ : ∀ b c, P b → G.φ[b]? = some (some c) → G'.φ[r b]? = some (some c)) (hI : ∀ c o v, G.I c o = some v → G'.I c o = some v) (hY : ∀ d y, G.ty d = some y → G'.ty d = some y)
    {x : AV} {v : Value} (h : R G x v) (hx : x.ok1 P) : R G' (x.ren1 r) v := by
  cases x <;> first
    | (have hl : AV.low 0 _ = true := hx
       rw [AV.ren1_low0 hl]
       exact h.low0 hl hI hY)
    | skip
  · cases h with | ptr b o c hb => exact .ptr _ _ _ (hφ _ _ hx hb)
  · cases h with | slr b o n c cap hb hc => exact .slr _ _ _ _ _ (hφ _ _ hx hb) hc
  · cases h with
    | bself0 t b d hb ht => exact .bself0 _ _ d (hφ _ _ hx hb) (hY _ _ ht)
    | bself t b d hb ht => exact .bself _ _ d (hφ _ _ hx hb) (hY _ _ ht)
theorem R.ren {G G' : Gh} {P : Nat → Prop} {r : Nat → Nat} (hφ : ∀ b c, P b → G.φ[b]? = some (some c) → G'.φ[r b]? = some (some c)) (hI : ∀ c o v, G.I c o = some v → G'.I c o = some v) (hY : ∀ d y, G.ty d = some y → G'.ty d = some y)
    {x : AV} {v : Value} (h : R G x v) (hx : x.ok P) : R G' (x.ren r) v := by
  cases x <;> first
    | exact h.ren1 hφ hI hY hx
    | skip
  · cases h with
    | fn _ _ _ va vb ha hb hra hrb =>
      exact .fn _ _ _ va vb (by simpa using ha) (by simpa using hb) (fun i h1 h2 => by
        simp only [List.length_map] at h1
        simp only [List.getElem_map]
        exact (hra i h1 h2).ren1 hφ hI hY (hx.1 _ (List.getElem_mem h1))) (fun i h1 h2 => by
        simp only [List.length_map] at h1
        simp only [List.getElem_map]
        exact (hrb i h1 h2).ren1 hφ hI hY (hx.2 _ (List.getElem_mem h1)))
  · cases h with
    | agg cs vs hl hr =>
      exact .agg _ vs (by simpa using hl) fun i h1 h2 => by
        simp only [List.length_map] at h1
        simp only [List.getElem_map]
        exact (hr i h1 h2).ren1 hφ hI hY (hx _ (List.getElem_mem h1))
  · cases h with
    | tup cs vs hl hr =>
      exact .tup _ vs (by simpa using hl) fun i h1 h2 => by
        simp only [List.length_map] at h1
        simp only [List.getElem_map]
        exact (hr i h1 h2).ren1 hφ hI hY (hx _ (List.getElem_mem h1))

theorem ren1_len (r : Nat → Nat) (x : AV) : (x.ren1 r).len = x.len := by cases x <;> rfl
theorem ren_len (r : Nat → Nat) (x : AV) : (x.ren r).len = x.len := by cases x <;> rfl
theorem ren1_sl {r : Nat → Nat} {x : AV} {ys : List AV} (h : x.ren1 r = .sl ys) : x = .sl ys := by
  cases x <;> first | exact h | (simp [AV.ren1] at h)
theorem ren_sl {r : Nat → Nat} {x : AV} {ys : List AV} (h : x.ren r = .sl ys) : x = .sl ys := by
  cases x <;> first | exact h | (simp [AV.ren, AV.ren1] at h)

theorem ren1_buf {r : Nat → Nat} {x : AV} {t : TypeId} {s : List UInt8} (h : x.ren1 r = .buf t s) : x = .buf t s := by
  cases x <;> first | exact h | (simp [AV.ren1] at h)
theorem ren_buf {r : Nat → Nat} {x : AV} {t : TypeId} {s : List UInt8} (h : x.ren r = .buf t s) : x = .buf t s := by
  cases x <;> first | exact h | (simp [AV.ren, AV.ren1] at h)
theorem ren1_bptr {r : Nat → Nat} {x : AV} {t : TypeId} {s : List UInt8} (h : x.ren1 r = .bptr t s) : x = .bptr t s := by
  cases x <;> first | exact h | (simp [AV.ren1] at h)
theorem ren_bptr {r : Nat → Nat} {x : AV} {t : TypeId} {s : List UInt8} (h : x.ren r = .bptr t s) : x = .bptr t s := by
  cases x <;> first | exact h | (simp [AV.ren, AV.ren1] at h)
/-- tokens under new numbers -/
theorem RT1.ren {G G' : Gh} {T T' : List Nat} {P : Nat → Prop} {t : Nat → Nat} (hT : ∀ i, P i → T'[t i]? = T[i]? ∧ G'.own[t i]? = G.own[i]?) {x x' : AV} (hl : x'.len = x.len) (hs : ∀ ys, x' = .sl ys → x = .sl ys) (hs2 : ∀ t ys, x' = .buf t ys → x = .buf t ys) (hs3 : ∀ t ys, x' = .bptr t ys → x = .bptr t ys) {tg : Tag} {v : Value}
    (h : RT1 G T x tg v) (ht : tg.ok1 P) : RT1 G' T' x' (tg.ren1 t) v := by
  cases tg with
  | no => trivial
  | full => exact h
  | agg _ => trivial
  | tok i =>
    obtain ⟨n, h1, h2, h3, h4⟩ := h
    obtain ⟨e1, e2⟩ := hT i ht
    refine ⟨n, by rw [e1]; exact h1, by rw [hl]; exact h2, fun e b l cc hv => ?_, fun t y ys hy e => by
      obtain ⟨ow, k1, k2⟩ := h4 t y ys (hs3 _ _ hy) (by rw [← hl]; exact e)
      exact ⟨ow, by rw [e2]; exact k1, k2⟩⟩
    obtain ⟨ow, k1, k2, k3⟩ := h3 (by rw [← hl]; exact e) b l cc hv
    exact ⟨ow, by rw [e2]; exact k1, k2, (fun y ys hy => k3.1 y ys (hs _ hy)), fun t y ys hy => k3.2 t y ys (hs2 _ _ hy)⟩
theorem RS.ren {G G' : Gh} {T T' : List Nat} {P Pt : Nat → Prop} {r t : Nat → Nat} (hφ : ∀ b c, P b → G.φ[b]? = some (some c) → G'.φ[r b]? = some (some c)) (hI : ∀ c o v, G.I c o = some v → G'.I c o = some v) (hY : ∀ d y, G.ty d = some y → G'.ty d = some y)
    (hT : ∀ i, Pt i → T'[t i]? = T[i]? ∧ G'.own[t i]? = G.own[i]?) {x : SV} {v : Value} (h : RS G T x v) (hx : x.1.ok P) (ht : x.2.ok Pt) : RS G' T' (x.ren r t) v := by
  have hR := h.1.ren hφ hI hY hx
  have h1 := h.2.1
  have h2 := h.2.2
  clear h
  obtain ⟨x, tg⟩ := x
  simp only at h1 h2 hx ht hR
  cases tg with
  | agg ts =>
    have getD : ∀ i, (ts.map (Tag.ren1 t)).getD i .no = (ts.getD i .no).ren1 t := fun i => by
      simp only [List.getD_eq_getElem?_getD, List.getElem?_map]
      cases ts[i]? <;> rfl
    have okD : ∀ i, (ts.getD i .no).ok1 Pt := fun i => by
      rcases Nat.lt_or_ge i ts.length with hi | hi
      · have e : ts.getD i .no = ts[i] := by simp [List.getD, List.getElem?_eq_getElem hi]
        rw [e]; exact ht _ (List.getElem_mem hi)
      · have e : ts.getD i .no = .no := by simp [List.getD, List.getElem?_eq_none hi]
        rw [e]; trivial
    refine ⟨hR, trivial, ?_⟩
    cases x with
    | agg cs =>
      cases v with
      | agg vs =>
        intro i a1 a2
        simp only [List.length_map] at a1
        simp only [List.getElem_map, getD]
        exact RT1.ren hT (ren1_len r _) (fun ys e => ren1_sl e) (fun t ys e => ren1_buf e) (fun t ys e => ren1_bptr e) (h2 i a1 a2) (okD i)
      | _ => exact True.intro
    | tup cs =>
      cases v with
      | tuple vs =>
        intro i a1 a2
        simp only [List.length_map] at a1
        simp only [List.getElem_map, getD]
        exact RT1.ren hT (ren1_len r _) (fun ys e => ren1_sl e) (fun t ys e => ren1_buf e) (fun t ys e => ren1_bptr e) (h2 i a1 a2) (okD i)
      | _ => exact True.intro
    | _ => exact True.intro
  | no => exact ⟨hR, RT.no⟩
  | full => exact ⟨hR, RT.flat (t := .full) h1⟩
  | tok i => exact ⟨hR, RT.flat (t := .tok (t i)) (RT1.ren hT (ren_len r x) (fun ys e => ren_sl e) (fun t ys e => ren_buf e) (fun t ys e => ren_bptr e) h1 ht)⟩

/-! ### putting together -/
/-- the members of some places are replaced -/
def mergeFrom {α : Type} (ps : List Nat) (new : List α) : Nat → List α → List α
  | _, [] => []
  | b, x :: xs => (if ps.contains b then new.getD (ps.idxOf b) x else x) :: mergeFrom ps new (b + 1) xs
theorem mergeFrom_at {α : Type} (ps : List Nat) (new : List α) : ∀ (l : List α) (b i : Nat), (mergeFrom ps new b l)[i]? = (l[i]?).map fun x => if ps.contains (b + i) then new.getD (ps.idxOf (b + i)) x else x := by
  intro l
  induction l with
  | nil => intro b i; simp [mergeFrom]
  | cons x xs ih =>
    intro b i
    cases i with
    | zero => simp [mergeFrom]
    | succ i =>
      simp only [mergeFrom, List.getElem?_cons_succ]
      rw [ih (b + 1) i, show b + 1 + i = b + (i + 1) by omega]
theorem mergeFrom_len {α : Type} (ps : List Nat) (new : List α) : ∀ (l : List α) (b : Nat), (mergeFrom ps new b l).length = l.length := by
  intro l
  induction l with
  | nil => intro b; rfl
  | cons x xs ih => intro b; simp [mergeFrom, ih]
/-- how a call's numbers become the caller's -/
def upN (ps : List Nat) (n i : Nat) : Nat := if i < ps.length then ps.getD i 0 else n + (i - ps.length)
def mergeAll {α : Type} (ps : List Nat) (new old : List α) : List α := mergeFrom ps new 0 old ++ new.drop ps.length

structure Picks (ps : List Nat) (n : Nat) : Prop where
  lt : ∀ p ∈ ps, p < n
  inc : ∀ i j (hi : i < ps.length) (hj : j < ps.length), i < j → ps[i] < ps[j]
theorem Picks.idx {ps : List Nat} {n : Nat} (h : Picks ps n) {i : Nat} (hi : i < ps.length) : ps.idxOf ps[i] = i := by
  have hm : ps[i] ∈ ps := List.getElem_mem hi
  have h1 := List.idxOf_lt_length_of_mem hm
  have h2 : ps[ps.idxOf ps[i]] = ps[i] := List.getElem_idxOf h1
  rcases Nat.lt_trichotomy (ps.idxOf ps[i]) i with hl | hl | hl
  · have := h.inc _ _ h1 hi hl; omega
  · exact hl
  · have := h.inc _ _ hi h1 hl; omega
theorem upN_lt {ps : List Nat} {n i : Nat} (hi : i < ps.length) : upN ps n i = ps[i] := by
  simp [upN, hi]
theorem upN_ge {ps : List Nat} {n i : Nat} (hi : ps.length ≤ i) : upN ps n i = n + (i - ps.length) := by
  simp [upN, Nat.not_lt.2 hi]
/-- what stands at a place behind -/
theorem mergeAll_at {α : Type} {ps : List Nat} {old new : List α} (h : Picks ps old.length) (hn : ps.length ≤ new.length) (b : Nat) :
    (∃ i, ∃ hi : i < new.length, b = upN ps old.length i ∧ (mergeAll ps new old)[b]? = some new[i]) ∨ (b ∉ ps ∧ b < old.length ∧ (mergeAll ps new old)[b]? = old[b]?) ∨ (mergeAll ps new old)[b]? = none := by
  unfold mergeAll
  rcases Nat.lt_or_ge b old.length with hb | hb
  · rw [List.getElem?_append_left (by rw [mergeFrom_len]; exact hb), mergeFrom_at, Nat.zero_add, List.getElem?_eq_getElem hb, Option.map_some]
    by_cases hm : b ∈ ps
    · have hlt := List.idxOf_lt_length_of_mem hm
      have he : ps[ps.idxOf b] = b := List.getElem_idxOf hlt
      refine .inl ⟨ps.idxOf b, by omega, by rw [upN_lt hlt]; exact he.symm, ?_⟩
      rw [if_pos (by simpa using hm)]
      simp [List.getD, List.getElem?_eq_getElem (show ps.idxOf b < new.length by omega)]
    · exact .inr (.inl ⟨hm, hb, by rw [if_neg (by simpa using hm)]⟩)
  · rw [List.getElem?_append_right (by rw [mergeFrom_len]; exact hb), mergeFrom_len, List.getElem?_drop]
    rcases Nat.lt_or_ge (ps.length + (b - old.length)) new.length with hl | hl
    · exact .inl ⟨_, hl, by rw [upN_ge (by omega)]; omega, List.getElem?_eq_getElem hl⟩
    · exact .inr (.inr (List.getElem?_eq_none hl))
theorem mergeAll_up {α : Type} {ps : List Nat} {old new : List α} (h : Picks ps old.length) {i : Nat} (hi : i < new.length) (hn : ps.length ≤ new.length) : (mergeAll ps new old)[upN ps old.length i]? = some new[i] := by
  unfold mergeAll
  rcases Nat.lt_or_ge i ps.length with hl | hl
  · have hb := h.lt _ (List.getElem_mem hl)
    rw [upN_lt hl, List.getElem?_append_left (by rw [mergeFrom_len]; exact hb), mergeFrom_at, Nat.zero_add, List.getElem?_eq_getElem hb, Option.map_some, if_pos (by simp), h.idx hl]
    simp [List.getD, List.getElem?_eq_getElem hi]
  · rw [upN_ge hl, List.getElem?_append_right (by rw [mergeFrom_len]; omega), mergeFrom_len, List.getElem?_drop, show ps.length + (old.length + (i - ps.length) - old.length) = i by omega]
    exact List.getElem?_eq_getElem hi
theorem mergeAll_len {α : Type} {ps : List Nat} {old new : List α} (hn : ps.length ≤ new.length) : (mergeAll ps new old).length = old.length + (new.length - ps.length) := by
  simp [mergeAll, mergeFrom_len]
theorem upN_inj {ps : List Nat} {n i j : Nat} (h : Picks ps n) (e : upN ps n i = upN ps n j) : i = j := by
  rcases Nat.lt_or_ge i ps.length with hi | hi <;> rcases Nat.lt_or_ge j ps.length with hj | hj
  · rw [upN_lt hi, upN_lt hj] at e
    rcases Nat.lt_trichotomy i j with hl | hl | hl
    · have := h.inc _ _ hi hj hl; omega
    · exact hl
    · have := h.inc _ _ hj hi hl; omega
  · rw [upN_lt hi, upN_ge hj] at e; have := h.lt _ (List.getElem_mem hi); omega
  · rw [upN_ge hi, upN_lt hj] at e; have := h.lt _ (List.getElem_mem hj); omega
  · rw [upN_ge hi, upN_ge hj] at e; omega
theorem upN_mono {ps : List Nat} {n i j : Nat} (h : Picks ps n) (e : i < j) : upN ps n i < upN ps n j := by
  rcases Nat.lt_or_ge i ps.length with hi | hi <;> rcases Nat.lt_or_ge j ps.length with hj | hj
  · rw [upN_lt hi, upN_lt hj]; exact h.inc _ _ hi hj e
  · rw [upN_lt hi, upN_ge hj]; have := h.lt _ (List.getElem_mem hi); omega
  · omega
  · rw [upN_ge hi, upN_ge hj]; omega
end Go.Ab
end
section
/- THE STATE THAT A CALL IS HANDED, AND THE CALLER'S BEHIND IT. -/
namespace Go.Ab
open Go.RowKit

theorem low1_ren {P : Nat → Prop} {r : Nat → Nat} {n n' : Nat} (hr : ∀ b, P b → b < n → r b < n') {x : AV} (hx : x.ok1 P) (hl : x.low n = true) : (x.ren1 r).low n' = true := by
  cases x <;> first
    | (have h0 : AV.low 0 _ = true := hx
       rw [AV.ren1_low0 h0]
       exact AV.low_mono (Nat.zero_le _) h0)
    | skip
  · simp only [AV.low, decide_eq_true_eq, AV.ren1] at hl ⊢; exact hr _ hx hl
  · simp only [AV.low, decide_eq_true_eq, AV.ren1] at hl ⊢; exact hr _ hx hl
  · simp only [AV.low, decide_eq_true_eq, AV.ren1] at hl ⊢; exact hr _ hx hl
theorem scalar_cases (x : AV) : (∃ f a b, x = .fn f a b) ∨ (∃ cs, x = .agg cs) ∨ (∃ cs, x = .tup cs) ∨ ((∀ P, x.ok P = x.ok1 P) ∧ ∀ r, x.ren r = x.ren1 r) := by
  cases x with
  | fn f a b => exact .inl ⟨f, a, b, rfl⟩
  | agg cs => exact .inr (.inl ⟨cs, rfl⟩)
  | tup cs => exact .inr (.inr (.inl ⟨cs, rfl⟩))
  | _ => exact .inr (.inr (.inr ⟨fun _ => rfl, fun _ => rfl⟩))
theorem low_ren {P : Nat → Prop} {r : Nat → Nat} {n n' : Nat} (hr : ∀ b, P b → b < n → r b < n') {x : AV} (hx : x.ok P) (hl : x.low n = true) : (x.ren r).low n' = true := by
  rcases scalar_cases x with ⟨f, a, b, rfl⟩ | ⟨cs, rfl⟩ | ⟨cs, rfl⟩ | ⟨h1, h2⟩
  · simp only [AV.low, AV.ren, Bool.and_eq_true, lows_iff] at hl ⊢
    refine ⟨fun y hy => ?_, fun y hy => ?_⟩
    · obtain ⟨z, hz, rfl⟩ := List.mem_map.1 hy; exact low1_ren hr (hx.1 z hz) (hl.1 z hz)
    · obtain ⟨z, hz, rfl⟩ := List.mem_map.1 hy; exact low1_ren hr (hx.2 z hz) (hl.2 z hz)
  · simp only [AV.low, AV.ren, lows_iff] at hl ⊢
    intro y hy
    obtain ⟨z, hz, rfl⟩ := List.mem_map.1 hy; exact low1_ren hr (hx z hz) (hl z hz)
  · simp only [AV.low, AV.ren, lows_iff] at hl ⊢
    intro y hy
    obtain ⟨z, hz, rfl⟩ := List.mem_map.1 hy; exact low1_ren hr (hx z hz) (hl z hz)
  · rw [h2]
    rw [h1] at hx
    exact low1_ren hr hx hl
theorem tagLow1_ren {P : Nat → Prop} {t : Nat → Nat} {m m' : Nat} (ht : ∀ i, P i → i < m → t i < m') {tg : Tag} (hx : tg.ok1 P) (hl : tg.low1 m = true) : (tg.ren1 t).low1 m' = true := by
  cases tg with
  | tok i => simp only [Tag.low1, decide_eq_true_eq, Tag.ren1] at hl ⊢; exact ht i hx hl
  | _ => rfl
theorem tagLow_ren {P : Nat → Prop} {t : Nat → Nat} {m m' : Nat} (ht : ∀ i, P i → i < m → t i < m') {tg : Tag} (hx : tg.ok P) (hl : tg.low m = true) : (tg.ren t).low m' = true := by
  cases tg with
  | tok i => exact tagLow1_ren (tg := .tok i) ht hx hl
  | agg ts =>
    simp only [Tag.low, Tag.ren, List.all_eq_true] at hl ⊢
    intro y hy
    obtain ⟨z, hz, rfl⟩ := List.mem_map.1 hy
    exact tagLow1_ren ht (hx z hz) (hl z hz)
  | _ => rfl

def noOwn : Own := ⟨none, 0, 0, 0, false⟩
section
variable {c : Ctx} {B : Bd} {w0 : World} {G : Gh} {S : St} {w : World}

def Gh.pick (G : Gh) (ps ts : List Nat) : Gh := ⟨ps.map (fun p => G.φ.getD p none), G.I, ts.map (fun t => G.own.getD t noOwn), G.ty⟩
/-- what a call that is handed these may not touch -/
def bdOf (G : Gh) (w : World) (ps ts : List Nat) : Bd :=
  ⟨fun d => d < w.heap.size ∧ (∀ p ∈ ps, G.φ[p]? ≠ some (some d)) ∧ (∀ t ∈ ts, ∀ ow o, G.own[t]? = some ow → ow.live → ow.base ≠ some ⟨d, o, none⟩), G.I⟩
def downBlk (ps ts : List Nat) (cells : Blk) : Blk := cells.map (SV.ren (ps.idxOf ·) (ts.idxOf ·))
def St.pick (S : St) (ps ts : List Nat) : St := ⟨ps.map (fun p => downBlk ps ts (S.H.getD p [])), ts.map (fun t => S.T.getD t 0)⟩

theorem getD_some {α : Type} {l : List α} {i : Nat} {d x : α} (h : l[i]? = some x) : l.getD i d = x := by simp [List.getD, h]
theorem pick_φ {ps ts : List Nat} {n : Nat} (hP : Picks ps n) (hn : n = G.φ.length) {i d : Nat} : (G.pick ps ts).φ[i]? = some (some d) ↔ ∃ hi : i < ps.length, G.φ[ps[i]]? = some (some d) := by
  simp only [Gh.pick, List.getElem?_map]
  constructor
  · intro h
    obtain ⟨p, hp, he⟩ := Option.map_eq_some_iff.1 h
    obtain ⟨hi, rfl⟩ := List.getElem?_eq_some_iff.1 hp
    refine ⟨hi, ?_⟩
    have hlt : ps[i] < G.φ.length := by rw [← hn]; exact hP.lt _ (List.getElem_mem hi)
    rw [List.getElem?_eq_getElem hlt]
    simp only [List.getD, List.getElem?_eq_getElem hlt, Option.getD_some] at he
    rw [he]
  · rintro ⟨hi, h⟩
    rw [List.getElem?_eq_getElem hi, Option.map_some, getD_some h]
theorem pick_own {ps ts : List Nat} {n : Nat} (hT : Picks ts n) (hn : n = G.own.length) {i : Nat} {ow : Own} : (G.pick ps ts).own[i]? = some ow ↔ ∃ hi : i < ts.length, G.own[ts[i]]? = some ow := by
  simp only [Gh.pick, List.getElem?_map]
  constructor
  · intro h
    obtain ⟨p, hp, he⟩ := Option.map_eq_some_iff.1 h
    obtain ⟨hi, rfl⟩ := List.getElem?_eq_some_iff.1 hp
    refine ⟨hi, ?_⟩
    have hlt : ts[i] < G.own.length := by rw [← hn]; exact hT.lt _ (List.getElem_mem hi)
    rw [List.getElem?_eq_getElem hlt]
    simp only [List.getD, List.getElem?_eq_getElem hlt, Option.getD_some] at he
    rw [he]
  · rintro ⟨hi, h⟩
    rw [List.getElem?_eq_getElem hi, Option.map_some, getD_some h]
theorem pick_H {ps ts : List Nat} (hP : Picks ps S.H.length) {i : Nat} {cells : Blk} (h : (S.pick ps ts).H[i]? = some cells) : ∃ hi : i < ps.length, ∃ cs, S.H[ps[i]]? = some cs ∧ cells = downBlk ps ts cs := by
  simp only [St.pick, List.getElem?_map] at h
  obtain ⟨p, hp, he⟩ := Option.map_eq_some_iff.1 h
  obtain ⟨hi, rfl⟩ := List.getElem?_eq_some_iff.1 hp
  have hlt := hP.lt _ (List.getElem_mem hi)
  refine ⟨hi, S.H[ps[i]], List.getElem?_eq_getElem hlt, ?_⟩
  rw [← he, getD_some (List.getElem?_eq_getElem hlt)]
theorem mem_idx {ps : List Nat} {b : Nat} (h : b ∈ ps) : ∃ hi : ps.idxOf b < ps.length, ps[ps.idxOf b] = b := ⟨List.idxOf_lt_length_of_mem h, List.getElem_idxOf _⟩

/-- what holds of a value holds of it in the call's state -/
theorem RS.down (inv : Inv c B w0 G S w) {ps ts : List Nat} (hP : Picks ps S.H.length) (hT : Picks ts S.T.length) {x : SV} {v : Value} (h : RS G S.T x v) (hx : x.1.ok (· ∈ ps)) (ht : x.2.ok (· ∈ ts)) :
    RS (G.pick ps ts) (S.pick ps ts).T (x.ren (ps.idxOf ·) (ts.idxOf ·)) v := by
  refine RS.ren (G := G) (T := S.T) (G' := G.pick ps ts) (T' := (S.pick ps ts).T) (P := (· ∈ ps)) (Pt := (· ∈ ts)) (r := (ps.idxOf ·)) (t := (ts.idxOf ·)) (fun b d hb hd => ?_) (fun _ _ _ hv => hv) (fun _ _ hv => hv) (fun i hi => ?_) h hx ht
  · obtain ⟨hlt, he⟩ := mem_idx hb
    exact (pick_φ hP inv.lenφ.symm).2 ⟨hlt, by rw [he]; exact hd⟩
  · obtain ⟨hlt, he⟩ := mem_idx hi
    have hlt2 := hT.lt _ hi
    refine ⟨?_, ?_⟩
    · simp only [St.pick, List.getElem?_map]
      rw [List.getElem?_eq_getElem hlt, Option.map_some, he, List.getElem?_eq_getElem hlt2, getD_some (List.getElem?_eq_getElem hlt2)]
    · have hlt3 : i < G.own.length := by rw [inv.lenO]; exact hlt2
      rw [List.getElem?_eq_getElem hlt3]
      exact (pick_own hT inv.lenO.symm).2 ⟨hlt, by rw [he]; exact List.getElem?_eq_getElem hlt3⟩

/-- THE STATE THAT A CALL IS HANDED -/
theorem Inv.down (inv : Inv c B w0 G S w) {ps ts : List Nat} (hP : Picks ps S.H.length) (hT : Picks ts S.T.length)
    (hcells : ∀ p ∈ ps, ∀ cells, S.H[p]? = some cells → ∀ x ∈ cells, x.1.ok (· ∈ ps) ∧ x.2.ok (· ∈ ts)) : Inv c (bdOf G w ps ts) w (G.pick ps ts) (S.pick ps ts) w where
  below := .refl _ _
  base := fun d hd h => Nat.lt_irrefl d (Nat.lt_of_lt_of_le h.1 hd)
  iD := fun _ _ _ => rfl
  lenφ := by simp [Gh.pick, St.pick]
  lenO := by simp [Gh.pick, St.pick]
  inj := fun i j d hi hj => by
    obtain ⟨h1, h2⟩ := (pick_φ hP inv.lenφ.symm).1 hi
    obtain ⟨h3, h4⟩ := (pick_φ hP inv.lenφ.symm).1 hj
    have := inv.inj _ _ d h2 h4
    rw [← hP.idx h1, ← hP.idx h3, this]
  low := fun b cells h x hx => by
    obtain ⟨hb, cs, hcs, rfl⟩ := pick_H hP h
    obtain ⟨y, hy, rfl⟩ := List.mem_map.1 hx
    refine low_ren (fun b' hb' hlt => ?_) (hcells _ (List.getElem_mem hb) cs hcs y hy).1 (inv.low _ _ hcs y hy)
    obtain ⟨h1, h2⟩ := mem_idx hb'
    rcases Nat.lt_or_ge b (ps.idxOf b') with hl | hl
    · have := hP.inc _ _ hb h1 hl; omega
    · omega
  tag := fun b cells h x hx => by
    obtain ⟨hb, cs, hcs, rfl⟩ := pick_H hP h
    obtain ⟨y, hy, rfl⟩ := List.mem_map.1 hx
    refine tagLow_ren (fun i hi _ => ?_) (hcells _ (List.getElem_mem hb) cs hcs y hy).2 (inv.tag _ _ hcs y hy)
    obtain ⟨h1, _⟩ := mem_idx hi
    simpa [St.pick] using h1
  blk := fun b d cells h hφ => by
    obtain ⟨hb, cs, hcs, rfl⟩ := pick_H hP h
    obtain ⟨_, h2⟩ := (pick_φ hP inv.lenφ.symm).1 hφ
    obtain ⟨h3, vs, t, fr, h4, h5, h6, h7⟩ := inv.blk _ d cs hcs h2
    refine ⟨fun hD => hD.2.1 _ (List.getElem_mem hb) h2, vs, t, fr, h4, by simpa [downBlk] using h5, by simpa [downBlk] using h6, fun i hi hi' => ?_⟩
    simp only [downBlk, List.length_map] at hi
    simp only [downBlk, List.getElem_map]
    have hok := hcells _ (List.getElem_mem hb) cs hcs _ (List.getElem_mem hi)
    exact RS.down inv hP hT (h7 i hi hi') hok.1 hok.2
  imm := fun d o v h => by
    obtain ⟨h1, h2⟩ := inv.imm d o v h
    exact ⟨h1, fun b hb => by obtain ⟨_, h3⟩ := (pick_φ hP inv.lenφ.symm).1 hb; exact h2 _ h3⟩
  own := fun id ow h => by
    obtain ⟨hid, h1⟩ := (pick_own hT inv.lenO.symm).1 h
    obtain ⟨h2, h3, h4⟩ := inv.own _ ow h1
    refine ⟨?_, h3, fun hlt => ?_⟩
    · simp only [St.pick, List.getElem?_map]
      rw [List.getElem?_eq_getElem hid, Option.map_some, getD_some h2]
    · obtain ⟨d, o, k1, k2, k3, vs, t, fr, k4, k5, k6⟩ := h4 hlt
      exact ⟨d, o, k1, fun hD => hD.2.2 _ (List.getElem_mem hid) ow o h1 hlt k1, fun b hb => by obtain ⟨_, h3⟩ := (pick_φ hP inv.lenφ.symm).1 hb; exact k3 _ h3, vs, t, fr, k4, k5, k6⟩
  dis := fun i j oi oj d o o' hne hi hj li lj hb => by
    obtain ⟨h1, h2⟩ := (pick_own hT inv.lenO.symm).1 hi
    obtain ⟨h3, h4⟩ := (pick_own hT inv.lenO.symm).1 hj
    refine inv.dis _ _ oi oj d o o' (fun e => hne ?_) h2 h4 li lj hb
    rw [← hT.idx h1, ← hT.idx h3, e]
  ty := inv.ty
  glob := fun g cs h => ⟨(inv.glob g cs h).1.low0 (inv.glob g cs h).2 (fun _ _ _ hv => hv) (fun _ _ hv => hv), (inv.glob g cs h).2⟩
  know := inv.know

/-! ### behind the call -/
variable {ps ts : List Nat} {G0' : Gh} {S0' : St} {w' : World}
def Gh.merge (G : Gh) (ps ts : List Nat) (G0' : Gh) : Gh := ⟨G.φ ++ G0'.φ.drop ps.length, G0'.I, mergeAll ts G0'.own G.own, G0'.ty⟩
def upBlk (ps ts : List Nat) (n m : Nat) (cells : Blk) : Blk := cells.map (SV.ren (upN ps n) (upN ts m))
def St.merge (S : St) (ps ts : List Nat) (S0' : St) : St := ⟨mergeAll ps (S0'.H.map (upBlk ps ts S.H.length S.T.length)) S.H, mergeAll ts S0'.T S.T⟩

theorem merge_φ_up (inv : Inv c B w0 G S w) (hP : Picks ps S.H.length) (g : Grows (G.pick ps ts) (S.pick ps ts).T G0' S0'.T) {b d : Nat} (h : G0'.φ[b]? = some (some d)) : (G.merge ps ts G0').φ[upN ps S.H.length b]? = some (some d) := by
  simp only [Gh.merge]
  rcases Nat.lt_or_ge b ps.length with hb | hb
  · rw [g.φ b (by simpa [Gh.pick] using hb)] at h
    obtain ⟨hb', h2⟩ := (pick_φ hP inv.lenφ.symm).1 h
    rw [upN_lt hb, List.getElem?_append_left (by rw [inv.lenφ]; exact hP.lt _ (List.getElem_mem hb))]
    exact h2
  · rw [upN_ge hb, List.getElem?_append_right (by rw [inv.lenφ]; omega), inv.lenφ, List.getElem?_drop, show ps.length + (S.H.length + (b - ps.length) - S.H.length) = b by omega]
    exact h
theorem merge_φ (inv : Inv c B w0 G S w) (hP : Picks ps S.H.length) (g : Grows (G.pick ps ts) (S.pick ps ts).T G0' S0'.T) (hl : ps.length ≤ G0'.φ.length) {b d : Nat} (h : (G.merge ps ts G0').φ[b]? = some (some d)) :
    (∃ i, b = upN ps S.H.length i ∧ G0'.φ[i]? = some (some d)) ∨ (b ∉ ps ∧ b < S.H.length ∧ G.φ[b]? = some (some d)) := by
  simp only [Gh.merge] at h
  rcases Nat.lt_or_ge b S.H.length with hb | hb
  · rw [List.getElem?_append_left (by rw [inv.lenφ]; exact hb)] at h
    by_cases hm : b ∈ ps
    · obtain ⟨h1, h2⟩ := mem_idx hm
      refine .inl ⟨ps.idxOf b, by rw [upN_lt h1]; exact h2.symm, ?_⟩
      rw [g.φ _ (by simpa [Gh.pick] using h1)]
      exact (pick_φ hP inv.lenφ.symm).2 ⟨h1, by rw [h2]; exact h⟩
    · exact .inr ⟨hm, hb, h⟩
  · rw [List.getElem?_append_right (by rw [inv.lenφ]; exact hb), inv.lenφ, List.getElem?_drop] at h
    exact .inl ⟨_, by rw [upN_ge (by omega)]; omega, h⟩

theorem RS.up (inv : Inv c B w0 G S w) (hP : Picks ps S.H.length) (hT : Picks ts S.T.length) (i0 : Inv c (bdOf G w ps ts) w G0' S0' w') (g : Grows (G.pick ps ts) (S.pick ps ts).T G0' S0'.T) {x : SV} {v : Value} (h : RS G0' S0'.T x v) (hx : x.1.ok fun _ => True)
    (ht : x.2.ok (· < S0'.T.length)) : RS (G.merge ps ts G0') (S.merge ps ts S0').T (x.ren (upN ps S.H.length) (upN ts S.T.length)) v := by
  have hlT : ts.length ≤ S0'.T.length := by have := g.len_T; simpa [St.pick] using this
  refine RS.ren (G := G0') (T := S0'.T) (G' := G.merge ps ts G0') (T' := (S.merge ps ts S0').T) (P := fun _ => True) (Pt := (· < S0'.T.length)) (r := upN ps S.H.length) (t := upN ts S.T.length) (fun b d _ hd => merge_φ_up inv hP g hd) (fun _ _ _ hv => hv) (fun _ _ hv => hv) (fun i hi => ⟨?_, ?_⟩) h hx ht
  · rw [List.getElem?_eq_getElem hi]
    exact mergeAll_up hT hi hlT
  · have hi' : i < G0'.own.length := by rw [i0.lenO]; exact hi
    rw [List.getElem?_eq_getElem hi']
    have := mergeAll_up (old := G.own) (new := G0'.own) (by rw [inv.lenO]; exact hT) hi' (by rw [i0.lenO]; exact hlT)
    rw [inv.lenO] at this
    exact this
theorem ok_of_low {x : Tag} {m : Nat} (h : x.low m = true) : x.ok (· < m) := by
  cases x with
  | tok i => simpa [Tag.low, Tag.low1, Tag.ok, Tag.ok1] using h
  | agg ts =>
    simp only [Tag.low, List.all_eq_true] at h
    intro y hy
    have := h y hy
    cases y with
    | tok i => simpa [Tag.low1, Tag.ok1] using this
    | _ => trivial
  | _ => trivial

/-- THE CALLER's STATE BEHIND THE CALL -/
theorem Inv.up (inv : Inv c B w0 G S w) (hP : Picks ps S.H.length) (hT : Picks ts S.T.length) (i0 : Inv c (bdOf G w ps ts) w G0' S0' w') (g : Grows (G.pick ps ts) (S.pick ps ts).T G0' S0'.T)
    (hcells : ∀ cells ∈ S0'.H, ∀ x ∈ cells, x.1.ok fun _ => True) : Inv c B w0 (G.merge ps ts G0') (S.merge ps ts S0') w' ∧ Grows G S.T (G.merge ps ts G0') (S.merge ps ts S0').T := by
  have hlφ : ps.length ≤ G0'.φ.length := by have := len_le_of g.φ; simpa [Gh.pick] using this
  have hlH : ps.length ≤ S0'.H.length := by rw [← i0.lenφ]; exact hlφ
  have hlT : ts.length ≤ S0'.T.length := by have := g.len_T; simpa [St.pick] using this
  have hlO : ts.length ≤ G0'.own.length := by rw [i0.lenO]; exact hlT
  have hPo : Picks ts G.own.length := by rw [inv.lenO]; exact hT
  -- what the caller has beside is not touched
  have prot : ∀ b d, b ∉ ps → G.φ[b]? = some (some d) → d < w.heap.size → (bdOf G w ps ts).D d ∨ ∃ t ∈ ts, ∃ ow o, G.own[t]? = some ow ∧ ow.live ∧ ow.base = some ⟨d, o, none⟩ := by
    intro b d hb hd hlt
    by_cases hc : ∃ t ∈ ts, ∃ ow o, G.own[t]? = some ow ∧ ow.live ∧ ow.base = some ⟨d, o, none⟩
    · exact .inr hc
    · exact .inl ⟨hlt, fun p hp h => hb (inv.inj b p d hd h ▸ hp), fun t ht ow o h1 h2 h3 => hc ⟨t, ht, ow, o, h1, h2, h3⟩⟩
  have protB : ∀ b d cells, b ∉ ps → S.H[b]? = some cells → G.φ[b]? = some (some d) → (bdOf G w ps ts).D d := by
    intro b d cells hb hc hd
    obtain ⟨_, vs, t, fr, h4, _⟩ := inv.blk b d cells hc hd
    rcases prot b d hb hd (lt_of_heap h4) with h | ⟨t, ht, ow, o, h1, h2, h3⟩
    · exact h
    · obtain ⟨_, _, h5⟩ := inv.own t ow h1
      obtain ⟨d', o', k1, _, k3, _⟩ := h5 h2
      rw [h3] at k1
      cases k1
      exact absurd hd (k3 b)
  have bD : ∀ d, B.D d → (bdOf G w ps ts).D d := by
    intro d hd
    refine ⟨?_, fun p hp h => ?_, fun t ht ow o h1 h2 h3 => ?_⟩
    · rcases Nat.lt_or_ge d w.heap.size with hl | hl
      · exact hl
      · exact absurd hd (inv.base d hl)
    · have hlt := hP.lt p hp
      exact (inv.blk p d _ (List.getElem?_eq_getElem hlt) h).1 hd
    · obtain ⟨_, _, h5⟩ := inv.own t ow h1
      obtain ⟨d', o', k1, k2, _⟩ := h5 h2
      rw [h3] at k1
      cases k1
      exact k2 hd
  have hown : ∀ id ow, (G.merge ps ts G0').own[id]? = some ow → (∃ i, id = upN ts S.T.length i ∧ G0'.own[i]? = some ow) ∨ (id ∉ ts ∧ id < G.own.length ∧ G.own[id]? = some ow) := by
    intro id ow h
    rcases mergeAll_at hPo hlO id with ⟨i, hi, h1, h2⟩ | ⟨h1, h2, h3⟩ | h1
    · refine .inl ⟨i, by rw [h1, inv.lenO], ?_⟩
      rw [List.getElem?_eq_getElem hi, ← h2]; exact h
    · exact .inr ⟨h1, h2, by rw [← h3]; exact h⟩
    · rw [show (G.merge ps ts G0').own = mergeAll ts G0'.own G.own from rfl, h1] at h; cases h
  have gr : Grows G S.T (G.merge ps ts G0') (S.merge ps ts S0').T := by
    refine ⟨⟨fun b d h => ?_, fun d o v h => g.mono.I d o v h, g.mono.ty⟩, fun b hb => ?_, fun id n hn => ?_⟩
    · have hlt : b < G.φ.length := by
        rcases Nat.lt_or_ge b G.φ.length with hl | hl
        · exact hl
        · rw [List.getElem?_eq_none hl] at h; cases h
      show (G.φ ++ _)[b]? = _
      rw [List.getElem?_append_left hlt]; exact h
    · show (G.φ ++ _)[b]? = _
      rw [List.getElem?_append_left hb]
    · have hlt : id < S.T.length := by
        rcases Nat.lt_or_ge id S.T.length with hl | hl
        · exact hl
        · rw [List.getElem?_eq_none hl] at hn; cases hn
      by_cases hm : id ∈ ts
      · obtain ⟨h1, h2⟩ := mem_idx hm
        obtain ⟨n', k1, k2, k3⟩ := g.T (ts.idxOf id) n (by
          simp only [St.pick, List.getElem?_map]
          rw [List.getElem?_eq_getElem h1, Option.map_some, h2, getD_some hn])
        have e1 : upN ts S.T.length (ts.idxOf id) = id := by rw [upN_lt h1]; exact h2
        refine ⟨n', ?_, k2, fun e => ?_⟩
        · obtain ⟨hi, he⟩ := List.getElem?_eq_some_iff.1 k1
          have := mergeAll_up hT hi hlT
          rw [e1] at this
          show (mergeAll ts S0'.T S.T)[id]? = _
          rw [this, he]
        · have := k3 e
          have hi : ts.idxOf id < G0'.own.length := by omega
          have h3 := mergeAll_up hPo hi hlO
          rw [inv.lenO, e1] at h3
          show (mergeAll ts G0'.own G.own)[id]? = _
          rw [h3, ← List.getElem?_eq_getElem hi, this]
          have hlt3 : id < G.own.length := by rw [inv.lenO]; exact hlt
          rw [List.getElem?_eq_getElem hlt3]
          exact (pick_own hT inv.lenO.symm).2 ⟨h1, by rw [h2]; exact List.getElem?_eq_getElem hlt3⟩
      · refine ⟨n, ?_, Nat.le_refl n, fun _ => ?_⟩
        · rcases mergeAll_at (new := S0'.T) hT hlT id with ⟨i, hi, h1, h2⟩ | ⟨h1, h2, h3⟩ | h1
          · exfalso
            rcases Nat.lt_or_ge i ts.length with hl | hl
            · rw [upN_lt hl] at h1; exact hm (h1 ▸ List.getElem_mem hl)
            · rw [upN_ge hl] at h1; omega
          · show (mergeAll ts S0'.T S.T)[id]? = _
            rw [h3]; exact hn
          · exfalso
            have := List.getElem?_eq_none_iff.1 h1
            rw [mergeAll_len hlT] at this; omega
        · have hlt3 : id < G.own.length := by rw [inv.lenO]; exact hlt
          rcases mergeAll_at (new := G0'.own) hPo hlO id with ⟨i, hi, h1, h2⟩ | ⟨h1, h2, h3⟩ | h1
          · exfalso
            rcases Nat.lt_or_ge i ts.length with hl | hl
            · rw [upN_lt hl] at h1; exact hm (h1 ▸ List.getElem_mem hl)
            · rw [upN_ge hl] at h1; omega
          · exact h3
          · exfalso
            have := List.getElem?_eq_none_iff.1 h1
            rw [mergeAll_len hlO] at this; omega
  have hPH := hP
  have blkAt : ∀ b cells, (S.merge ps ts S0').H[b]? = some cells → (∃ i cs, b = upN ps S.H.length i ∧ S0'.H[i]? = some cs ∧ cells = upBlk ps ts S.H.length S.T.length cs) ∨ (b ∉ ps ∧ b < S.H.length ∧ S.H[b]? = some cells) := by
    intro b cells h
    rcases mergeAll_at (new := S0'.H.map (upBlk ps ts S.H.length S.T.length)) hP (by simpa using hlH) b with ⟨i, hi, h1, h2⟩ | ⟨h1, h2, h3⟩ | h1
    · rw [show (S.merge ps ts S0').H = mergeAll ps (S0'.H.map (upBlk ps ts S.H.length S.T.length)) S.H from rfl, h2] at h
      have hi' : i < S0'.H.length := by simpa using hi
      refine .inl ⟨i, S0'.H[i], h1, List.getElem?_eq_getElem hi', ?_⟩
      cases h
      simp
    · exact .inr ⟨h1, h2, by rw [← h3]; exact h⟩
    · rw [show (S.merge ps ts S0').H = mergeAll ps (S0'.H.map (upBlk ps ts S.H.length S.T.length)) S.H from rfl, h1] at h; cases h
  have notUp : ∀ {b i}, b ∉ ps → b < S.H.length → b ≠ upN ps S.H.length i := by
    intro b i h1 h2 e
    rcases Nat.lt_or_ge i ps.length with hl | hl
    · rw [upN_lt hl] at e; exact h1 (e ▸ List.getElem_mem hl)
    · rw [upN_ge hl] at e; omega
  have hTlen : (S.merge ps ts S0').T.length = S.T.length + (S0'.T.length - ts.length) := mergeAll_len hlT
  have upLt : ∀ i, i < S0'.T.length → upN ts S.T.length i < (S.merge ps ts S0').T.length := by
    intro i hi
    rw [hTlen]
    rcases Nat.lt_or_ge i ts.length with hl | hl
    · rw [upN_lt hl]; have := hT.lt _ (List.getElem_mem hl); omega
    · rw [upN_ge hl]; omega
  refine ⟨{
    below := inv.below.trans ⟨i0.below.os, i0.below.tape, i0.below.output, i0.below.size, fun k hk => i0.below.block k (bD k hk)⟩
    base := fun d hd => inv.base d (Nat.le_trans i0.below.size hd)
    iD := fun d o hd => (i0.iD d o (bD d hd)).trans (inv.iD d o hd)
    lenφ := by
      show (G.φ ++ G0'.φ.drop ps.length).length = (mergeAll ps (S0'.H.map (upBlk ps ts S.H.length S.T.length)) S.H).length
      rw [mergeAll_len (by simpa using hlH)]
      simp [inv.lenφ, i0.lenφ]
    lenO := by
      show (mergeAll ts G0'.own G.own).length = (mergeAll ts S0'.T S.T).length
      rw [mergeAll_len hlO, mergeAll_len hlT, inv.lenO, i0.lenO]
    inj := fun i j d hi hj => by
      rcases merge_φ inv hP g hlφ hi with ⟨i', rfl, h1⟩ | ⟨h1, h2, h3⟩
      · rcases merge_φ inv hP g hlφ hj with ⟨j', rfl, k1⟩ | ⟨k1, k2, k3⟩
        · rw [i0.inj i' j' d h1 k1]
        · have hi' : i' < S0'.H.length := by
            rw [← i0.lenφ]
            rcases Nat.lt_or_ge i' G0'.φ.length with hl | hl
            · exact hl
            · rw [List.getElem?_eq_none hl] at h1; cases h1
          exact absurd (protB j d _ k1 (List.getElem?_eq_getElem k2) k3) (i0.blk i' d _ (List.getElem?_eq_getElem hi') h1).1
      · rcases merge_φ inv hP g hlφ hj with ⟨j', rfl, k1⟩ | ⟨k1, k2, k3⟩
        · have hj' : j' < S0'.H.length := by
            rw [← i0.lenφ]
            rcases Nat.lt_or_ge j' G0'.φ.length with hl | hl
            · exact hl
            · rw [List.getElem?_eq_none hl] at k1; cases k1
          exact absurd (protB i d _ h1 (List.getElem?_eq_getElem h2) h3) (i0.blk j' d _ (List.getElem?_eq_getElem hj') k1).1
        · exact inv.inj i j d h3 k3
    low := fun b cells h x hx => by
      rcases blkAt b cells h with ⟨i, cs, rfl, h1, rfl⟩ | ⟨h1, h2, h3⟩
      · obtain ⟨y, hy, rfl⟩ := List.mem_map.1 hx
        exact low_ren (P := fun _ => True) (fun b' _ hlt => by
          rcases Nat.lt_or_ge b' i with hl | hl
          · have := upN_mono hP hl; omega
          · have : b' = i := by omega
            rw [this]; omega) (hcells cs (List.mem_of_getElem? h1) y hy) (i0.low i cs h1 y hy)
      · exact inv.low b cells h3 x hx
    tag := fun b cells h x hx => by
      rcases blkAt b cells h with ⟨i, cs, rfl, h1, rfl⟩ | ⟨h1, h2, h3⟩
      · obtain ⟨y, hy, rfl⟩ := List.mem_map.1 hx
        have := i0.tag i cs h1 y hy
        exact tagLow_ren (P := (· < S0'.T.length)) (fun i hi _ => upLt i hi) (ok_of_low this) this
      · exact Tag.low_mono (by rw [hTlen]; omega) (inv.tag b cells h3 x hx)
    blk := fun b d cells h hφ => by
      rcases blkAt b cells h with ⟨i, cs, rfl, h1, rfl⟩ | ⟨h1, h2, h3⟩
      · have hφ' : G0'.φ[i]? = some (some d) := by
          rcases merge_φ inv hP g hlφ hφ with ⟨i', e, k1⟩ | ⟨k1, k2, _⟩
          · rw [upN_inj hP e]; exact k1
          · exact absurd rfl (notUp k1 k2)
        obtain ⟨k1, vs, t, fr, k2, k3, k4, k5⟩ := i0.blk i d cs h1 hφ'
        refine ⟨fun hd => k1 (bD d hd), vs, t, fr, k2, by simpa [upBlk] using k3, by simpa [upBlk] using k4, fun j hj hj' => ?_⟩
        simp only [upBlk, List.length_map] at hj
        simp only [upBlk, List.getElem_map]
        exact RS.up inv hP hT i0 g (k5 j hj hj') (hcells cs (List.mem_of_getElem? h1) _ (List.getElem_mem hj)) (ok_of_low (i0.tag i cs h1 _ (List.getElem_mem hj)))
      · have hφ' : G.φ[b]? = some (some d) := by
          rcases merge_φ inv hP g hlφ hφ with ⟨i', e, _⟩ | ⟨_, _, k3⟩
          · exact absurd e (notUp h1 h2)
          · exact k3
        obtain ⟨k1, vs, t, fr, k2, k3, k4, k5⟩ := inv.blk b d cells h3 hφ'
        exact ⟨k1, vs, t, fr, by rw [i0.below.block d (protB b d cells h1 h3 hφ')]; exact k2, k3, k4, fun j hj hj' => (k5 j hj hj').later gr.later⟩
    imm := fun d o v h => by
      obtain ⟨h1, h2⟩ := i0.imm d o v h
      refine ⟨h1, fun b hb => ?_⟩
      rcases merge_φ inv hP g hlφ hb with ⟨i, _, k1⟩ | ⟨k1, k2, k3⟩
      · exact h2 i k1
      · have hD := protB b d _ k1 (List.getElem?_eq_getElem k2) k3
        have h3 := i0.iD d o hD
        rw [show G0'.I d o = some v from h] at h3
        exact (inv.imm d o v h3.symm).2 b k3
    own := fun id ow h => by
      rcases hown id ow h with ⟨i, rfl, h1⟩ | ⟨h1, h2, h3⟩
      · obtain ⟨k1, k2, k3⟩ := i0.own i ow h1
        refine ⟨?_, k2, fun hlt => ?_⟩
        · obtain ⟨hi, he⟩ := List.getElem?_eq_some_iff.1 k1
          have := mergeAll_up hT hi hlT
          show (mergeAll ts S0'.T S.T)[upN ts S.T.length i]? = _
          rw [this, he]
        · obtain ⟨d, o, q1, q2, q3, vs, t, fr, q4, q5, q6⟩ := k3 hlt
          refine ⟨d, o, q1, fun hd => q2 (bD d hd), fun b hb => ?_, vs, t, fr, q4, q5, q6⟩
          rcases merge_φ inv hP g hlφ hb with ⟨i', _, m1⟩ | ⟨m1, m2, m3⟩
          · exact q3 i' m1
          · exact q2 (protB b d _ m1 (List.getElem?_eq_getElem m2) m3)
      · obtain ⟨k1, k2, k3⟩ := inv.own id ow h3
        refine ⟨?_, k2, fun hlt => ?_⟩
        · rcases mergeAll_at (new := S0'.T) hT hlT id with ⟨i, hi, m1, m2⟩ | ⟨m1, m2, m3⟩ | m1
          · exfalso
            rcases Nat.lt_or_ge i ts.length with hl | hl
            · rw [upN_lt hl] at m1; exact h1 (m1 ▸ List.getElem_mem hl)
            · rw [upN_ge hl] at m1; rw [inv.lenO] at h2; omega
          · show (mergeAll ts S0'.T S.T)[id]? = _
            rw [m3]; exact k1
          · exfalso
            have := List.getElem?_eq_none_iff.1 m1
            rw [mergeAll_len hlT] at this; rw [inv.lenO] at h2; omega
        · obtain ⟨d, o, q1, q2, q3, vs, t, fr, q4, q5, q6⟩ := k3 hlt
          have hD : (bdOf G w ps ts).D d := by
            refine ⟨lt_of_heap q4, fun p _ hp => q3 p hp, fun t' ht' ow' o' m1 m2 m3 => ?_⟩
            exact inv.dis id t' ow ow' d o o' (fun e => h1 (e ▸ ht')) h3 m1 hlt m2 q1 m3
          refine ⟨d, o, q1, q2, fun b hb => ?_, vs, t, fr, by rw [i0.below.block d hD]; exact q4, q5, fun i hi => ⟨(q6 i hi).1, ?_⟩⟩
          · rcases merge_φ inv hP g hlφ hb with ⟨i', _, m1⟩ | ⟨m1, m2, m3⟩
            · have hi' : i' < S0'.H.length := by
                rw [← i0.lenφ]
                rcases Nat.lt_or_ge i' G0'.φ.length with hl | hl
                · exact hl
                · rw [List.getElem?_eq_none hl] at m1; cases m1
              exact (i0.blk i' d _ (List.getElem?_eq_getElem hi') m1).1 hD
            · exact q3 b m3
          · exact (i0.iD d i hD).trans (q6 i hi).2
    dis := fun i j oi oj d o o' hne hi hj li lj hb => by
      rcases hown i oi hi with ⟨i', rfl, h1⟩ | ⟨h1, h2, h3⟩
      · rcases hown j oj hj with ⟨j', rfl, k1⟩ | ⟨k1, k2, k3⟩
        · exact i0.dis i' j' oi oj d o o' (fun e => hne (by rw [e])) h1 k1 li lj hb
        · intro hb'
          obtain ⟨_, _, q⟩ := inv.own j oj k3
          obtain ⟨d', o2, q1, q2, q3, vs, t, fr, q4, _⟩ := q lj
          rw [hb'] at q1
          cases q1
          have hD : (bdOf G w ps ts).D d := by
            refine ⟨lt_of_heap q4, fun p _ hp => q3 p hp, fun t' ht' ow' o3 m1 m2 m3 => ?_⟩
            exact inv.dis j t' oj ow' d o' o3 (fun e => k1 (e ▸ ht')) k3 m1 lj m2 hb' m3
          obtain ⟨_, _, q'⟩ := i0.own i' oi h1
          obtain ⟨d', o3, r1, r2, _⟩ := q' li
          rw [hb] at r1
          cases r1
          exact r2 hD
      · rcases hown j oj hj with ⟨j', rfl, k1⟩ | ⟨k1, k2, k3⟩
        · intro hb'
          obtain ⟨_, _, q⟩ := inv.own i oi h3
          obtain ⟨d', o2, q1, q2, q3, vs, t, fr, q4, _⟩ := q li
          rw [hb] at q1
          cases q1
          have hD : (bdOf G w ps ts).D d := by
            refine ⟨lt_of_heap q4, fun p _ hp => q3 p hp, fun t' ht' ow' o3 m1 m2 m3 => ?_⟩
            exact inv.dis i t' oi ow' d o o3 (fun e => h1 (e ▸ ht')) h3 m1 li m2 hb m3
          obtain ⟨_, _, q'⟩ := i0.own j' oj k1
          obtain ⟨d', o3, r1, r2, _⟩ := q' lj
          rw [hb'] at r1
          cases r1
          exact r2 hD
        · exact inv.dis i j oi oj d o o' hne h3 k3 li lj hb
    ty := i0.ty
    glob := fun g2 cs h => ⟨(inv.glob g2 cs h).1.low0 (inv.glob g2 cs h).2 (fun d o v hv => g.mono.I d o v hv) g.mono.ty, (inv.glob g2 cs h).2⟩
    know := fun I ty h h2 => inv.know I ty (fun d o v x => h d o v (g.mono.I d o v x)) (fun d x e => h2 d x (g.mono.ty d x e)) }, gr⟩
end
end Go.Ab
end
section
/- CONDITIONS: what must hold that code comes to Q; every part of the state that the text makes lies open. -/
namespace Go.Ab
open Go.RowKit

def optP {α : Type} (x : Option α) (K : α → Prop) : Prop := match x with
  | some v => K v
  | none => False
theorem optP_iff {α : Type} {x : Option α} {K : α → Prop} : optP x K ↔ ∃ v, x = some v ∧ K v := by
  cases x <;> simp [optP]

/-- a condition that the code alone decides -/
def onlyIf (b : Bool) (p : Prop) : Prop := match b with
  | true => p
  | false => False
theorem onlyIf_iff {b : Bool} {p : Prop} (h : onlyIf b p) : b = true ∧ p := by
  cases b with
  | true => exact ⟨rfl, h⟩
  | false => exact h.elim

def andI (k : IntKind) (x y : Int) : Int := k.wrap (BitVec.ofInt k.bits x &&& BitVec.ofInt k.bits y).toNat
def orI (k : IntKind) (x y : Int) : Int := k.wrap (BitVec.ofInt k.bits x ||| BitVec.ofInt k.bits y).toNat
def xorI (k : IntKind) (x y : Int) : Int := k.wrap (BitVec.ofInt k.bits x ^^^ BitVec.ofInt k.bits y).toNat
/-- bounds, under names (a number's kind stays clear where the condition is printed) -/
def inR (n : Int) (m : Nat) : Prop := 0 ≤ n ∧ n < m
def inLo (l : Int) (m : Nat) : Prop := 0 ≤ l ∧ l ≤ m
def inLoHi (l h : Int) (m : Nat) : Prop := 0 ≤ l ∧ l ≤ h ∧ h ≤ m
def nonneg (b : Int) : Prop := 0 ≤ b
def nonzero (b : Int) : Prop := b ≠ 0
/-! ### values of a known type -/
inductive CK where
  | int (k : IntKind)
  | bool
  | str
  | sl
  | other
def kindsL (f : TypeId → List CK) : List (Nat × TypeId) → List CK
  | [] => []
  | x :: xs => f x.2 ++ kindsL f xs
def kinds (P : Program) : Nat → TypeId → List CK
  | 0, _ => []
  | d + 1, t => match tk P t with
    | .int k => [.int k]
    | .bool => [.bool]
    | .string => [.str]
    | .slice _ => [.sl]
    | .struct fs => kindsL (kinds P d) fs
    | .array n e => (List.replicate n e).flatMap (kinds P d)
    | _ => [.other]
/-- cells, opened by their kinds -/
def openW : List CK → List AV → List AV → (List AV → Prop) → Prop
  | [], acc, cs, K => cs = acc.reverse ∧ K acc.reverse
  | .int k :: r, acc, cs, K => ∃ n : Int, openW r (.int k n :: acc) cs K
  | .bool :: r, acc, cs, K => ∃ b : Bool, openW r (.bool b :: acc) cs K
  | .str :: r, acc, cs, K => ∃ s : List UInt8, openW r (.str s :: acc) cs K
  | .sl :: r, acc, cs, K => ∃ xs : List AV, openW r (.sl xs :: acc) cs K
  | .other :: r, acc, cs, K => ∃ v : AV, openW r (v :: acc) cs K
theorem openW_sound : ∀ (ks : List CK) (acc cs : List AV) (K : List AV → Prop), openW ks acc cs K → K cs := by
  intro ks
  induction ks with
  | nil => intro acc cs K h; obtain ⟨h1, h2⟩ := h; rw [h1]; exact h2
  | cons k r ih =>
    intro acc cs K h
    cases k with
    | int k => obtain ⟨n, h⟩ := h; exact ih _ _ _ h
    | bool => obtain ⟨n, h⟩ := h; exact ih _ _ _ h
    | str => obtain ⟨n, h⟩ := h; exact ih _ _ _ h
    | sl => obtain ⟨n, h⟩ := h; exact ih _ _ _ h
    | other => obtain ⟨n, h⟩ := h; exact ih _ _ _ h

/-- a part of cells, whose place is not a number in the text -/
def loadSym (c : Ctx) (t : TypeId) (cells : List SV) (o : Nat) (K : SV → Prop) : Prop :=
  match tk c.P t with
  | .int k => ∃ r : Int, cells[o]? = some (.int k r, .no) ∧ K (.int k r, .no)
  | .bool => ∃ r : Bool, cells[o]? = some (.bool r, .no) ∧ K (.bool r, .no)
  | .string => ∃ r : List UInt8, cells[o]? = some (.str r, .no) ∧ K (.str r, .no)
  | .struct _ | .array _ _ => o + tsz c.P t ≤ cells.length ∧ openW (kinds c.P 6 t) [] (((cells.drop o).take (tsz c.P t)).map (·.1)) fun cs => ((cells.drop o).take (tsz c.P t)) = cs.map (·, Tag.no) ∧ K (.agg cs, .agg (cs.map fun _ => .no))
  | .other => False
  | _ => ∃ v, cells[o]? = some v ∧ K v
theorem loadSym_sound {c : Ctx} {t : TypeId} {cells : List SV} {o : Nat} {K : SV → Prop} (h : loadSym c t cells o K) : ∃ v, c.part t cells o = some v ∧ K v := by
  unfold loadSym at h
  unfold Ctx.part
  split at h
  · rename_i k hk; obtain ⟨r, h1, h2⟩ := h; exact ⟨_, by rw [hk]; exact h1, h2⟩
  · rename_i hk; obtain ⟨r, h1, h2⟩ := h; exact ⟨_, by rw [hk]; exact h1, h2⟩
  · rename_i hk; obtain ⟨r, h1, h2⟩ := h; exact ⟨_, by rw [hk]; exact h1, h2⟩
  · rename_i hk
    obtain ⟨h3, h4⟩ := openW_sound _ _ _ _ h.2
    refine ⟨_, by rw [hk]; simp only; rw [if_pos h.1], ?_⟩
    unfold collect
    rw [h3] at h4 ⊢
    simpa [Function.comp_def] using h4
  · rename_i hk
    obtain ⟨h3, h4⟩ := openW_sound _ _ _ _ h.2
    refine ⟨_, by rw [hk]; simp only; rw [if_pos h.1], ?_⟩
    unfold collect
    rw [h3] at h4 ⊢
    simpa [Function.comp_def] using h4
  · exact h.elim
  · rename_i h1 h2 h3 h4 h5 h6
    obtain ⟨v, hv, hk⟩ := h
    refine ⟨v, ?_, hk⟩
    split
    · rename_i e; exact absurd e h6
    · rename_i e; exact absurd e (h4 _)
    · rename_i e; exact absurd e (h5 _ _)
    · exact hv
/-- a great array: its cells are not looked at one by one -/
def bigA (P : Program) (t : TypeId) : Bool := match tk P t with
  | .array _ _ => decide (16 < tsz P t)
  | _ => false
def loadW (c : Ctx) (t : TypeId) (tg : Tag) (cells : List SV) (o : Nat) (K : SV → Prop) : Prop :=
  match tg with
  | .no => match bigA c.P t with
    | true => o + tsz c.P t ≤ cells.length ∧ K (collect ((cells.drop o).take (tsz c.P t)))
    | false => optP (c.part t cells o) K
  | _ => loadSym c t cells o K
theorem loadW_sound {c : Ctx} {t : TypeId} {tg : Tag} {cells : List SV} {o : Nat} {K : SV → Prop} (h : loadW c t tg cells o K) : ∃ v, c.part t cells o = some v ∧ K v := by
  unfold loadW at h
  split at h
  · split at h
    · rename_i hb
      refine ⟨_, ?_, h.2⟩
      unfold bigA at hb
      unfold Ctx.part
      cases hk : tk c.P t with
      | array n e => simp only; rw [if_pos h.1]
      | _ => rw [hk] at hb; simp at hb
    · exact optP_iff.1 h
  · exact loadSym_sound h

def pureOrRead (c : Ctx) (op : Op) (ρ : Operand → SV) (S : St) : Option SV := match c.pure op ρ with
  | some v => some v
  | none => c.read op ρ S
end Go.Ab
end
