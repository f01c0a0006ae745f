import Derived.Test.YtdiphholophdcaaAbDraw
import Derived.Test.YtdiphholophdcaaAbBeqEq
set_option linter.unusedVariables false
set_option linter.unusedSimpArgs false
/- A REGION IN THE TEXT's ORDER, step by step; WHAT COMES AHEAD OF WHAT. -/
namespace Go.Ab
open Go.RowKit

/-! ### equality that the run decides -/
mutual
theorem Tag.beq_eq : ∀ (a b : Tag), Tag.beq a b = true → a = b
  | .no, b, h => by cases b <;> first | rfl | (simp [Tag.beq] at h)
  | .full, b, h => by cases b <;> first | rfl | (simp [Tag.beq] at h)
  | .tok i, b, h => by cases b <;> simp [Tag.beq] at h; subst h; rfl
  | .agg x, b, h => by cases b <;> simp [Tag.beq] at h; rw [Tag.beqs_eq x _ h]
theorem Tag.beqs_eq : ∀ (a b : List Tag), Tag.beqs a b = true → a = b
  | [], b, h => by cases b <;> first | rfl | (simp [Tag.beqs] at h)
  | x :: xs, b, h => by
    cases b with
    | nil => simp [Tag.beqs] at h
    | cons y ys =>
      simp [Tag.beqs] at h
      rw [Tag.beq_eq x y h.1, Tag.beqs_eq xs ys h.2]
end
theorem SV.beq_eq {a b : SV} (h : SV.beq a b = true) : a = b := by
  simp only [SV.beq, Bool.and_eq_true] at h
  exact Prod.ext (AV.beq_eq _ _ h.1) (Tag.beq_eq _ _ h.2)
theorem SV.beqs_eq : ∀ {a b : List SV}, SV.beqs a b = true → a = b
  | [], b, h => by cases b <;> first | rfl | (simp [SV.beqs] at h)
  | x :: xs, b, h => by
    cases b with
    | nil => simp [SV.beqs] at h
    | cons y ys =>
      simp [SV.beqs] at h
      rw [SV.beq_eq h.1, SV.beqs_eq h.2]

/-! ### what comes ahead -/
/-- listed: closed under the edges that bind -/
def Closed (ops : Array Oper) (D : Nat → Prop) : Prop := ∀ (i : Nat) (o : Oper), ops[i]? = some o → D i → ∀ e ∈ o.after, Region.binds .any e = true → D e.on

theorem one_bits (look : Nat → Nat) (es : List Edge) (s j : Nat) (h : (es.foldl (fun s e => if Region.binds .any e then s ||| 2 ^ e.on ||| look e.on else s) s).testBit j = true) :
    s.testBit j = true ∨ ∃ e ∈ es, Region.binds .any e = true ∧ (e.on = j ∨ (look e.on).testBit j = true) := by
  induction es generalizing s with
  | nil => exact .inl h
  | cons e es ih =>
    simp only [List.foldl_cons] at h
    rcases ih _ h with h1 | ⟨e', he', hb, hj⟩
    · split at h1
      · rename_i hb
        simp only [Nat.testBit_or, Bool.or_eq_true, Nat.testBit_two_pow, decide_eq_true_eq] at h1
        rcases h1 with (h1 | h1) | h1
        · exact .inl h1
        · exact .inr ⟨e, List.mem_cons_self .., hb, .inl h1⟩
        · exact .inr ⟨e, List.mem_cons_self .., hb, .inr h1⟩
      · exact .inl h1
    · exact .inr ⟨e', List.mem_cons_of_mem _ he', hb, hj⟩

theorem before_closed {ops : Array Oper} {D : Nat → Prop} (hD : Closed ops D) : ∀ (l : List Oper) (acc : List Nat), ops.toList = ops.toList.take acc.length ++ l → acc.length ≤ ops.size →
    (∀ i, i < acc.length → ∀ j, (acc.reverse.getD i 0).testBit j = true → D i → D j) →
    ∀ i j, ((CheckFast.beforeL l acc.length acc).getD i 0).testBit j = true → D i → D j := by
  intro l
  induction l with
  | nil =>
    intro acc hl hle ha i j h hi
    simp only [CheckFast.beforeL] at h
    rcases Nat.lt_or_ge i acc.length with hlt | hge
    · exact ha i hlt j h hi
    · rw [List.getD_eq_getElem?_getD, List.getElem?_eq_none (by simpa using hge)] at h
      simp at h
  | cons o l ih =>
    intro acc hl hle ha i j h hi
    rw [CheckFast.beforeL, CheckFast.force_eq] at h
    have hlen : ops.toList.length = acc.length + (l.length + 1) := by
      have := congrArg List.length hl
      simp only [List.length_append, List.length_take, List.length_cons, Array.length_toList] at this ⊢
      omega
    have hlt : acc.length < ops.size := by simp at hlen; omega
    have hget : ops[acc.length]? = some o := by
      have : ops.toList[acc.length]? = some o := by
        rw [hl, List.getElem?_append_right (by simp; omega)]
        have e : acc.length - (List.take acc.length ops.toList).length = 0 := by simp; omega
        rw [e]
        rfl
      simpa using this
    have hl' : ops.toList = ops.toList.take (acc.length + 1) ++ l := by
      have hd : ops.toList.drop acc.length = o :: l := by
        have h1 := congrArg (List.drop acc.length) hl
        rw [List.drop_append_of_le_length (by simp; omega)] at h1
        simpa using h1
      have h2 : ops.toList.drop (acc.length + 1) = l := by
        rw [← List.drop_drop, hd]; rfl
      have h3 := (List.take_append_drop (acc.length + 1) ops.toList).symm
      rw [h2] at h3
      exact h3
    refine ih (_ :: acc) (by simpa using hl') (by simp; omega) ?_ i j h hi
    intro i' hi' j' h' hD'
    simp only [List.length_cons] at hi'
    rw [List.reverse_cons] at h'
    rcases Nat.lt_or_ge i' acc.length with hlt' | hge
    · rw [List.getD_eq_getElem?_getD, List.getElem?_append_left (by simpa using hlt'), ← List.getD_eq_getElem?_getD] at h'
      exact ha i' hlt' j' h' hD'
    · have e : i' = acc.length := by omega
      subst e
      rw [List.getD_eq_getElem?_getD, List.getElem?_append_right (by simp)] at h'
      simp only [List.length_reverse, Nat.sub_self, List.getElem?_cons_zero, Option.getD_some] at h'
      unfold CheckFast.one at h'
      rw [← Array.foldl_toList] at h'
      rcases one_bits (fun i => if i < acc.length then acc.getD (acc.length - 1 - i) 0 else 0) _ _ _ h' with h1 | ⟨e, he, hb, h1 | h1⟩
      · simp at h1
      · exact h1 ▸ hD _ o hget hD' e (by simpa using he) hb
      · have hon := hD _ o hget hD' e (by simpa using he) hb
        split at h1
        · rename_i hlt2
          refine ha e.on hlt2 j' ?_ hon
          have e2 : acc.reverse.getD e.on 0 = acc.getD (acc.length - 1 - e.on) 0 := by
            rw [List.getD_eq_getElem?_getD, List.getElem?_reverse hlt2, ← List.getD_eq_getElem?_getD]
          rw [e2]; exact h1
        · simp at h1

theorem ahead_closed {ops : Array Oper} {D : Nat → Prop} (hD : Closed ops D) {i j : Nat} (h : ahead (CheckFast.beforeL ops.toList 0 []) i j = true) (hi : D i) : D j :=
  before_closed hD ops.toList [] (by simp) (by simp) (fun i hi => by simp at hi) i j h hi

/-! ### the steps -/
def isMv (P : Program) (ops : Array Oper) (j : Nat) : Bool := ((ops[j]?).map (moves P)).getD false

inductive Trace (e : Env0) (ops : Array Oper) (S0 : St) (base : Nat) (env0 : Env) : Nat → List Rec → List St → Env → Nat → Prop
  | nil : Trace e ops S0 base env0 0 [] [S0] env0 0
  | quiet {i recs S Ss env al} (o : Oper) (v : SV) : Trace e ops S0 base env0 i recs (S :: Ss) env al → ops[i]? = some o → moves e.c.P o = false → e.quietAt ops S0 base al o env S = some v →
      Trace e ops S0 base env0 (i + 1) (recs ++ [⟨o, env, v, al⟩]) (S :: Ss) (Fr.put ⟨env, []⟩ o.dst v).env (if allocs e.c.P o then al + 1 else al)
  | skip {i recs S Ss env al} (o : Oper) : Trace e ops S0 base env0 i recs (S :: Ss) env al → ops[i]? = some o → moves e.c.P o = true → wantedA ops env o = some false →
      Trace e ops S0 base env0 (i + 1) (recs ++ [⟨o, env, (.tup [], .no), al⟩]) (S :: S :: Ss) (Fr.put ⟨env, []⟩ o.dst (.tup [], .no)).env (if allocs e.c.P o then al + 1 else al)
  | act {i recs S Ss env al} (o : Oper) (v : SV) (S' : St) : Trace e ops S0 base env0 i recs (S :: Ss) env al → ops[i]? = some o → moves e.c.P o = true → wantedA ops env o = some true →
      e.act o.op (e.c.evalR env (readsTmp ops o)) S = some (.ok v S') →
      Trace e ops S0 base env0 (i + 1) (recs ++ [⟨o, env, v, al⟩]) (S' :: S :: Ss) (Fr.put ⟨env, []⟩ o.dst v).env (if allocs e.c.P o then al + 1 else al)

theorem lexD_trace {e : Env0} {ops : Array Oper} {S0 : St} {base : Nat} {env0 : Env} : ∀ (l : List Oper) (i al : Nat) (env : Env) (Ss : List St) (recs : List Rec) (r : DRes), (∀ j, l[j]? = ops[i + j]?) →
    Trace e ops S0 base env0 i recs.reverse Ss env al → e.lexD ops S0 base l al env Ss recs = some r →
    match r with
    | .ok env' Ss' recs' => ∃ al', Trace e ops S0 base env0 (i + l.length) recs'.reverse Ss' env' al'
    | .panic v S' Ss' recs' rest => ∃ p env' al' recs1 o S, Trace e ops S0 base env0 p recs1.reverse Ss' env' al' ∧ recs' = ⟨o, env', (.undef, .no), al'⟩ :: recs1 ∧ ops[p]? = some o ∧ (∀ j, rest[j]? = ops[p + 1 + j]?) ∧ moves e.c.P o = true ∧
        wantedA ops env' o = some true ∧ Ss'.head? = some S ∧ e.act o.op (e.c.evalR env' (readsTmp ops o)) S = some (.panic v S') := by
  intro l
  induction l with
  | nil =>
    intro i al env Ss recs r hl ht h
    simp only [Env0.lexD] at h
    cases h
    exact ⟨al, ht⟩
  | cons o l ih =>
    intro i al env Ss recs r hl ht h
    have ho : ops[i]? = some o := by have := hl 0; simpa using this.symm
    have hl' : ∀ j, l[j]? = ops[i + 1 + j]? := fun j => by
      have := hl (j + 1)
      rw [show i + (j + 1) = i + 1 + j by omega] at this
      simpa using this
    have fin : ∀ (r : DRes), (match r with
        | .ok env' Ss' recs' => ∃ al', Trace e ops S0 base env0 (i + 1 + l.length) recs'.reverse Ss' env' al'
        | .panic v S' Ss' recs' rest => ∃ p env' al' recs1 o S, Trace e ops S0 base env0 p recs1.reverse Ss' env' al' ∧ recs' = ⟨o, env', (.undef, .no), al'⟩ :: recs1 ∧ ops[p]? = some o ∧ (∀ j, rest[j]? = ops[p + 1 + j]?) ∧ moves e.c.P o = true ∧
            wantedA ops env' o = some true ∧ Ss'.head? = some S ∧ e.act o.op (e.c.evalR env' (readsTmp ops o)) S = some (.panic v S')) →
        (match r with
        | .ok env' Ss' recs' => ∃ al', Trace e ops S0 base env0 (i + (o :: l).length) recs'.reverse Ss' env' al'
        | .panic v S' Ss' recs' rest => ∃ p env' al' recs1 o S, Trace e ops S0 base env0 p recs1.reverse Ss' env' al' ∧ recs' = ⟨o, env', (.undef, .no), al'⟩ :: recs1 ∧ ops[p]? = some o ∧ (∀ j, rest[j]? = ops[p + 1 + j]?) ∧ moves e.c.P o = true ∧
            wantedA ops env' o = some true ∧ Ss'.head? = some S ∧ e.act o.op (e.c.evalR env' (readsTmp ops o)) S = some (.panic v S')) := by
      intro r hr
      cases r with
      | ok env' Ss' recs' =>
        simp only [List.length_cons] at hr ⊢
        rw [show i + (l.length + 1) = i + 1 + l.length by omega]
        exact hr
      | panic => exact hr
    cases Ss with
    | nil => simp [Env0.lexD] at h
    | cons S Ss =>
      simp only [Env0.lexD] at h
      by_cases hm : moves e.c.P o = true
      · rw [if_pos hm] at h
        cases hw : wantedA ops env o with
        | none => simp [hw] at h
        | some b =>
          cases b with
          | false =>
            simp only [hw] at h
            exact fin r (ih (i + 1) _ _ _ _ r hl' (by rw [List.reverse_cons]; exact .skip o ht ho hm hw) h)
          | true =>
            simp only [hw] at h
            cases ha : e.act o.op (e.c.evalR env (readsTmp ops o)) S with
            | none => simp [ha] at h
            | some ar =>
              cases ar with
              | ok v S' =>
                simp only [ha] at h
                exact fin r (ih (i + 1) _ _ _ _ r hl' (by rw [List.reverse_cons]; exact .act o v S' ht ho hm hw ha) h)
              | panic v S' =>
                simp only [ha] at h
                cases h
                exact ⟨i, env, al, recs, o, S, ht, rfl, ho, hl', hm, hw, rfl, ha⟩
      · rw [if_neg hm] at h
        cases hq : e.quietAt ops S0 base al o env S with
        | none => simp [hq] at h
        | some v =>
          simp only [hq] at h
          exact fin r (ih (i + 1) _ _ _ _ r hl' (by rw [List.reverse_cons]; exact .quiet o v ht ho (by simpa using hm) hq) h)
end Go.Ab
