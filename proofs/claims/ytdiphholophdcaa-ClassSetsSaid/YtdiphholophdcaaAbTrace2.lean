import Derived.Test.YtdiphholophdcaaAbTrace
set_option linter.unusedVariables false
set_option linter.unusedSimpArgs false
/- WHAT A REGION's STEPS SAY, by place. -/
namespace Go.Ab
open Go.RowKit

theorem countP_range_succ (p : Nat → Bool) (n : Nat) : (List.range (n + 1)).countP p = (List.range n).countP p + (if p n then 1 else 0) := by
  rw [List.range_succ, List.countP_append]
  simp [List.countP_cons]

/-- how many of the first i operations move the state -/
def mvc (P : Program) (ops : Array Oper) (i : Nat) : Nat := (List.range i).countP (isMv P ops)

structure EnvAt (env0 : Env) (rs : List Rec) (env : Env) : Prop where
  len : env.length = env0.length
  hit : ∀ (j : Nat) (r : Rec) (t : Tmp), rs[j]? = some r → r.o.dst = some t → (∀ (j' : Nat) (r' : Rec), rs[j']? = some r' → r'.o.dst = some t → j' = j) → t < env0.length → env.getD t (.undef, .no) = r.v
  miss : ∀ t : Tmp, (∀ (j : Nat) (r : Rec), rs[j]? = some r → r.o.dst ≠ some t) → env.getD t (.undef, .no) = env0.getD t (.undef, .no)

theorem getD_set {env : Env} {d t : Nat} {v : SV} : (env.set d v).getD t (.undef, .no) = if d = t ∧ t < env.length then v else env.getD t (.undef, .no) := by
  simp only [List.getD_eq_getElem?_getD]
  by_cases e : d = t
  · subst e
    rcases Nat.lt_or_ge d env.length with hl | hl
    · simp [hl]
    · simp [Nat.not_lt.2 hl]
  · rw [List.getElem?_set_ne e, if_neg (fun h => e h.1)]

theorem EnvAt.snoc {env0 : Env} {rs : List Rec} {env : Env} (h : EnvAt env0 rs env) (o : Oper) (v : SV) (al : Nat) : EnvAt env0 (rs ++ [⟨o, env, v, al⟩]) (Fr.put ⟨env, []⟩ o.dst v).env := by
  have get : ∀ (j : Nat) (r : Rec), (rs ++ [(⟨o, env, v, al⟩ : Rec)])[j]? = some r → rs[j]? = some r ∨ (j = rs.length ∧ r = ⟨o, env, v, al⟩) := by
    intro j r hr
    rcases Nat.lt_trichotomy j rs.length with hl | hl | hl
    · rw [List.getElem?_append_left hl] at hr; exact .inl hr
    · subst hl; simp at hr; exact .inr ⟨rfl, hr.symm⟩
    · rw [List.getElem?_append_right (by omega), List.getElem?_eq_none (by simp; omega)] at hr; cases hr
  have old : ∀ (j : Nat) (r : Rec), rs[j]? = some r → (rs ++ [(⟨o, env, v, al⟩ : Rec)])[j]? = some r ∧ j < rs.length := by
    intro j r hr
    have hl : j < rs.length := by
      rcases Nat.lt_or_ge j rs.length with hl | hl
      · exact hl
      · rw [List.getElem?_eq_none hl] at hr; cases hr
    exact ⟨by rw [List.getElem?_append_left hl]; exact hr, hl⟩
  have new : (rs ++ [(⟨o, env, v, al⟩ : Rec)])[rs.length]? = some ⟨o, env, v, al⟩ := by simp
  cases hd : o.dst with
  | none =>
    refine ⟨h.len, fun j r t hr ht hu hlt => ?_, fun t hm => ?_⟩
    · rcases get j r hr with h1 | ⟨h1, h2⟩
      · exact h.hit j r t h1 ht (fun j' r' hr' ht' => hu j' r' (old j' r' hr').1 ht') hlt
      · subst h2; simp only at ht; rw [hd] at ht; cases ht
    · exact h.miss t fun j r hr => hm j r (old j r hr).1
  | some d =>
    refine ⟨by simp [Fr.put, h.len], fun j r t hr ht hu hlt => ?_, fun t hm => ?_⟩
    · show (env.set d v).getD t _ = _
      rw [getD_set]
      by_cases e : d = t
      · subst e
        rw [if_pos ⟨rfl, by rw [h.len]; exact hlt⟩]
        have := hu rs.length _ new hd
        subst this
        rw [new] at hr
        cases hr
        rfl
      · rw [if_neg (fun h => e h.1)]
        rcases get j r hr with h1 | ⟨h1, h2⟩
        · exact h.hit j r t h1 ht (fun j' r' hr' ht' => hu j' r' (old j' r' hr').1 ht') hlt
        · subst h2; simp only at ht; rw [hd] at ht; cases ht; exact absurd rfl e
    · show (env.set d v).getD t _ = _
      have hne : d ≠ t := fun e => hm rs.length _ new (by simp only; rw [hd, e])
      rw [getD_set, if_neg (fun h => hne h.1)]
      exact h.miss t fun j r hr => hm j r (old j r hr).1

/-- one step, by place -/
structure StepAt (e : Env0) (ops : Array Oper) (S0 : St) (base : Nat) (env0 : Env) (recs : List Rec) (st : List St) (i : Nat) (r : Rec) : Prop where
  op : ops[i]? = some r.o
  al : r.al = nAl e.c.P (ops.toList.take i)
  env : EnvAt env0 (recs.take i) r.env
  quiet : moves e.c.P r.o = false → ∃ S, st[mvc e.c.P ops i]? = some S ∧ e.quietAt ops S0 base r.al r.o r.env S = some r.v
  mv : moves e.c.P r.o = true → ∃ S S', st[mvc e.c.P ops i]? = some S ∧ st[mvc e.c.P ops i + 1]? = some S' ∧
    ((wantedA ops r.env r.o = some false ∧ S' = S ∧ r.v = (.tup [], .no)) ∨ (wantedA ops r.env r.o = some true ∧ e.act r.o.op (e.c.evalR r.env (readsTmp ops r.o)) S = some (.ok r.v S')))

structure Facts (e : Env0) (ops : Array Oper) (S0 : St) (base : Nat) (env0 : Env) (n : Nat) (recs : List Rec) (st : List St) (env : Env) (al : Nat) : Prop where
  len : recs.length = n
  le : n ≤ ops.size
  al : al = nAl e.c.P (ops.toList.take n)
  mvl : st.length = mvc e.c.P ops n + 1
  zero : st[0]? = some S0
  env : EnvAt env0 recs env
  step : ∀ (i : Nat) (r : Rec), recs[i]? = some r → StepAt e ops S0 base env0 recs st i r

theorem get_snoc {α : Type} {l : List α} {x y : α} {j : Nat} (h : (l ++ [x])[j]? = some y) : l[j]? = some y ∨ (j = l.length ∧ y = x) := by
  rcases Nat.lt_trichotomy j l.length with hl | hl | hl
  · rw [List.getElem?_append_left hl] at h; exact .inl h
  · subst hl; simp at h; exact .inr ⟨rfl, h.symm⟩
  · rw [List.getElem?_append_right (by omega), List.getElem?_eq_none (by simp; omega)] at h; cases h
theorem lt_of_some {α : Type} {l : List α} {i : Nat} {x : α} (h : l[i]? = some x) : i < l.length := by
  rcases Nat.lt_or_ge i l.length with hl | hl
  · exact hl
  · rw [List.getElem?_eq_none hl] at h; cases h

theorem nAl_succ {P : Program} {ops : Array Oper} {i : Nat} {o : Oper} (h : ops[i]? = some o) : nAl P (ops.toList.take (i + 1)) = if allocs P o then nAl P (ops.toList.take i) + 1 else nAl P (ops.toList.take i) := by
  have : ops.toList[i]? = some o := by simpa using h
  rw [List.take_add_one, this]
  simp only [nAl, Option.toList_some, List.countP_append, List.countP_cons, List.countP_nil, Nat.zero_add]
  split <;> simp_all
theorem mvc_succ {P : Program} {ops : Array Oper} {i : Nat} {o : Oper} (h : ops[i]? = some o) : mvc P ops (i + 1) = mvc P ops i + if moves P o then 1 else 0 := by
  unfold mvc
  rw [countP_range_succ]
  simp [isMv, h]

theorem StepAt.snoc {e : Env0} {ops : Array Oper} {S0 : St} {base : Nat} {env0 : Env} {recs : List Rec} {st : List St} {i : Nat} {r : Rec} (h : StepAt e ops S0 base env0 recs st i r) (hi : i < recs.length) (x : Rec) (xs : List St) :
    StepAt e ops S0 base env0 (recs ++ [x]) (st ++ xs) i r := by
  have put : ∀ {k : Nat} {S : St}, st[k]? = some S → (st ++ xs)[k]? = some S := fun hk => by rw [List.getElem?_append_left (lt_of_some hk)]; exact hk
  refine ⟨h.op, h.al, by rw [List.take_append_of_le_length (by omega)]; exact h.env, fun hm => ?_, fun hm => ?_⟩
  · obtain ⟨S, h1, h2⟩ := h.quiet hm
    exact ⟨S, put h1, h2⟩
  · obtain ⟨S, S', h1, h2, h3⟩ := h.mv hm
    exact ⟨S, S', put h1, put h2, h3⟩

theorem Trace.facts {e : Env0} {ops : Array Oper} {S0 : St} {base : Nat} {env0 : Env} {n : Nat} {recs : List Rec} {Ss : List St} {env : Env} {al : Nat} (h : Trace e ops S0 base env0 n recs Ss env al) :
    Facts e ops S0 base env0 n recs Ss.reverse env al ∧ Ss ≠ [] := by
  induction h with
  | nil =>
    refine ⟨⟨rfl, Nat.zero_le _, by simp [nAl], by simp [mvc], rfl, ⟨rfl, fun j r t h => by simp at h, fun t _ => rfl⟩, fun i r h => by simp at h⟩, by simp⟩
  | @quiet i recs S Ss env al o v ht ho hm hq ih =>
    obtain ⟨f, _⟩ := ih
    have hlt : i < ops.size := (Array.getElem?_eq_some_iff.1 ho).1
    refine ⟨⟨by simp [f.len], hlt, by rw [nAl_succ ho, f.al], by rw [f.mvl, mvc_succ ho, hm]; simp, f.zero, f.env.snoc o v al, fun j r hr => ?_⟩, by simp⟩
    rcases get_snoc hr with h1 | ⟨h1, h2⟩
    · have := (f.step j r h1).snoc (lt_of_some h1) ⟨o, env, v, al⟩ []
      rw [List.append_nil] at this
      exact this
    · subst h2
      rw [f.len] at h1
      subst h1
      refine ⟨ho, f.al, by simp only; rw [List.take_append_of_le_length (by rw [f.len]; exact Nat.le_refl _), List.take_of_length_le (by rw [f.len]; exact Nat.le_refl _)]; exact f.env, fun _ => ⟨S, ?_, hq⟩, fun h => by simp only at h; rw [hm] at h; cases h⟩
      have hl := f.mvl
      rw [List.reverse_cons] at hl ⊢
      rw [List.getElem?_append_right (by simp at hl ⊢; omega)]
      have : mvc e.c.P ops j - Ss.reverse.length = 0 := by simp at hl ⊢; omega
      rw [this]; rfl
  | @skip i recs S Ss env al o ht ho hm hw ih =>
    obtain ⟨f, _⟩ := ih
    have hlt : i < ops.size := (Array.getElem?_eq_some_iff.1 ho).1
    have hl := f.mvl
    refine ⟨⟨by simp [f.len], hlt, by rw [nAl_succ ho, f.al], by rw [mvc_succ ho, hm]; simp at hl ⊢; omega, ?_, f.env.snoc o _ al, fun j r hr => ?_⟩, by simp⟩
    · have := f.zero
      rw [List.reverse_cons (a := S), List.getElem?_append_left (lt_of_some this)]
      exact this
    rcases get_snoc hr with h1 | ⟨h1, h2⟩
    · have := (f.step j r h1).snoc (lt_of_some h1) ⟨o, env, (.tup [], .no), al⟩ [S]
      rw [← List.reverse_cons] at this
      exact this
    · subst h2
      rw [f.len] at h1
      subst h1
      refine ⟨ho, f.al, by simp only; rw [List.take_append_of_le_length (by rw [f.len]; exact Nat.le_refl _), List.take_of_length_le (by rw [f.len]; exact Nat.le_refl _)]; exact f.env, fun h => (by simp only at h; rw [hm] at h; cases h), fun _ => ⟨S, S, ?_, ?_, .inl ⟨hw, rfl, rfl⟩⟩⟩
      · rw [List.reverse_cons (a := S) (as := S :: Ss), List.getElem?_append_left (by rw [hl]; omega), List.reverse_cons, List.getElem?_append_right (by simp at hl ⊢; omega)]
        have : mvc e.c.P ops j - Ss.reverse.length = 0 := by simp at hl ⊢; omega
        rw [this]; rfl
      · rw [List.reverse_cons (a := S) (as := S :: Ss), List.getElem?_append_right (by rw [hl]; exact Nat.le_refl _), hl]
        simp
  | @act i recs S Ss env al o v S' ht ho hm hw ha ih =>
    obtain ⟨f, _⟩ := ih
    have hlt : i < ops.size := (Array.getElem?_eq_some_iff.1 ho).1
    have hl := f.mvl
    refine ⟨⟨by simp [f.len], hlt, by rw [nAl_succ ho, f.al], by rw [mvc_succ ho, hm]; simp at hl ⊢; omega, ?_, f.env.snoc o v al, fun j r hr => ?_⟩, by simp⟩
    · have := f.zero
      rw [List.reverse_cons (a := S'), List.getElem?_append_left (lt_of_some this)]
      exact this
    rcases get_snoc hr with h1 | ⟨h1, h2⟩
    · have := (f.step j r h1).snoc (lt_of_some h1) ⟨o, env, v, al⟩ [S']
      rw [← List.reverse_cons] at this
      exact this
    · subst h2
      rw [f.len] at h1
      subst h1
      refine ⟨ho, f.al, by simp only; rw [List.take_append_of_le_length (by rw [f.len]; exact Nat.le_refl _), List.take_of_length_le (by rw [f.len]; exact Nat.le_refl _)]; exact f.env, fun h => (by simp only at h; rw [hm] at h; cases h), fun _ => ⟨S, S', ?_, ?_, .inr ⟨hw, ha⟩⟩⟩
      · rw [List.reverse_cons (a := S') (as := S :: Ss), List.getElem?_append_left (by rw [hl]; omega), List.reverse_cons, List.getElem?_append_right (by simp at hl ⊢; omega)]
        have : mvc e.c.P ops j - Ss.reverse.length = 0 := by simp at hl ⊢; omega
        rw [this]; rfl
      · rw [List.reverse_cons (a := S') (as := S :: Ss), List.getElem?_append_right (by rw [hl]; exact Nat.le_refl _), hl]
        simp

/-! ### what the checks say -/
theorem drawOk_at {P : Program} {ops : Array Oper} {b : List Nat} (h : drawOk P ops b = true) {i : Nat} {o : Oper} (ho : ops[i]? = some o) : drawOkAt P ops b i o = true := by
  unfold drawOk at h
  rw [List.all_eq_true] at h
  have hm : (o, i) ∈ ops.toList.zipIdx := by
    refine List.mem_of_getElem? (i := i) ?_
    have h1 : ops.toList[i]? = some o := by simpa using ho
    simp [h1]
  exact h _ hm
structure OkAt (P : Program) (ops : Array Oper) (b : List Nat) (i : Nat) (o : Oper) : Prop where
  good : goodOp o.op = true
  after : ∀ e ∈ o.after, Region.binds .any e = true → e.on < i
  guard : ∀ j w, o.guard = some (j, w) → ahead b i j = true
  other : ∀ (j : Nat) (p : Oper), j < i → ops[j]? = some p → (∀ t, o.dst = some t → p.dst ≠ some t) ∧
    (ahead b i j = true ∨ (¬ (moves P o = true ∧ moves P p = true) ∧ (∀ t, p.dst = some t → t ∉ readsTmp ops o) ∧ (∀ t, o.dst = some t → t ∉ readsTmp ops p)))
theorem drawOkAt_spec {P : Program} {ops : Array Oper} {b : List Nat} {i : Nat} {o : Oper} (h : drawOkAt P ops b i o = true) : OkAt P ops b i o := by
  unfold drawOkAt at h
  simp only [Bool.and_eq_true] at h
  obtain ⟨⟨⟨h1, h2⟩, h3⟩, h4⟩ := h
  refine ⟨h1, fun e he hb => ?_, fun j w hg => ?_, fun j p hj hp => ?_⟩
  · have := Array.all_eq_true_iff_forall_mem.1 h2 e he
    simpa [hb] using this
  · rw [hg] at h3; exact h3
  · rw [List.all_eq_true] at h4
    have := h4 j (List.mem_range.2 hj)
    simp only [hp, Bool.and_eq_true, Bool.or_eq_true] at this
    obtain ⟨h5, h6⟩ := this
    refine ⟨fun t ht hp' => ?_, h6.imp id fun h7 => ?_⟩
    · rcases h5 with h5 | h5
      · rw [ht] at h5; cases h5
      · rw [ht, hp'] at h5; simp at h5
    · obtain ⟨⟨h8, h9⟩, h10⟩ := h7
      refine ⟨fun h => ?_, fun t ht => ?_, fun t ht => ?_⟩
      · simp [h.1, h.2] at h8
      · rw [ht] at h9; simpa using h9
      · rw [ht] at h10; simpa using h10

theorem sameAll_at {e : Env0} {ops : Array Oper} {b : List Nat} {S0 : St} {base : Nat} {Ss : List St} : ∀ (rs : List Rec) (i0 : Nat), e.sameAll ops b S0 base Ss i0 rs = true → ∀ (j : Nat) (r : Rec), rs[j]? = some r →
    moves e.c.P r.o = true ∨ (e.c.pure r.o.op (e.c.evalR r.env (readsTmp ops r.o))).isSome = true ∨
      ∀ k S, k ≤ highs e.c.P ops b (i0 + j) → lows e.c.P ops b (i0 + j) ≤ k → Ss[k]? = some S → e.quietAt ops S0 base r.al r.o r.env S = some r.v := by
  intro rs
  induction rs with
  | nil => intro i0 _ j r h; simp at h
  | cons x rs ih =>
    intro i0 h j r hr
    simp only [Env0.sameAll, Bool.and_eq_true] at h
    cases j with
    | succ j =>
      have := ih (i0 + 1) h.2 j r (by simpa using hr)
      rw [show i0 + 1 + j = i0 + (j + 1) by omega] at this
      exact this
    | zero =>
      simp at hr
      subst hr
      rw [Nat.add_zero]
      have h1 := h.1
      simp only [Bool.or_eq_true, or_assoc] at h1
      refine h1.imp id (Or.imp id fun h2 k S hk1 hk2 hS => ?_)
      rw [List.all_eq_true] at h2
      have h3 := h2 k (List.mem_range.2 (by omega))
      simp only [hS, Bool.or_eq_true, decide_eq_true_eq] at h3
      rcases h3 with h3 | h3
      · omega
      · split at h3
        · rename_i v hv
          rw [hv, SV.beq_eq h3]
        · cases h3
end Go.Ab
