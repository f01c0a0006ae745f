import Derived.Test.YtdiphholophdcaaAbTags
set_option linter.unusedVariables false
set_option linter.unusedSimpArgs false
/- OLDER BLOCKS GET NO NEW TOKENS: regions, code, calls. -/
namespace Go.Ab

theorem prealloc_steps {e : Env0} : ∀ (l : List Oper) (S : St), e.n0 ≤ S.H.length → Steps1 e.n0 S (e.prealloc l S)
  | [], S, _ => .refl _ _
  | o :: r, S, hn => by
    simp only [Env0.prealloc]
    split
    · split
      · exact (steps_append hn [_] _).trans (prealloc_steps r _ (by simp; omega))
      · exact prealloc_steps r S hn
    · exact prealloc_steps r S hn

theorem lexD_steps {e : Env0} (hcall : CallTags e.call) {ops : Array Oper} {S0 : St} {base : Nat} (S1 : St) (hn : e.n0 ≤ S1.H.length) : ∀ (l : List Oper) (al : Nat) (env : Env) (Ss : List St) (recs : List Rec) (r : DRes),
    (∀ S ∈ Ss, Steps1 e.n0 S1 S) → e.lexD ops S0 base l al env Ss recs = some r →
    match r with | .ok _ Ss' _ => ∀ S ∈ Ss', Steps1 e.n0 S1 S | .panic _ S' _ _ _ => Steps1 e.n0 S1 S' := by
  intro l
  induction l with
  | nil => intro al env Ss recs r hS h; simp only [Env0.lexD] at h; cases h; exact hS
  | cons o rest ih =>
    intro al env Ss recs r hS h
    cases Ss with
    | nil => simp [Env0.lexD] at h
    | cons S Ss =>
      simp only [Env0.lexD] at h
      have hS0 := hS S (List.mem_cons_self ..)
      generalize (if allocs e.c.P o = true then al + 1 else al) = al' at h
      by_cases hm : moves e.c.P o = true
      · rw [if_pos hm] at h
        cases hw : wantedA ops env o with
        | none => simp [hw] at h
        | some b =>
          cases b with
          | false => simp only [hw] at h; exact ih _ _ _ _ _ (fun X hX => (List.mem_cons.1 hX).elim (fun e => e ▸ hS0) (hS X)) h
          | true =>
            simp only [hw] at h
            cases ha : e.act o.op (e.c.evalR env (readsTmp ops o)) S with
            | none => simp [ha] at h
            | some ar =>
              have hst := act_steps hcall (Nat.le_trans hn hS0.len) ha
              cases ar with
              | ok v S' =>
                simp only [ha] at h
                refine ih _ _ _ _ _ (fun X hX => ?_) h
                rcases List.mem_cons.1 hX with rfl | hX
                · exact hS0.trans hst
                · exact hS X hX
              | panic v S' =>
                simp only [ha] at h
                cases h
                exact hS0.trans hst
      · rw [if_neg hm] at h
        cases hq : e.quietAt ops S0 base al o env S with
        | none => simp [hq] at h
        | some v => simp only [hq] at h; exact ih _ _ _ _ _ hS h

theorem draws_steps {e : Env0} (hcall : CallTags e.call) {ops : Array Oper} {fr : Fr} {S : St} {r : Ex × Fr × St} (hn : e.n0 ≤ S.H.length) (h : e.draws ops fr S = some r) : Steps1 e.n0 S r.2.2 := by
  unfold Env0.draws Env0.drawsAt at h
  split at h <;> first | (cases h; done) | skip
  have hp := prealloc_steps ops.toList S hn
  split at h
  · rename_i env Ss recs hl
    have hs := lexD_steps hcall S hn _ _ _ _ _ _ (fun X hX => by rw [List.mem_singleton] at hX; subst hX; exact hp) hl
    split at h <;> cases h
    cases Ss with
    | nil => exact .refl _ _
    | cons X Ss => exact hs X (List.mem_cons_self ..)
  · rename_i v S' Ss recs rest hl
    have hs := lexD_steps hcall S hn _ _ _ _ _ _ (fun X hX => by rw [List.mem_singleton] at hX; subst hX; exact hp) hl
    split at h <;> cases h
    exact hs
  · cases h

theorem region_steps {e : Env0} (hcall : CallTags e.call) {ops : Array Oper} {draw : Bool} {fr : Fr} {S : St} {r : Ex × Fr × St} (hn : e.n0 ≤ S.H.length) (h : e.region ops draw fr S = some r) : Steps1 e.n0 S r.2.2 := by
  unfold Env0.region at h
  split at h
  · exact draws_steps hcall hn h
  · split at h
    · rename_i ho; cases h; exact ops_steps hcall _ _ _ _ hn ho
    · rename_i ho; cases h; exact ops_steps hcall _ _ _ _ hn ho
    · cases h

theorem tidy_steps {e : Env0} {env0 : Env} {S0 S : St} {fr : Fr} (h : Steps1 e.n0 S0 S) : Steps1 e.n0 S0 (e.tidy env0 S0 fr S).2 := by
  refine ⟨?_, fun n m hn ht b cells hb hc => ?_⟩
  · have := h.len
    simp [Env0.tidy]; omega
  · simp only [Env0.tidy] at hc
    exact h.tags n m hn ht b cells hb (take_some hc).2

theorem iter_steps {e : Env0} {f : Fr → St → Option (Ex × Fr × St)} {env0 : Env} {S0 : St} (hn : e.n0 ≤ S0.H.length) (hf : ∀ fr S r, e.n0 ≤ S.H.length → f fr S = some r → Steps1 e.n0 S r.2.2) :
    ∀ (k : Nat) (fr : Fr) (S : St) (r : Ex × Fr × St), Steps1 e.n0 S0 S → iter f (e.tidy env0 S0) k fr S = some r → Steps1 e.n0 S0 r.2.2 := by
  intro k
  induction k with
  | zero => intro fr S r _ h; cases h
  | succ k ih =>
    intro fr S r hS h
    simp only [iter] at h
    cases hx : f fr S with
    | none => rw [hx] at h; cases h
    | some q =>
      have h1 := hS.trans (hf fr S q (Nat.le_trans hn hS.len) hx)
      rw [hx] at h
      obtain ⟨ex, fr', S'⟩ := q
      cases ex with
      | normal => simp only at h; exact ih _ _ _ (tidy_steps h1) h
      | _ => simp only at h; cases h; exact h1

theorem code_steps {e : Env0} (hcall : CallTags e.call) (fuel : Nat) : ∀ (k : Code) (fr : Fr) (S : St) (r : Ex × Fr × St), e.n0 ≤ S.H.length → e.code fuel k fr S = some r → Steps1 e.n0 S r.2.2 := by
  intro k
  induction k with
  | skip => intro fr S r _ h; simp only [Env0.code] at h; cases h; exact .refl _ _
  | label => intro fr S r _ h; simp only [Env0.code] at h; cases h; exact .refl _ _
  | exit => intro fr S r _ h; simp only [Env0.code] at h; cases h; exact .refl _ _
  | ret => intro fr S r _ h; simp only [Env0.code] at h; cases h; exact .refl _ _
  | region id ops draw =>
    intro fr S r hn h
    simp only [Env0.code, Option.map_eq_some_iff] at h
    obtain ⟨q, hq, rfl⟩ := h
    have := region_steps hcall hn hq
    exact this
  | seq a b iha ihb =>
    intro fr S r hn h
    simp only [Env0.code] at h
    cases hx : e.code fuel a fr S with
    | none => rw [hx] at h; cases h
    | some q =>
      have h1 := iha fr S q hn hx
      rw [hx] at h
      obtain ⟨ex, fr', S'⟩ := q
      cases ex with
      | normal => simp only at h; exact h1.trans (ihb _ _ _ (Nat.le_trans hn h1.len) h)
      | _ => simp only at h; cases h; exact h1
  | cond x a b iha ihb =>
    intro fr S r hn h
    simp only [Env0.code] at h
    split at h
    · exact iha _ _ _ hn h
    · exact ihb _ _ _ hn h
    · cases h
  | block id body ih =>
    intro fr S r hn h
    simp only [Env0.code] at h
    cases hx : e.code fuel body fr S with
    | none => rw [hx] at h; cases h
    | some q =>
      have h1 := ih fr S q hn hx
      rw [hx] at h
      obtain ⟨ex, fr', S'⟩ := q
      cases ex with
      | exit i => simp only at h; split at h <;> cases h <;> exact h1
      | _ => simp only at h; cases h; exact h1
  | loop body ih =>
    intro fr S r hn h
    simp only [Env0.code] at h
    exact iter_steps hn (fun fr S r hn h => ih fr S r hn h) fuel fr S r (.refl _ _) h
  | rangeFunc => intro fr S r _ h; simp [Env0.code] at h
  | scope => intro fr S r _ h; simp [Env0.code] at h
  | goto => intro fr S r _ h; simp [Env0.code] at h
  | refuse => intro fr S r _ h; simp [Env0.code] at h

theorem opsD_steps {e : Env0} (hcall : CallTags e.call) {ops : Array Oper} : ∀ (rest : List Oper) (u : Below1) (fr : Fr) (S : St) (r : Below1 × ORes), e.n0 ≤ S.H.length → e.opsD ops rest u fr S = some r →
    Steps1 e.n0 S (match r.2 with | .ok _ S' => S' | .panic _ _ S' => S') := by
  intro rest
  induction rest with
  | nil => intro u fr S r _ h; simp only [Env0.opsD] at h; cases h; exact .refl _ _
  | cons o rest ih =>
    intro u fr S r hn h
    simp only [Env0.opsD] at h
    split at h
    · split at h
      · exact ih _ _ _ _ hn h
      · exact ih _ _ _ _ hn h
    · split at h
      · rename_i fr' S' hs
        have h1 := step_steps hcall hn hs
        exact h1.trans (ih _ _ _ _ (Nat.le_trans hn h1.len) h)
      · rename_i v fr' S' hs
        have h1 := step_steps hcall hn hs
        cases h
        exact h1
      · cases h

theorem map_code_steps {e : Env0} (hcall : CallTags e.call) {fuel : Nat} {k : Code} {u : Below1} {fr : Fr} {S : St} {r : Below1 × Ex × Fr × St} (hn : e.n0 ≤ S.H.length) (h : ((e.code fuel k fr S).map fun r => (u, r)) = some r) : Steps1 e.n0 S r.2.2.2 := by
  cases hx : e.code fuel k fr S with
  | none => rw [hx] at h; cases h
  | some q => rw [hx] at h; cases h; exact code_steps hcall fuel k fr S q hn hx

theorem codeD_steps {e : Env0} (hcall : CallTags e.call) (fuel : Nat) : ∀ (k : Code) (u : Below1) (fr : Fr) (S : St) (r : Below1 × Ex × Fr × St), e.n0 ≤ S.H.length → e.codeD fuel k u fr S = some r → Steps1 e.n0 S r.2.2.2 := by
  intro k
  induction k with
  | seq a b iha ihb =>
    intro u fr S r hn h
    simp only [Env0.codeD] at h
    split at h
    · cases hx : e.codeD fuel a u fr S with
      | none => rw [hx] at h; cases h
      | some q =>
        have h1 := iha u fr S q hn hx
        rw [hx] at h
        obtain ⟨u', ex, fr', S'⟩ := q
        cases ex with
        | normal => simp only at h; exact h1.trans (ihb _ _ _ _ (Nat.le_trans hn h1.len) h)
        | _ => simp only at h; cases h; exact h1
    · exact map_code_steps hcall hn h
  | region id ops draw =>
    intro u fr S r hn h
    cases draw with
    | false =>
      simp only [Env0.codeD] at h
      split at h
      · split at h
        · rename_i ho; cases h; exact opsD_steps hcall _ _ _ _ _ hn ho
        · rename_i ho; cases h; exact opsD_steps hcall _ _ _ _ _ hn ho
        · cases h
      · exact map_code_steps hcall hn h
    | true => simp only [Env0.codeD] at h; exact map_code_steps hcall hn h
  | _ => intro u fr S r hn h; simp only [Env0.codeD] at h; exact map_code_steps hcall hn h

/-- what a call leaves: the blocks that stood, with their tokens; no new block holds a token of the caller's -/
theorem steps_cut {S S' : St} (h : Steps1 S.H.length S S') (T : List Nat) : Steps1 S.H.length S ⟨S'.H.take S.H.length, T⟩ := by
  refine ⟨by have := h.len; simp; omega, fun n m hn ht b cells hb hc => ?_⟩
  exact h.tags n m hn ht b cells hb (take_some hc).2
theorem leave_steps {S S' : St} {vs : List SV} (h : Steps1 S.H.length S S') : Steps1 S.H.length S (leave S.H.length S.T.length S' vs).2 := by
  unfold leave
  split
  · exact steps_cut h _
  · exact h
theorem finish_steps {c : Ctx} {fn : Func} {S S' : St} {fr : Fr} {out : COut} {S2 : St} (h : Steps1 S.H.length S S') (hf : c.finish fn S.H.length S.T.length fr S' = some (out, S2)) : Steps1 S.H.length S S2 := by
  unfold Ctx.finish at hf
  split at hf
  · have e := congrArg Prod.snd (Option.some.inj hf)
    simp only at e
    rw [← e]; exact leave_steps h
  · cases hf
theorem panicked_steps {S S' : St} {v : AV} {out : COut} {S2 : St} (h : Steps1 S.H.length S S') (hf : panicked S.H.length S.T.length v S' = some (out, S2)) : Steps1 S.H.length S S2 := by
  unfold panicked at hf
  split at hf
  · cases hf; exact steps_cut h _
  · cases hf

theorem deferred_steps {c : Ctx} {pre : TypeId → Bool} {call : CallFn} (hcall : CallTags call) {n : Nat} {g : FuncId} {args : List SV} {u : Below1} {S : St} {u' : Below1} {S' : St}
    (h : c.deferred pre call n g args u S = some (u', S')) : Steps1 S.H.length S S' := by
  unfold Ctx.deferred at h
  split at h <;> first | (cases h; done) | skip
  split at h <;> first | (cases h; done) | skip
  split at h <;> first | (cases h; done) | skip
  split at h
  · rename_i hx
    cases h
    exact steps_cut (codeD_steps (e := ⟨c, pre, S.H.length, S.T.length, call, c.drop g⟩) hcall n _ _ _ _ _ (Nat.le_refl _) hx) _
  · rename_i hx
    cases h
    exact steps_cut (codeD_steps (e := ⟨c, pre, S.H.length, S.T.length, call, c.drop g⟩) hcall n _ _ _ _ _ (Nat.le_refl _) hx) _
  · cases h

theorem ends_steps {c : Ctx} {pre : TypeId → Bool} {call : CallFn} (hcall : CallTags call) {n : Nat} {fn : Func} {S : St} {r : Option (Ex × Fr × St)} {out : COut} {S2 : St} (hr : ∀ q, r = some q → Steps1 S.H.length S q.2.2)
    (h : c.ends pre call n fn S.H.length S.T.length r = some (out, S2)) : Steps1 S.H.length S S2 := by
  unfold Ctx.ends at h
  split at h
  · have hs := hr _ rfl
    split at h
    · exact finish_steps hs h
    · exact finish_steps hs h
    · exact panicked_steps hs h
    · cases h
  · have hs := hr _ rfl
    split at h
    · split at h
      · rename_i hd; exact finish_steps (hs.trans ((deferred_steps hcall hd).mono hs.len)) h
      · cases h
    · split at h
      · rename_i hd; exact finish_steps (hs.trans ((deferred_steps hcall hd).mono hs.len)) h
      · cases h
    · split at h
      · rename_i hd; exact finish_steps (hs.trans ((deferred_steps hcall hd).mono hs.len)) h
      · rename_i hd; exact panicked_steps (hs.trans ((deferred_steps hcall hd).mono hs.len)) h
      · cases h
    · cases h
  · cases h

theorem call_steps {c : Ctx} {pre : TypeId → Bool} {ext : FuncId → Option (List SV → St → Option (COut × St))} (hext : ∀ f g, ext f = some g → ∀ args S out S', g args S = some (out, S') → Steps1 S.H.length S S') :
    ∀ n, CallTags (Ctx.call c pre ext n) := by
  intro n
  induction n with
  | zero => intro f args S out S' h; cases h
  | succ n ih =>
    intro f args S out S' h
    simp only [Ctx.call] at h
    split at h
    · rename_i g hg; exact hext f g hg _ _ _ _ h
    · split at h <;> first | (cases h; done) | skip
      split at h <;> first | (cases h; done) | skip
      exact ends_steps ih (fun q hq => code_steps (e := ⟨c, pre, S.H.length, S.T.length, Ctx.call c pre ext n, c.drop f⟩) ih n _ _ _ _ (Nat.le_refl _) hq) h
end Go.Ab
