import Derived.Test.YtdiphholophdcabGreatDoorXSAbAct2
import Derived.LoopN
import Derived.Laws.Sem
import Derived.Recover
set_option linter.all false
section
/- OLDER BLOCKS GET NO NEW TOKENS: regions, code, calls. -/
namespace Go.Ab

theorem prealloc_steps {e : Env0} : ∀ (l : List Oper) (S : St), e.n0 ≤ S.H.length → Steps1 e.n0 S (e.prealloc l S)
  | [], S, _ => .refl _ _
  | o :: r, S, hn => by
    simp only [Env0.prealloc]
    split
    · split
      · exact (steps_append hn [_] _).trans (prealloc_steps r _ (by simp; omega))
      · exact prealloc_steps r S hn
    · exact prealloc_steps r S hn

theorem lexD_steps {e : Env0} (hcall : CallTags e.call) {ops : Array Oper} {S0 : St} {base : Nat} (S1 : St) (hn : e.n0 ≤ S1.H.length) : ∀ (l : List Oper) (al : Nat) (env : Env) (Ss : List St) (recs : List Rec) (r : DRes),
    (∀ S ∈ Ss, Steps1 e.n0 S1 S) → e.lexD ops S0 base l al env Ss recs = some r →
    match r with | .ok _ Ss' _ => ∀ S ∈ Ss', Steps1 e.n0 S1 S | .panic _ S' _ _ _ => Steps1 e.n0 S1 S' := by
  intro l
  induction l with
  | nil => intro al env Ss recs r hS h; simp only [Env0.lexD] at h; cases h; exact hS
  | cons o rest ih =>
    intro al env Ss recs r hS h
    cases Ss with
    | nil => simp [Env0.lexD] at h
    | cons S Ss =>
      simp only [Env0.lexD] at h
      have hS0 := hS S (List.mem_cons_self ..)
      generalize (if allocs e.c.P o = true then al + 1 else al) = al' at h
      by_cases hm : moves e.c.P o = true
      · rw [if_pos hm] at h
        cases hw : wantedA ops env o with
        | none => simp [hw] at h
        | some b =>
          cases b with
          | false => simp only [hw] at h; exact ih _ _ _ _ _ (fun X hX => (List.mem_cons.1 hX).elim (fun e => e ▸ hS0) (hS X)) h
          | true =>
            simp only [hw] at h
            cases ha : e.act o.op (e.c.evalR env (readsTmp ops o)) S with
            | none => simp [ha] at h
            | some ar =>
              have hst := act_steps hcall (Nat.le_trans hn hS0.len) ha
              cases ar with
              | ok v S' =>
                simp only [ha] at h
                refine ih _ _ _ _ _ (fun X hX => ?_) h
                rcases List.mem_cons.1 hX with rfl | hX
                · exact hS0.trans hst
                · exact hS X hX
              | panic v S' =>
                simp only [ha] at h
                cases h
                exact hS0.trans hst
      · rw [if_neg hm] at h
        cases hq : e.quietAt ops S0 base al o env S with
        | none => simp [hq] at h
        | some v => simp only [hq] at h; exact ih _ _ _ _ _ hS h

theorem draws_steps {e : Env0} (hcall : CallTags e.call) {ops : Array Oper} {fr : Fr} {S : St} {r : Ex × Fr × St} (hn : e.n0 ≤ S.H.length) (h : e.draws ops fr S = some r) : Steps1 e.n0 S r.2.2 := by
  unfold Env0.draws Env0.drawsAt at h
  split at h <;> first | (cases h; done) | skip
  have hp := prealloc_steps ops.toList S hn
  split at h
  · rename_i env Ss recs hl
    have hs := lexD_steps hcall S hn _ _ _ _ _ _ (fun X hX => by rw [List.mem_singleton] at hX; subst hX; exact hp) hl
    split at h <;> cases h
    cases Ss with
    | nil => exact .refl _ _
    | cons X Ss => exact hs X (List.mem_cons_self ..)
  · rename_i v S' Ss recs rest hl
    have hs := lexD_steps hcall S hn _ _ _ _ _ _ (fun X hX => by rw [List.mem_singleton] at hX; subst hX; exact hp) hl
    split at h <;> cases h
    exact hs
  · cases h

theorem region_steps {e : Env0} (hcall : CallTags e.call) {ops : Array Oper} {draw : Bool} {fr : Fr} {S : St} {r : Ex × Fr × St} (hn : e.n0 ≤ S.H.length) (h : e.region ops draw fr S = some r) : Steps1 e.n0 S r.2.2 := by
  unfold Env0.region at h
  split at h
  · exact draws_steps hcall hn h
  · split at h
    · rename_i ho; cases h; exact ops_steps hcall _ _ _ _ hn ho
    · rename_i ho; cases h; exact ops_steps hcall _ _ _ _ hn ho
    · cases h

theorem tidy_steps {e : Env0} {env0 : Env} {S0 S : St} {fr : Fr} (h : Steps1 e.n0 S0 S) : Steps1 e.n0 S0 (e.tidy env0 S0 fr S).2 := by
  refine ⟨?_, fun n m hn ht b cells hb hc => ?_⟩
  · have := h.len
    simp [Env0.tidy]; omega
  · simp only [Env0.tidy] at hc
    exact h.tags n m hn ht b cells hb (take_some hc).2

theorem iter_steps {e : Env0} {f : Fr → St → Option (Ex × Fr × St)} {env0 : Env} {S0 : St} (hn : e.n0 ≤ S0.H.length) (hf : ∀ fr S r, e.n0 ≤ S.H.length → f fr S = some r → Steps1 e.n0 S r.2.2) :
    ∀ (k : Nat) (fr : Fr) (S : St) (r : Ex × Fr × St), Steps1 e.n0 S0 S → iter f (e.tidy env0 S0) k fr S = some r → Steps1 e.n0 S0 r.2.2 := by
  intro k
  induction k with
  | zero => intro fr S r _ h; cases h
  | succ k ih =>
    intro fr S r hS h
    simp only [iter] at h
    cases hx : f fr S with
    | none => rw [hx] at h; cases h
    | some q =>
      have h1 := hS.trans (hf fr S q (Nat.le_trans hn hS.len) hx)
      rw [hx] at h
      obtain ⟨ex, fr', S'⟩ := q
      cases ex with
      | normal => simp only at h; exact ih _ _ _ (tidy_steps h1) h
      | _ => simp only at h; cases h; exact h1

theorem code_steps {e : Env0} (hcall : CallTags e.call) (fuel : Nat) : ∀ (k : Code) (fr : Fr) (S : St) (r : Ex × Fr × St), e.n0 ≤ S.H.length → e.code fuel k fr S = some r → Steps1 e.n0 S r.2.2 := by
  intro k
  induction k with
  | skip => intro fr S r _ h; simp only [Env0.code] at h; cases h; exact .refl _ _
  | label => intro fr S r _ h; simp only [Env0.code] at h; cases h; exact .refl _ _
  | exit => intro fr S r _ h; simp only [Env0.code] at h; cases h; exact .refl _ _
  | ret => intro fr S r _ h; simp only [Env0.code] at h; cases h; exact .refl _ _
  | region id ops draw =>
    intro fr S r hn h
    simp only [Env0.code, Option.map_eq_some_iff] at h
    obtain ⟨q, hq, rfl⟩ := h
    have := region_steps hcall hn hq
    exact this
  | seq a b iha ihb =>
    intro fr S r hn h
    simp only [Env0.code] at h
    cases hx : e.code fuel a fr S with
    | none => rw [hx] at h; cases h
    | some q =>
      have h1 := iha fr S q hn hx
      rw [hx] at h
      obtain ⟨ex, fr', S'⟩ := q
      cases ex with
      | normal => simp only at h; exact h1.trans (ihb _ _ _ (Nat.le_trans hn h1.len) h)
      | _ => simp only at h; cases h; exact h1
  | cond x a b iha ihb =>
    intro fr S r hn h
    simp only [Env0.code] at h
    split at h
    · exact iha _ _ _ hn h
    · exact ihb _ _ _ hn h
    · cases h
  | block id body ih =>
    intro fr S r hn h
    simp only [Env0.code] at h
    cases hx : e.code fuel body fr S with
    | none => rw [hx] at h; cases h
    | some q =>
      have h1 := ih fr S q hn hx
      rw [hx] at h
      obtain ⟨ex, fr', S'⟩ := q
      cases ex with
      | exit i => simp only at h; split at h <;> cases h <;> exact h1
      | _ => simp only at h; cases h; exact h1
  | loop body ih =>
    intro fr S r hn h
    simp only [Env0.code] at h
    exact iter_steps hn (fun fr S r hn h => ih fr S r hn h) fuel fr S r (.refl _ _) h
  | rangeFunc => intro fr S r _ h; simp [Env0.code] at h
  | scope => intro fr S r _ h; simp [Env0.code] at h
  | goto => intro fr S r _ h; simp [Env0.code] at h
  | refuse => intro fr S r _ h; simp [Env0.code] at h

theorem opsD_steps {e : Env0} (hcall : CallTags e.call) {ops : Array Oper} : ∀ (rest : List Oper) (u : Below1) (fr : Fr) (S : St) (r : Below1 × ORes), e.n0 ≤ S.H.length → e.opsD ops rest u fr S = some r →
    Steps1 e.n0 S (match r.2 with | .ok _ S' => S' | .panic _ _ S' => S') := by
  intro rest
  induction rest with
  | nil => intro u fr S r _ h; simp only [Env0.opsD] at h; cases h; exact .refl _ _
  | cons o rest ih =>
    intro u fr S r hn h
    simp only [Env0.opsD] at h
    split at h
    · split at h
      · exact ih _ _ _ _ hn h
      · exact ih _ _ _ _ hn h
    · split at h
      · rename_i fr' S' hs
        have h1 := step_steps hcall hn hs
        exact h1.trans (ih _ _ _ _ (Nat.le_trans hn h1.len) h)
      · rename_i v fr' S' hs
        have h1 := step_steps hcall hn hs
        cases h
        exact h1
      · cases h

theorem map_code_steps {e : Env0} (hcall : CallTags e.call) {fuel : Nat} {k : Code} {u : Below1} {fr : Fr} {S : St} {r : Below1 × Ex × Fr × St} (hn : e.n0 ≤ S.H.length) (h : ((e.code fuel k fr S).map fun r => (u, r)) = some r) : Steps1 e.n0 S r.2.2.2 := by
  cases hx : e.code fuel k fr S with
  | none => rw [hx] at h; cases h
  | some q => rw [hx] at h; cases h; exact code_steps hcall fuel k fr S q hn hx

theorem codeD_steps {e : Env0} (hcall : CallTags e.call) (fuel : Nat) : ∀ (k : Code) (u : Below1) (fr : Fr) (S : St) (r : Below1 × Ex × Fr × St), e.n0 ≤ S.H.length → e.codeD fuel k u fr S = some r → Steps1 e.n0 S r.2.2.2 := by
  intro k
  induction k with
  | seq a b iha ihb =>
    intro u fr S r hn h
    simp only [Env0.codeD] at h
    split at h
    · cases hx : e.codeD fuel a u fr S with
      | none => rw [hx] at h; cases h
      | some q =>
        have h1 := iha u fr S q hn hx
        rw [hx] at h
        obtain ⟨u', ex, fr', S'⟩ := q
        cases ex with
        | normal => simp only at h; exact h1.trans (ihb _ _ _ _ (Nat.le_trans hn h1.len) h)
        | _ => simp only at h; cases h; exact h1
    · exact map_code_steps hcall hn h
  | region id ops draw =>
    intro u fr S r hn h
    cases draw with
    | false =>
      simp only [Env0.codeD] at h
      split at h
      · split at h
        · rename_i ho; cases h; exact opsD_steps hcall _ _ _ _ _ hn ho
        · rename_i ho; cases h; exact opsD_steps hcall _ _ _ _ _ hn ho
        · cases h
      · exact map_code_steps hcall hn h
    | true => simp only [Env0.codeD] at h; exact map_code_steps hcall hn h
  | _ => intro u fr S r hn h; simp only [Env0.codeD] at h; exact map_code_steps hcall hn h

/-- what a call leaves: the blocks that stood, with their tokens; no new block holds a token of the caller's -/
theorem steps_cut {S S' : St} (h : Steps1 S.H.length S S') (T : List Nat) : Steps1 S.H.length S ⟨S'.H.take S.H.length, T⟩ := by
  refine ⟨by have := h.len; simp; omega, fun n m hn ht b cells hb hc => ?_⟩
  exact h.tags n m hn ht b cells hb (take_some hc).2
theorem leave_steps {S S' : St} {vs : List SV} (h : Steps1 S.H.length S S') : Steps1 S.H.length S (leave S.H.length S.T.length S' vs).2 := by
  unfold leave
  split
  · exact steps_cut h _
  · exact h
theorem finish_steps {c : Ctx} {fn : Func} {S S' : St} {fr : Fr} {out : COut} {S2 : St} (h : Steps1 S.H.length S S') (hf : c.finish fn S.H.length S.T.length fr S' = some (out, S2)) : Steps1 S.H.length S S2 := by
  unfold Ctx.finish at hf
  split at hf
  · have e := congrArg Prod.snd (Option.some.inj hf)
    simp only at e
    rw [← e]; exact leave_steps h
  · cases hf
theorem panicked_steps {S S' : St} {v : AV} {out : COut} {S2 : St} (h : Steps1 S.H.length S S') (hf : panicked S.H.length S.T.length v S' = some (out, S2)) : Steps1 S.H.length S S2 := by
  unfold panicked at hf
  split at hf
  · cases hf; exact steps_cut h _
  · cases hf

theorem deferred_steps {c : Ctx} {pre : TypeId → Bool} {call : CallFn} (hcall : CallTags call) {n : Nat} {g : FuncId} {args : List SV} {u : Below1} {S : St} {u' : Below1} {S' : St}
    (h : c.deferred pre call n g args u S = some (u', S')) : Steps1 S.H.length S S' := by
  unfold Ctx.deferred at h
  split at h <;> first | (cases h; done) | skip
  split at h <;> first | (cases h; done) | skip
  split at h <;> first | (cases h; done) | skip
  split at h
  · rename_i hx
    cases h
    exact steps_cut (codeD_steps (e := ⟨c, pre, S.H.length, S.T.length, call, c.drop g⟩) hcall n _ _ _ _ _ (Nat.le_refl _) hx) _
  · rename_i hx
    cases h
    exact steps_cut (codeD_steps (e := ⟨c, pre, S.H.length, S.T.length, call, c.drop g⟩) hcall n _ _ _ _ _ (Nat.le_refl _) hx) _
  · cases h

theorem ends_steps {c : Ctx} {pre : TypeId → Bool} {call : CallFn} (hcall : CallTags call) {n : Nat} {fn : Func} {S : St} {r : Option (Ex × Fr × St)} {out : COut} {S2 : St} (hr : ∀ q, r = some q → Steps1 S.H.length S q.2.2)
    (h : c.ends pre call n fn S.H.length S.T.length r = some (out, S2)) : Steps1 S.H.length S S2 := by
  unfold Ctx.ends at h
  split at h
  · have hs := hr _ rfl
    split at h
    · exact finish_steps hs h
    · exact finish_steps hs h
    · exact panicked_steps hs h
    · cases h
  · have hs := hr _ rfl
    split at h
    · split at h
      · rename_i hd; exact finish_steps (hs.trans ((deferred_steps hcall hd).mono hs.len)) h
      · cases h
    · split at h
      · rename_i hd; exact finish_steps (hs.trans ((deferred_steps hcall hd).mono hs.len)) h
      · cases h
    · split at h
      · rename_i hd; exact finish_steps (hs.trans ((deferred_steps hcall hd).mono hs.len)) h
      · rename_i hd; exact panicked_steps (hs.trans ((deferred_steps hcall hd).mono hs.len)) h
      · cases h
    · cases h
  · cases h

theorem call_steps {c : Ctx} {pre : TypeId → Bool} {ext : FuncId → Option (List SV → St → Option (COut × St))} (hext : ∀ f g, ext f = some g → ∀ args S out S', g args S = some (out, S') → Steps1 S.H.length S S') :
    ∀ n, CallTags (Ctx.call c pre ext n) := by
  intro n
  induction n with
  | zero => intro f args S out S' h; cases h
  | succ n ih =>
    intro f args S out S' h
    simp only [Ctx.call] at h
    split at h
    · rename_i g hg; exact hext f g hg _ _ _ _ h
    · split at h <;> first | (cases h; done) | skip
      split at h <;> first | (cases h; done) | skip
      exact ends_steps ih (fun q hq => code_steps (e := ⟨c, pre, S.H.length, S.T.length, Ctx.call c pre ext n, c.drop f⟩) ih n _ _ _ _ (Nat.le_refl _) hq) h
end Go.Ab
end
section
/- CODE: loops, blocks, branches. -/
namespace Go.Ab
open Go.RowKit

theorem Tag.low1_of_max {t : Tag} {m : Nat} (h : t.max1 ≤ m) : t.low1 m = true := by
  cases t with
  | tok id => simp only [Tag.max1] at h; simp only [Tag.low1, decide_eq_true_eq]; omega
  | _ => rfl
theorem foldl_max1 (ts : List Tag) : ∀ k, k ≤ ts.foldl (fun m t => max m t.max1) k ∧ ∀ t ∈ ts, t.max1 ≤ ts.foldl (fun m t => max m t.max1) k := by
  induction ts with
  | nil => intro k; exact ⟨Nat.le_refl _, fun _ h => by cases h⟩
  | cons t ts ih =>
    intro k
    simp only [List.foldl_cons]
    obtain ⟨h1, h2⟩ := ih (max k t.max1)
    refine ⟨by omega, fun x hx => ?_⟩
    rcases List.mem_cons.1 hx with rfl | hx
    · omega
    · exact h2 x hx
theorem Tag.low_of_max {t : Tag} {m : Nat} (h : t.maxTok ≤ m) : t.low m = true := by
  cases t with
  | agg ts =>
    simp only [Tag.maxTok] at h
    simp only [Tag.low, List.all_eq_true]
    exact fun x hx => Tag.low1_of_max (Nat.le_trans ((foldl_max1 ts 0).2 x hx) h)
  | tok id => exact Tag.low1_of_max (t := .tok id) h
  | _ => rfl
theorem maxTok_le (l : List SV) : ∀ m, m ≤ maxTok l m ∧ ∀ x ∈ l, x.2.maxTok ≤ maxTok l m := by
  induction l with
  | nil => intro m; exact ⟨Nat.le_refl _, fun _ h => by cases h⟩
  | cons t ts ih =>
    intro m
    unfold maxTok at *
    simp only [List.foldl_cons]
    obtain ⟨h1, h2⟩ := ih (max m t.2.maxTok)
    refine ⟨by omega, fun x hx => ?_⟩
    rcases List.mem_cons.1 hx with rfl | hx
    · omega
    · exact h2 x hx
theorem maxBlk_le (ls : List Blk) : ∀ m, m ≤ ls.foldl (fun m b => maxTok b m) m ∧ ∀ b ∈ ls, ∀ x ∈ b, x.2.maxTok ≤ ls.foldl (fun m b => maxTok b m) m := by
  induction ls with
  | nil => intro m; exact ⟨Nat.le_refl _, fun _ h => by cases h⟩
  | cons t ts ih =>
    intro m
    simp only [List.foldl_cons]
    obtain ⟨h1, h2⟩ := ih (maxTok t m)
    obtain ⟨k1, k2⟩ := maxTok_le t m
    refine ⟨by omega, fun b hb x hx => ?_⟩
    rcases List.mem_cons.1 hb with rfl | hb
    · exact Nat.le_trans (k2 x hx) h1
    · exact h2 b hb x hx

theorem tidyEnv_len (n : Nat) : ∀ (es fs : Env), (tidyEnv n es fs).length = fs.length := by
  intro es fs
  induction fs generalizing es with
  | nil => cases es <;> rfl
  | cons f fs ih => cases es with
    | nil => simp [tidyEnv, ih]
    | cons e es => simp [tidyEnv, ih]
/-- what a slot holds behind a round: what it held, or nothing -/
theorem tidyEnv_at (n : Nat) (fs : Env) : ∀ (es : Env) (i : Nat) (h : i < (tidyEnv n es fs).length) (h' : i < fs.length), (tidyEnv n es fs)[i] = (.undef, .no) ∨ (tidyEnv n es fs)[i] = SV.low' n fs[i] := by
  induction fs with
  | nil => intro es i h h'; simp at h'
  | cons f fs ih =>
    intro es i h h'
    cases i with
    | zero =>
      cases es with
      | nil => right; simp [tidyEnv]
      | cons e es =>
        simp only [tidyEnv, List.getElem_cons_zero]
        split
        · exact .inl rfl
        · exact .inr rfl
    | succ i =>
      have hl : i < fs.length := by simpa using h'
      cases es with
      | nil =>
        simp only [tidyEnv, List.getElem_cons_succ]
        exact ih [] i (by rw [tidyEnv_len]; exact hl) hl
      | cons e es =>
        simp only [tidyEnv, List.getElem_cons_succ]
        exact ih es i (by rw [tidyEnv_len]; exact hl) hl

theorem Grows.len_T {G G' : Gh} {T T' : List Nat} (g : Grows G T G' T') : T.length ≤ T'.length := by
  rcases Nat.lt_or_ge T'.length T.length with hl | hl
  · obtain ⟨n', h1, _⟩ := g.T T'.length T[T'.length] (List.getElem?_eq_getElem hl)
    rw [List.getElem?_eq_none (Nat.le_refl _)] at h1
    cases h1
  · exact hl

section
variable {c : Ctx} {B : Bd} {w0 : World}

/-- the invariants of a frame -/
structure Fit (e : Env0) (S : St) : Prop where
  n : e.n0 ≤ S.H.length
  m : e.m0 ≤ S.T.length
  tags : TagsLow e.n0 e.m0 S
theorem Fit.step {e : Env0} {S S' : St} (f : Fit e S) (s : Steps1 e.n0 S S') (hT : S.T.length ≤ S'.T.length) : Fit e S' := ⟨Nat.le_trans f.n s.len, Nat.le_trans f.m hT, s.tags _ _ (Nat.le_refl _) f.tags⟩

theorem RS.low' {G : Gh} {T : List Nat} {n M : Nat} {x : SV} {v : Value} (h : RS G T x v) (hk : KeepsT G T n M (SV.low' n x)) : RS (G.cut n M) (T.take M) (SV.low' n x) v := by
  unfold SV.low' at *
  split
  · rename_i hx
    simp only [hx, if_true] at hk
    exact ⟨h.1.cut hx, hk v h.2⟩
  · exact .no (.undef v)

theorem tidy_sound {e : Env0} {env0 : Env} {G0 G : Gh} {S0 S : St} {fr : Fr} {w : World} {a : Act} (i0 : G0.φ.length = S0.H.length) (inv : Inv c B w0 G S w) (g : Grows G0 S0.T G S.T) (hfr : FrR G S.T fr a) (hfit : Fit e S0) (hfit' : Fit e S) :
    ∃ G', Inv c B w0 G' (e.tidy env0 S0 fr S).2 w ∧ Grows G0 S0.T G' (e.tidy env0 S0 fr S).2.T ∧ FrR G' (e.tidy env0 S0 fr S).2.T (e.tidy env0 S0 fr S).1 a := by
  have main : ∀ M, S0.T.length ≤ M → (∀ x ∈ tidyEnv S0.H.length env0 fr.env, KeepsT G S.T S0.H.length M x) →
      (∀ (b : Nat) (cells : Blk), e.n0 ≤ b → b < S0.H.length → S.H[b]? = some cells → ∀ x ∈ cells, x.2.low M = true) →
      Inv c B w0 (G.cut S0.H.length M) ⟨S.H.take S0.H.length, S.T.take M⟩ w ∧ Grows G0 S0.T (G.cut S0.H.length M) (S.T.take M) ∧
        FrR (G.cut S0.H.length M) (S.T.take M) (e.tidy env0 S0 fr S).1 a := by
    intro M hM henv hblk
    refine ⟨inv.cut fun b cells hb hc x hx => ?_, g.cut (by omega) hM, ⟨⟨by simp [Env0.tidy, tidyEnv_len, hfr.env.len], fun i h h' => ?_⟩, ?_⟩⟩
    · rcases Nat.lt_or_ge b e.n0 with hl | hl
      · have := hfit'.tags b cells hl hc x hx
        exact Tag.low_mono (by have := hfit.m; omega) this
      · exact hblk b cells hl hb hc x hx
    · simp only [Env0.tidy] at h ⊢
      have hl : i < fr.env.length := by rw [tidyEnv_len] at h; exact h
      have hk := henv _ (List.getElem_mem h)
      rcases tidyEnv_at S0.H.length fr.env env0 i h hl with e1 | e1
      · rw [e1]; exact .no (.undef _)
      · rw [e1] at hk ⊢
        exact (hfr.env.at_ i hl h').low' hk
    · simp only [Env0.tidy]
      have hd := hfr.ds
      generalize fr.ds = xs at hd
      generalize a.defers = ds at hd
      induction xs generalizing ds with
      | nil => cases ds with
        | nil => trivial
        | cons => exact hd.elim
      | cons x xs ih => cases ds with
        | nil => exact hd.elim
        | cons d ds =>
          refine ⟨?_, ih _ hd.2⟩
          obtain ⟨cap, h1, h2, h3⟩ := hd.1
          refine ⟨cap, h1, by simpa using h2, fun i h h' => ?_⟩
          simp only [List.length_map] at h
          simp only [List.getElem_map]
          obtain ⟨r1, r2⟩ := h3 i h h'
          unfold SV.low'
          split
          · rename_i hx; exact ⟨r1.cut hx, r2⟩
          · exact ⟨.undef _, rfl⟩
  have hT : (e.tidy env0 S0 fr S).2 = ⟨S.H.take S0.H.length, tidyT S0.T.length S.T (tidyEnv S0.H.length env0 fr.env) ((S.H.take S0.H.length).drop e.n0)⟩ := rfl
  rw [hT]
  unfold tidyT
  split
  · rename_i hl
    have := main S.T.length (by omega) (fun x _ => keeps_all inv.lenO) (fun b cells _ _ hc x hx => inv.tag b cells hc x hx)
    rw [List.take_length] at this
    exact ⟨_, this⟩
  · have h1 := maxTok_le (tidyEnv S0.H.length env0 fr.env) S0.T.length
    have h2 := maxBlk_le ((S.H.take S0.H.length).drop e.n0) (maxTok (tidyEnv S0.H.length env0 fr.env) S0.T.length)
    refine ⟨_, main _ (Nat.le_trans h1.1 h2.1) (fun x hx => keeps_of_low (Tag.low_of_max (Nat.le_trans (h1.2 x hx) h2.1))) (fun b cells hb hb' hc x hx => Tag.low_of_max (h2.2 cells ?_ x hx))⟩
    refine List.mem_of_getElem? (i := b - e.n0) ?_
    rw [List.getElem?_drop, List.getElem?_take]
    rw [show e.n0 + (b - e.n0) = b by omega, if_pos hb']
    exact hc

/-- A REGION WHOSE ORDER IS OPEN. -/
def DrawSound (c : Ctx) (B : Bd) (w0 : World) (e : Env0) : Prop := ∀ (id : Nat) (ops : Array Oper) (fr : Fr) (S : St) (r : Ex × Fr × St) (a : Act) (w : World) (G : Gh) (Q : Exit → Act → World → Prop),
  e.draws ops fr S = some r → Inv c B w0 G S w → FrR G S.T fr a → Post c B w0 G S.T r Q → (Code.region id ops true).wp c.P Q a w

theorem dropped_sound {G : Gh} {T : List Nat} {fr : Fr} {a : Act} (ts : List Tmp) (h : FrR G T fr a) : FrR G T (dropped ts fr) a := by
  refine ⟨?_, h.ds⟩
  have he := h.env
  simp only [dropped]
  generalize fr.env = env at he
  induction ts generalizing env with
  | nil => exact he
  | cons t ts ih =>
    refine ih (env.set t (.undef, .no)) ⟨by simp [he.len], fun i h1 h2 => ?_⟩
    simp only [List.length_set] at h1
    by_cases e : t = i
    · subst e; simp; exact .no (.undef _)
    · rw [List.getElem_set_ne e]; exact he.at_ i h1 h2

theorem code_sound {e : Env0} (he : e.c = c) (hcall : CallSound c e.call) (htags : CallTags e.call) (hd : DrawSound c B w0 e) (fuel : Nat) :
    ∀ (k : Code) (fr : Fr) (S : St) (r : Ex × Fr × St) (a : Act) (w : World) (G : Gh) (Q : Exit → Act → World → Prop), e.code fuel k fr S = some r → Inv c B w0 G S w → FrR G S.T fr a → Fit e S → Post c B w0 G S.T r Q → k.wp c.P Q a w := by
  intro k
  induction k with
  | skip => intro fr S r a w G Q h inv hfr hfit hq; simp only [Env0.code] at h; cases h; exact wp_skip (hq G .normal a w trivial inv (.refl _ _) hfr)
  | label => intro fr S r a w G Q h inv hfr hfit hq; simp only [Env0.code] at h; cases h; exact wp_label (hq G .normal a w trivial inv (.refl _ _) hfr)
  | exit id => intro fr S r a w G Q h inv hfr hfit hq; simp only [Env0.code] at h; cases h; exact wp_exit (hq G (.exit id) a w rfl inv (.refl _ _) hfr)
  | ret => intro fr S r a w G Q h inv hfr hfit hq; simp only [Env0.code] at h; cases h; exact wp_ret (hq G .ret a w trivial inv (.refl _ _) hfr)
  | region id ops draw =>
    intro fr S r a w G Q h inv hfr hfit hq
    simp only [Env0.code, Option.map_eq_some_iff] at h
    obtain ⟨q, h, rfl⟩ := h
    have hq' : Post c B w0 G S.T q Q := fun G' ex a' w' h1 h2 h3 h4 => hq G' ex a' w' h1 h2 h3 (dropped_sound _ h4)
    cases draw with
    | false => exact region_sound he hcall h inv hfr hq'
    | true =>
      simp only [Env0.region, if_true] at h
      exact hd id ops fr S q a w G Q h inv hfr hq'
  | seq x y ihx ihy =>
    intro fr S r a w G Q h inv hfr hfit hq
    simp only [Env0.code] at h
    cases hx : e.code fuel x fr S with
    | none => rw [hx] at h; cases h
    | some q =>
      have hst := code_steps htags fuel x fr S q hfit.n hx
      rw [hx] at h
      refine wp_seq (ihx fr S q a w G _ hx inv hfr hfit fun G' ex a' w' hex i' g' f' => ?_)
      obtain ⟨ex1, fr1, S1⟩ := q
      cases ex1 with
      | normal =>
        simp only at h
        cases ex <;> simp only [ExR] at hex
        exact ihy fr1 S1 r a' w' G' Q h i' f' (hfit.step hst g'.len_T) (hq.trans g')
      | _ =>
        simp only at h; cases h
        cases ex <;> simp only [ExR] at hex <;> exact hq G' _ a' w' hex i' g' f'
  | cond x p q ihp ihq =>
    intro fr S r a w G Q h inv hfr hfit hq
    simp only [Env0.code, he] at h
    have hx := (eval_sound inv hfr.env x).1
    generalize hv : a.eval x = v at hx
    split at h
    · rename_i hb; rw [hb] at hx; cases hx; exact wp_cond_true hv (ihp fr S r a w G Q h inv hfr hfit hq)
    · rename_i hb; rw [hb] at hx; cases hx; exact wp_cond_false hv (ihq fr S r a w G Q h inv hfr hfit hq)
    · cases h
  | block id body ih =>
    intro fr S r a w G Q h inv hfr hfit hq
    simp only [Env0.code] at h
    cases hx : e.code fuel body fr S with
    | none => rw [hx] at h; cases h
    | some q =>
      rw [hx] at h
      refine wp_block (ih fr S q a w G _ hx inv hfr hfit fun G' ex a' w' hex i' g' f' => ?_)
      obtain ⟨ex1, fr1, S1⟩ := q
      cases ex1 with
      | exit i =>
        simp only at h
        cases ex <;> simp only [ExR] at hex
        subst hex
        simp only [Exit.inBlock]
        split at h
        · rename_i hi; cases h; rw [if_pos hi]; exact hq G' .normal a' w' trivial i' g' f'
        · rename_i hi; cases h; rw [if_neg hi]; exact hq G' _ a' w' rfl i' g' f'
      | _ =>
        simp only at h; cases h
        cases ex <;> simp only [ExR] at hex <;> exact hq G' _ a' w' hex i' g' f'
  | loop body ih =>
    intro fr S r a w G Q h inv hfr hfit hq
    simp only [Env0.code] at h
    refine wp_loop_rounds fuel ?_
    have key : ∀ (k : Nat) (fr1 : Fr) (S1 : St) (a1 : Act) (w1 : World) (G1 : Gh), iter (fun fr S => e.code fuel body fr S) (e.tidy fr.env S) k fr1 S1 = some r → Inv c B w0 G1 S1 w1 → Grows G S.T G1 S1.T → FrR G1 S1.T fr1 a1 → Fit e S1 →
        Code.rounds c.P body Q k a1 w1 := by
      intro k
      induction k with
      | zero => intro fr1 S1 a1 w1 G1 h1; cases h1
      | succ k ihk =>
        intro fr1 S1 a1 w1 G1 h1 i1 g1 f1 fit1
        simp only [iter] at h1
        cases hx : e.code fuel body fr1 S1 with
        | none => rw [hx] at h1; cases h1
        | some q =>
          have hst := code_steps htags fuel body fr1 S1 q fit1.n hx
          rw [hx] at h1
          refine ih fr1 S1 q a1 w1 G1 _ hx i1 f1 fit1 fun G' ex a' w' hex i' g' f' => ?_
          obtain ⟨ex1, fr2, S2⟩ := q
          cases ex1 with
          | normal =>
            simp only at h1
            cases ex <;> simp only [ExR] at hex
            have fit2 : Fit e S2 := fit1.step hst g'.len_T
            obtain ⟨G3, i3, g3, f3⟩ := tidy_sound (env0 := fr.env) inv.lenφ i' (g1.trans g') f' hfit fit2
            refine ihk _ _ a' w' G3 h1 i3 g3 f3 ⟨?_, Nat.le_trans hfit.m g3.len_T, ?_⟩
            · have := fit2.n
              have := hfit.n
              simp [Env0.tidy]; omega
            · intro b cells hb hc
              simp only [Env0.tidy] at hc
              exact fit2.tags b cells hb (take_some hc).2
          | _ =>
            simp only at h1; cases h1
            cases ex <;> simp only [ExR] at hex <;> exact hq G' _ a' w' hex i' (g1.trans g') f'
    exact key fuel fr S a w G h inv (.refl _ _) hfr hfit
  | rangeFunc => intro fr S r a w G Q h; simp [Env0.code] at h
  | scope => intro fr S r a w G Q h; simp [Env0.code] at h
  | goto => intro fr S r a w G Q h; simp [Env0.code] at h
  | refuse => intro fr S r a w G Q h; simp [Env0.code] at h
end
end Go.Ab
end
section
/- A CALL's END. -/
namespace Go.Ab
open Go.RowKit

section
variable {c : Ctx} {B : Bd} {w0 : World} {G : Gh} {S : St} {w : World}

theorem asAddr_run (P : Program) (x : Addr) : (asAddr (.pointer (some x))).run P w = .ok x w := by simp [asAddr]

theorem result_sound (inv : Inv c B w0 G S w) {env : Env} {a : Act} (he : EnvR G S.T env a) {r : ResultVar} {x : SV} (h : c.result env S r = some x) :
    ∃ v, (match r with
      | .tmp t => (pure (a.tmps.getD t undef) : Sem Value)
      | .cell a' t => (do loadVar t (← asAddr (a.tmps.getD a' undef)) : Sem Value)).run c.P w = .ok v w ∧ RS G S.T x v := by
  cases r with
  | tmp t =>
    simp only [Ctx.result] at h
    cases h
    exact ⟨_, Sem.run_pure _ _ _, eval_sound inv he (.tmp t)⟩
  | cell ad t =>
    simp only [Ctx.result] at h
    have hr := (eval_sound inv he (.tmp ad)).1
    simp only [Ctx.eval, Act.eval] at hr
    split at h <;> first | (cases h; done) | skip
    rename_i b oo hb
    rw [hb] at hr
    split at h <;> first | (cases h; done) | skip
    rename_i cells hc
    generalize hv : a.tmps.getD ad undef = v at hr
    cases hr with
    | ptr _ _ d hφ =>
      obtain ⟨hB, us, u, fr, hu, hus, hfr, hR⟩ := inv.blk b d cells hc hφ
      obtain ⟨v, h1, h2⟩ := loadVar_sound (T := S.T) (w := w) (d := d) (o := 0) (fun i => us.getD i undef) (fun i hi => by
        rw [cell_of_heap hu, Nat.zero_add, Array.getElem?_eq_getElem (by omega)]
        simp [Array.getD, show i < us.size by omega]) (fun i hi => by
        have := hR i hi (by omega)
        simpa [Array.getD, show i < us.size by omega] using this) h
      rw [Nat.zero_add] at h1
      exact ⟨v, by simp only [hv, Sem.run_bind, asAddr_run, Result.andThen_ok]; exact h1, h2⟩

/-- values that stand for one another, side by side -/
inductive RSl (G : Gh) (T : List Nat) : List SV → List Value → Prop
  | nil : RSl G T [] []
  | cons {x v xs vs} : RS G T x v → RSl G T xs vs → RSl G T (x :: xs) (v :: vs)
theorem RSl.later {G' : Gh} {T T' : List Nat} (l : Later G T G' T') {xs : List SV} {vs : List Value} (h : RSl G T xs vs) : RSl G' T' xs vs := by
  induction h with
  | nil => exact .nil
  | cons h _ ih => exact .cons (h.later l) ih
theorem RSl.len {T : List Nat} {xs : List SV} {vs : List Value} (h : RSl G T xs vs) : xs.length = vs.length := by
  induction h with
  | nil => rfl
  | cons _ _ ih => simp [ih]
theorem RSl.at_ {T : List Nat} {xs : List SV} {vs : List Value} (h : RSl G T xs vs) : ∀ i (h1 : i < xs.length) (h2 : i < vs.length), RS G T xs[i] vs[i] := by
  induction h with
  | nil => intro i h1; simp at h1
  | cons h _ ih => intro i h1 h2; cases i with
    | zero => exact h
    | succ i => simpa using ih i (by simpa using h1) (by simpa using h2)

theorem results_list (inv : Inv c B w0 G S w) {env : Env} {a : Act} (he : EnvR G S.T env a) : ∀ (rs : List ResultVar) (vs : List SV), allSome (rs.map (c.result env S)) = some vs →
    ∃ us, (rs.mapM (fun r => match r with
      | .tmp t => (pure (a.tmps.getD t undef) : Sem Value)
      | .cell a' t => (do loadVar t (← asAddr (a.tmps.getD a' undef)) : Sem Value)) : Sem (List Value)).run c.P w = .ok us w ∧ RSl G S.T vs us := by
  intro rs
  induction rs with
  | nil => intro vs h; simp only [List.map_nil, allSome] at h; cases h; exact ⟨[], by simp, .nil⟩
  | cons r rs ih =>
    intro vs h
    simp only [List.map_cons] at h
    cases hr : c.result env S r with
    | none => rw [hr] at h; cases h
    | some x =>
      rw [hr] at h
      simp only [allSome, Option.map_eq_some_iff] at h
      obtain ⟨xs, hxs, rfl⟩ := h
      obtain ⟨us, h1, h2⟩ := ih xs hxs
      obtain ⟨v, h3, h4⟩ := result_sound inv he hr
      refine ⟨v :: us, ?_, .cons h4 h2⟩
      simp only [List.mapM_cons, Sem.run_bind, h3, Result.andThen_ok, h1, Sem.run_pure]

def oneOf (us : List Value) : Value := if h : us.toArray.size = 1 then us.toArray[0] else .tuple us.toArray

theorem results_sound (inv : Inv c B w0 G S w) {env : Env} {a : Act} (he : EnvR G S.T env a) {fn : Func} {vs : List SV} (h : allSome (fn.results.toList.map (c.result env S)) = some vs) :
    ∃ us, (results fn a.tmps).run c.P w = .ok (oneOf us) w ∧ RSl G S.T vs us := by
  obtain ⟨us, h1, h2⟩ := results_list inv he _ _ h
  refine ⟨us, ?_, h2⟩
  unfold results oneOf
  simp only [Array.mapM_eq_mapM_toList, Sem.run_bind, Sem.run_map]
  have : ((List.mapM (fun r => match r with
      | .tmp t => (pure (a.tmps.getD t undef) : Sem Value)
      | .cell a' t => (do loadVar t (← asAddr (a.tmps.getD a' undef)) : Sem Value)) fn.results.toList : Sem (List Value)).run c.P w) = .ok us w := h1
  erw [this]
  rfl

theorem RSl.tuple {T : List Nat} {xs : List SV} {us : List Value} (h : RSl G T xs us) : RS G T (.tup (xs.map (·.1)), .agg (xs.map (·.2))) (.tuple us.toArray) := by
  have hl := h.len
  refine ⟨.tup _ _ (by simpa using hl) fun i h1 h' => ?_, trivial, fun i h1 h' => ?_⟩
  · simp only [List.getElem_map]
    exact (h.at_ i (by simpa using h1) (by simpa using h')).1
  · have k := (h.at_ i (by simpa using h1) (by simpa using h')).2.1
    simp only [List.getElem_map]
    have e2 : (xs.map (·.2)).getD i Tag.no = (xs[i]'(by simpa using h1)).2 := by
      simp only [List.getD_eq_getElem?_getD, List.getElem?_map, List.getElem?_eq_getElem (show i < xs.length by simpa using h1), Option.map_some, Option.getD_some]
    rw [e2]
    simpa using k
theorem RSl.one {T : List Nat} {xs : List SV} {us : List Value} (h : RSl G T xs us) : RS G T (asOne xs) (oneOf us) := by
  have ht := h.tuple
  cases h with
  | nil =>
    have e : oneOf [] = .tuple ([] : List Value).toArray := dif_neg (by simp)
    rw [e]
    exact ht
  | cons h1 h2 =>
    cases h2 with
    | nil => simpa [oneOf, asOne] using h1
    | cons h3 h4 =>
      rename_i x u y v ys vs
      have e : oneOf (u :: v :: vs) = .tuple (u :: v :: vs).toArray := dif_neg (by simp)
      rw [e]
      exact ht

theorem Tag.low1_low {m id : Nat} (h : id < m) : (Tag.tok id).low m = true := by simp [Tag.low, Tag.low1, h]

/-- results leave the frame -/
theorem leaveTags_sound {n0 m0 : Nat} (inv : Inv c B w0 G S w) (hm : m0 ≤ S.T.length) (i1 : Inv c B w0 (G.cut n0 m0) ⟨S.H.take n0, S.T.take m0⟩ w) :
    ∀ (vs : List SV) (us : List Value), RSl G S.T vs us → (∀ x ∈ vs, x.1.low n0 = true) →
      ∃ G', Inv c B w0 G' ⟨S.H.take n0, S.T.take m0 ++ (leaveTags m0 S.T vs).2⟩ w ∧ Grows (G.cut n0 m0) (S.T.take m0) G' (S.T.take m0 ++ (leaveTags m0 S.T vs).2) ∧
        RSl G' (S.T.take m0 ++ (leaveTags m0 S.T vs).2) (leaveTags m0 S.T vs).1 us := by
  have hlen : (S.T.take m0).length = m0 := by simp; omega
  have hleno : (G.cut n0 m0).own.length = m0 := by rw [i1.lenO]; exact hlen
  have rest : ∀ {G' : Gh} {T' : List Nat} (_ : Mono (G.cut n0 m0) G') {xs : List SV} {us : List Value}, RSl G S.T xs us → (∀ x ∈ xs, x.1.low n0 = true) → RSl G' T' (xs.map (fun z => (z.1, Tag.no))) us := by
    intro G' T' m xs us h hl
    induction h with
    | nil => exact .nil
    | cons h _ ih => exact .cons (.no ((h.1.cut (hl _ (List.mem_cons_self ..))).mono m)) (ih fun x hx => hl x (List.mem_cons_of_mem _ hx))
  intro vs
  induction vs with
  | nil =>
    intro us h _
    cases h
    simp only [leaveTags, List.append_nil]
    exact ⟨_, i1, .refl _ _, .nil⟩
  | cons x xs ih =>
    intro us h hl
    cases h with
    | cons h1 h2 =>
      rename_i u us
      have hx := hl x (List.mem_cons_self ..)
      have hxs : ∀ y ∈ xs, y.1.low n0 = true := fun y hy => hl y (List.mem_cons_of_mem _ hy)
      have hR := h1.1.cut (m := m0) hx
      -- a tag that stays
      have stay : ∀ tg, leaveTag m0 S.T x = (tg, []) → RS (G.cut n0 m0) (S.T.take m0) (x.1, tg) u →
          ∃ G', Inv c B w0 G' ⟨S.H.take n0, S.T.take m0 ++ (leaveTags m0 S.T (x :: xs)).2⟩ w ∧ Grows (G.cut n0 m0) (S.T.take m0) G' (S.T.take m0 ++ (leaveTags m0 S.T (x :: xs)).2) ∧
            RSl G' (S.T.take m0 ++ (leaveTags m0 S.T (x :: xs)).2) (leaveTags m0 S.T (x :: xs)).1 (u :: us) := by
        intro tg e hrs
        have e2 : leaveTags m0 S.T (x :: xs) = ((x.1, tg) :: (leaveTags m0 S.T xs).1, (leaveTags m0 S.T xs).2) := by simp [leaveTags, e]
        rw [e2]
        obtain ⟨G', a1, a2, a3⟩ := ih us h2 hxs
        exact ⟨G', a1, a2, .cons (hrs.later a2.later) a3⟩
      -- a tag of the frame's own
      have fresh : ∀ (ow : Own), leaveTag m0 S.T x = (.tok m0, [ow.len]) → x.1.len = ow.len → (∀ b l k, u = .slice b l k → u = ow.val ∧ (∀ y ys, x.1 = .sl (y :: ys) → ow.sz = y.cells.length) ∧ ∀ t y ys, x.1 = .buf t (y :: ys) → ow.sz = 1 ∧ ow.ex = true) → (∃ ys, x.1 = .sl ys) → ow.ok →
          (ow.live → ∃ d o, ow.base = some ⟨d, o, none⟩ ∧ B.free d ∧ (∀ b : Nat, (G.cut n0 m0).φ[b]? ≠ some (some d)) ∧
            ∃ vs t fr, w.heap[d]? = some (.cells vs t fr) ∧ o + ow.cap * ow.sz ≤ vs.size ∧ ∀ i, o + ow.len * ow.sz ≤ i → ¬ (fr.1 ≤ i ∧ i < fr.2) ∧ (G.cut n0 m0).I d i = none) →
          (∀ (j : Nat) (oj : Own) (d o o' : Nat), (G.cut n0 m0).own[j]? = some oj → ow.live → oj.live → ow.base = some ⟨d, o, none⟩ → oj.base ≠ some ⟨d, o', none⟩) →
          ∃ G', Inv c B w0 G' ⟨S.H.take n0, S.T.take m0 ++ (leaveTags m0 S.T (x :: xs)).2⟩ w ∧ Grows (G.cut n0 m0) (S.T.take m0) G' (S.T.take m0 ++ (leaveTags m0 S.T (x :: xs)).2) ∧
            RSl G' (S.T.take m0 ++ (leaveTags m0 S.T (x :: xs)).2) (leaveTags m0 S.T (x :: xs)).1 (u :: us) := by
        intro ow e hlx hu hxs1 hcap hsp hdis
        have e2 : leaveTags m0 S.T (x :: xs) = ((x.1, .tok m0) :: xs.map (fun z => (z.1, .no)), [ow.len]) := by simp [leaveTags, e]
        rw [e2]
        obtain ⟨a1, a2⟩ := i1.pushOwn ow hcap hsp hdis
        refine ⟨_, a1, a2, .cons ⟨hR.mono a2.mono, ⟨ow.len, ?_, Nat.le_of_eq hlx, (fun _ b l k hv => ?_), fun t y ys hy => by obtain ⟨zs, hz⟩ := hxs1; rw [hz] at hy; cases hy⟩, ?_⟩ (rest a2.mono h2 hxs)⟩
        · show (S.T.take m0 ++ [ow.len])[m0]? = _
          rw [List.getElem?_append_right (by omega), hlen]; simp
        · obtain ⟨k1, k2⟩ := hu b l k hv
          refine ⟨ow, ?_, k1, k2⟩
          show ((G.cut n0 m0).own ++ [ow])[m0]? = _
          rw [List.getElem?_append_right (by omega), hleno]; simp
        · split <;> first | trivial | (rename_i hh; cases hh)
      obtain ⟨y, tg⟩ := x
      simp only at hx hR
      by_cases c1 : ∃ ys, y = .sl ys
      · obtain ⟨ys, rfl⟩ := c1
        have hfull : ∃ base cap, u = .slice base ys.length cap ∧ ys.length ≤ cap := by
          have := h1.1
          cases this with
          | nils b => exact ⟨b, 0, rfl, Nat.le_refl _⟩
          | sl _ _ cc o cap f hs hc hh hr h1' => exact ⟨_, cap, rfl, hc⟩
        obtain ⟨base, cap, rfl, hcap⟩ := hfull
        cases tg with
        | no => exact stay .no rfl (.no hR)
        | agg ts => exact stay .no rfl (.no hR)
        | full =>
          have hlc : ys.length = cap := h1.2.1 base ys.length cap rfl
          refine fresh ⟨base, ys.length, cap, headSz ys, false⟩ rfl rfl (fun b l k hv => ⟨rfl, (fun y' ys' hy => by cases hy; rfl), fun t y' ys' hy => by cases hy⟩) ⟨_, rfl⟩ ⟨Nat.le_of_eq hlc, fun h => by simp only at h ⊢; omega⟩ (fun hlt => absurd hlt (Own.shut_live ⟨hlc, rfl⟩)) (fun j oj d o o' hj hlt => absurd hlt (Own.shut_live ⟨hlc, rfl⟩))
        | tok id =>
          obtain ⟨⟨n, hn, hle, hown, _⟩, _⟩ := h1.2
          by_cases hid : id < m0
          · refine stay (.tok id) (by simp [leaveTag, hid]) ⟨hR, ?_⟩
            exact h1.2.cut (Tag.low1_low hid)
          · by_cases hT : S.T[id]? = some ys.length
            · rw [hT] at hn
              cases hn
              obtain ⟨ow, ho, hval, hsz⟩ := hown rfl base ys.length cap rfl
              obtain ⟨k1, k2, k3⟩ := inv.own id ow ho
              have hl2 : ow.len = ys.length := by rw [hT] at k1; exact (Option.some.inj k1).symm
              refine fresh ow (by simp [leaveTag, hid, hT, hl2]) hl2.symm (fun b l k hv => ⟨hval, hsz⟩) ⟨_, rfl⟩ k2 (fun hlt => ?_) (fun j oj d o o' hj hlt hlt' hb => ?_)
              · obtain ⟨d, o, q1, q2, q3, q4⟩ := k3 hlt
                exact ⟨d, o, q1, q2, fun b hb => q3 b (take_some hb).2, q4⟩
              · obtain ⟨hj1, hj2⟩ := take_some hj
                exact inv.dis id j ow oj d o o' (by omega) ho hj2 hlt hlt' hb
            · exact stay .no (by simp [leaveTag, hid, hT]) (.no hR)
      · refine stay .no ?_ (.no hR)
        unfold leaveTag
        split
        · rename_i hh; cases hh; exact absurd ⟨_, rfl⟩ c1
        · rename_i hh; cases hh; exact absurd ⟨_, rfl⟩ c1
        · rfl

theorem leave_sound {n0 m0 : Nat} {G0 : Gh} {T0 : List Nat} (inv : Inv c B w0 G S w) (g : Grows G0 T0 G S.T) (hn : G0.φ.length = n0) (hm : T0.length = m0) (ht : TagsLow n0 m0 S) {vs : List SV} {us : List Value} (h : RSl G S.T vs us) :
    ∃ G', Inv c B w0 G' (leave n0 m0 S vs).2 w ∧ Grows G0 T0 G' (leave n0 m0 S vs).2.T ∧ OutR G' (leave n0 m0 S vs).2.T (leave n0 m0 S vs).1 (.returned (oneOf us)) := by
  unfold leave
  split
  · rename_i hl
    have hm' : m0 ≤ S.T.length := by rw [← hm]; exact g.len_T
    have i1 := inv.cut (n := n0) (m := m0) ht
    have g1 := g.cut (n := n0) (m := m0) (by omega) (by omega)
    obtain ⟨G', a1, a2, a3⟩ := leaveTags_sound inv hm' i1 vs us h (fun x hx => List.all_eq_true.1 hl x hx)
    exact ⟨G', a1, g1.trans a2, a3.one⟩
  · exact ⟨G, inv, g, h.one⟩
end
end Go.Ab
end
section
/- CALLS: bodies, deferred calls. -/
namespace Go.Ab
open Go.RowKit

theorem enter_run {P : Program} {f : FuncId} {fn : Func} {k : Code} (hf : P.funcs[f]? = some fn) (hname : (fn.name == "runtime.NumGoroutine") = false) (hb : fn.body = some k) (args : Array Value) (w : World) :
    (callFunc f args).run P w = .ok (.enter f args) w := by
  have h1 : fn.name ≠ "runtime.NumGoroutine" := by simpa using hname
  simp [callFunc, hf, h1, hb]

/-- how the mode of the frame below stands -/
def UR (G : Gh) : Below1 → FrameMode → Prop
  | .returning, m => m = .returning
  | .panics x, m => ∃ v, m = .panicking [{ v := v, recovered := false }] ∧ R G x v
  | .recovered, m => ∃ v, m = .panicking [{ v := v, recovered := true }]
theorem UR.mono {G G' : Gh} (m : Mono G G') {u : Below1} {x : FrameMode} (h : UR G u x) : UR G' u x := by
  cases u with
  | returning => exact h
  | panics a => obtain ⟨v, h1, h2⟩ := h; exact ⟨v, h1, h2.mono m⟩
  | recovered => exact h

section
variable {c : Ctx} {B : Bd} {w0 : World}

/-- what is asked behind a deferred function's code -/
def PostD (c : Ctx) (B : Bd) (w0 : World) (G : Gh) (T : List Nat) (c0 : Frame) (cs : List Frame) (r : Below1 × Ex × Fr × St) (Q : Exit → Act → List Frame → World → Prop) : Prop :=
  ∀ G' ex a' w' m', ExR G' r.2.1 ex → Inv c B w0 G' r.2.2.2 w' → Grows G T G' r.2.2.2.T → FrR G' r.2.2.2.T r.2.2.1 a' → UR G' r.1 m' → Q ex a' ({ c0 with mode := m' } :: cs) w'
theorem PostD.trans {G G1 : Gh} {T T1 : List Nat} {c0 : Frame} {cs : List Frame} {r : Below1 × Ex × Fr × St} {Q : Exit → Act → List Frame → World → Prop} (g : Grows G T G1 T1) (h : PostD c B w0 G T c0 cs r Q) : PostD c B w0 G1 T1 c0 cs r Q :=
  fun G' ex a' w' m' h1 h2 h3 h4 h5 => h G' ex a' w' m' h1 h2 (g.trans h3) h4 h5

theorem recover_run {σ : Operand → Value} {o : Oper} (h : isRecover o = true) (P : Program) (w : World) : (execOp σ o).run P w = .ok .recover w ∧ o.guard = none := by
  unfold isRecover at h
  split at h
  · exact ⟨by simp [execOp, resolve, invoke, builtin], rfl⟩
  · cases h

theorem opsD_sound {e : Env0} (he : e.c = c) (hcall : CallSound c e.call) {ops : Array Oper} {c0 : Frame} {cs : List Frame} {Q : Exit → Act → List Frame → World → Prop} : ∀ (rest : List Oper) (k : Nat), rest = ops.toList.drop k →
    ∀ (u : Below1) (fr : Fr) (S : St) (r : Below1 × ORes) (a : Act) (w : World) (G : Gh) (m : FrameMode), e.opsD ops rest u fr S = some r → Inv c B w0 G S w → FrR G S.T fr a → UR G u m →
      (∀ fr' S', r.2 = .ok fr' S' → ∀ G' a' w' m', Inv c B w0 G' S' w' → Grows G S.T G' S'.T → FrR G' S'.T fr' a' → UR G' r.1 m' → Q .normal a' ({ c0 with mode := m' } :: cs) w') →
      (∀ x fr' S', r.2 = .panic x fr' S' → ∀ G' a' w' v m', Inv c B w0 G' S' w' → Grows G S.T G' S'.T → FrR G' S'.T fr' a' → R G' x v → UR G' r.1 m' → Q (.panic [{ v := v, recovered := false }]) a' ({ c0 with mode := m' } :: cs) w') →
      wpOpsS c.P ops Q (List.range' k rest.length) a ({ c0 with mode := m } :: cs) w := by
  intro rest
  induction rest with
  | nil =>
    intro k hk u fr S r a w G m h inv hfr hu hok hpan
    simp only [Env0.opsD] at h
    cases h
    exact hok _ _ rfl G a w m inv (.refl _ _) hfr hu
  | cons o rest ih =>
    intro k hk u fr S r a w G m h inv hfr hu hok hpan
    have hlt : k < ops.size := by
      rcases Nat.lt_or_ge k ops.size with hl | hl
      · exact hl
      · rw [List.drop_of_length_le (by simpa using hl)] at hk; cases hk
    have hcons : ops.toList.drop k = ops.toList[k]'(by simpa using hlt) :: ops.toList.drop (k + 1) := List.drop_eq_getElem_cons _
    have ho : ops[k]? = some o := by
      rw [hcons] at hk
      cases hk
      simp [hlt]
    have hrest : rest = ops.toList.drop (k + 1) := by
      rw [hcons] at hk
      cases hk
      rfl
    simp only [List.length_cons, List.range'_succ, wpOpsS, ho]
    simp only [Env0.opsD] at h
    by_cases hrec : isRecover o = true
    · rw [if_pos hrec] at h
      obtain ⟨hrun, hg⟩ := recover_run (σ := a.eval) hrec c.P w
      have hw : Region.wanted o (yielded ops a.tmps) = true := by simp [Region.wanted, hg]
      simp only [hw, if_true, hrun]
      cases u with
      | panics x =>
        simp only at h
        obtain ⟨v, rfl, hv⟩ := hu
        simp only [recoverD]
        exact ih (k + 1) hrest .recovered _ S r _ w G _ h inv (hfr.put (.no hv) o.dst) ⟨v, rfl⟩ hok hpan
      | returning =>
        simp only at h
        have hm : m = .returning := hu
        subst hm
        simp only [recoverD]
        exact ih (k + 1) hrest .returning _ S r _ w G _ h inv (hfr.put (.no .nili) o.dst) rfl hok hpan
      | recovered =>
        simp only at h
        obtain ⟨v, rfl⟩ := hu
        simp only [recoverD]
        exact ih (k + 1) hrest .recovered _ S r _ w G _ h inv (hfr.put (.no .nili) o.dst) ⟨v, rfl⟩ hok hpan
    · rw [if_neg hrec] at h
      have key : ∀ r1, e.step ops o fr S = some r1 → OpWp1 c.P ops o a w (fun a' w' => wpOpsS c.P ops Q (List.range' (k + 1) rest.length) a' ({ c0 with mode := m } :: cs) w') (fun ex a' w' => Q ex a' ({ c0 with mode := m } :: cs) w') := by
        intro r1 hs
        rw [hs] at h
        refine step_sound1 he hcall inv hfr hs (fun fr' S' hr G' a' w' i g f => ?_) (fun x fr' S' hr G' w' v i g f hv => ?_)
        · subst hr
          exact ih (k + 1) hrest u fr' S' r a' w' G' m h i f (hu.mono g.mono) (fun fr2 S2 hr2 G2 a2 w2 m2 i2 g2 f2 u2 => hok fr2 S2 hr2 G2 a2 w2 m2 i2 (g.trans g2) f2 u2)
            (fun x fr2 S2 hr2 G2 a2 w2 v m2 i2 g2 f2 hv u2 => hpan x fr2 S2 hr2 G2 a2 w2 v m2 i2 (g.trans g2) f2 hv u2)
        · subst hr
          simp only at h
          cases h
          exact hpan x fr' S' rfl G' a w' v m i g f hv (hu.mono g.mono)
      cases hs : e.step ops o fr S with
      | none => rw [hs] at h; cases h
      | some r1 =>
        have hk1 := key r1 hs
        unfold OpWp1 at hk1
        split
        · rename_i hw
          simp only [hw, if_true] at hk1
          unfold Oper.wp at hk1
          split
          · rename_i hr; rw [hr] at hk1; exact hk1.elim
          · rename_i hr; exact hk1
        · rename_i hw
          simp only [hw] at hk1
          exact hk1

theorem map_code_sound {e : Env0} (he : e.c = c) (hcall : CallSound c e.call) (htags : CallTags e.call) (hd : DrawSound c B w0 e) {fuel : Nat} {k : Code} {u : Below1} {fr : Fr} {S : St} {r : Below1 × Ex × Fr × St} {a : Act} {w : World} {G : Gh} {m : FrameMode}
    {c0 : Frame} {cs : List Frame} {Q : Exit → Act → List Frame → World → Prop} (h : ((e.code fuel k fr S).map fun r => (u, r)) = some r) (inv : Inv c B w0 G S w) (hfr : FrR G S.T fr a) (hfit : Fit e S) (hu : UR G u m)
    (hq : PostD c B w0 G S.T c0 cs r Q) : k.wpS c.P Q a ({ c0 with mode := m } :: cs) w := by
  cases hx : e.code fuel k fr S with
  | none => rw [hx] at h; cases h
  | some q =>
    rw [hx] at h
    cases h
    exact wpS_of_wp (code_sound he hcall htags hd fuel k fr S q a w G _ hx inv hfr hfit fun G' ex a' w' h1 h2 h3 h4 => hq G' ex a' w' m h1 h2 h3 h4 (hu.mono h3.mono))

theorem codeD_sound {e : Env0} (he : e.c = c) (hcall : CallSound c e.call) (htags : CallTags e.call) (hd : DrawSound c B w0 e) (fuel : Nat) {c0 : Frame} {cs : List Frame} : ∀ (k : Code) (u : Below1) (fr : Fr) (S : St) (r : Below1 × Ex × Fr × St) (a : Act) (w : World) (G : Gh) (m : FrameMode)
    (Q : Exit → Act → List Frame → World → Prop), e.codeD fuel k u fr S = some r → Inv c B w0 G S w → FrR G S.T fr a → Fit e S → UR G u m → PostD c B w0 G S.T c0 cs r Q → k.wpS c.P Q a ({ c0 with mode := m } :: cs) w := by
  intro k
  induction k with
  | seq x y ihx ihy =>
    intro u fr S r a w G m Q h inv hfr hfit hu hq
    simp only [Env0.codeD] at h
    split at h
    · cases hx : e.codeD fuel x u fr S with
      | none => rw [hx] at h; cases h
      | some q =>
        have hst := codeD_steps htags fuel x u fr S q hfit.n hx
        rw [hx] at h
        refine wpS_seq (ihx u fr S q a w G m _ hx inv hfr hfit hu fun G' ex a' w' m' hex i' g' f' u' => ?_)
        obtain ⟨u1, ex1, fr1, S1⟩ := q
        cases ex1 with
        | normal =>
          simp only at h
          cases ex <;> simp only [ExR] at hex
          exact ihy u1 fr1 S1 r a' w' G' m' Q h i' f' (hfit.step hst g'.len_T) u' (hq.trans g')
        | _ =>
          simp only at h; cases h
          cases ex <;> simp only [ExR] at hex <;> exact hq G' _ a' w' m' hex i' g' f' u'
    · exact map_code_sound he hcall htags hd h inv hfr hfit hu hq
  | region id ops draw =>
    intro u fr S r a w G m Q h inv hfr hfit hu hq
    cases draw with
    | true => simp only [Env0.codeD] at h; exact map_code_sound he hcall htags hd h inv hfr hfit hu hq
    | false =>
      simp only [Env0.codeD] at h
      split at h
      · refine wpS_region ?_
        have hl : ops.toList.length = ops.size := by simp
        rw [List.range_eq_range', ← hl]
        cases hx : e.opsD ops ops.toList u fr S with
        | none => rw [hx] at h; cases h
        | some q =>
          rw [hx] at h
          refine opsD_sound he hcall ops.toList 0 (by simp) u fr S q a w G m hx inv hfr hu (fun fr' S' hr G' a' w' m' i g f u' => ?_) (fun x fr' S' hr G' a' w' v m' i g f hv u' => ?_)
          · obtain ⟨q1, q2⟩ := q
            simp only at hr
            subst hr
            cases h
            exact hq G' .normal a' w' m' trivial i g f u'
          · obtain ⟨q1, q2⟩ := q
            simp only at hr
            subst hr
            cases h
            exact hq G' _ a' w' m' ⟨v, rfl, hv⟩ i g f u'
      · exact map_code_sound he hcall htags hd h inv hfr hfit hu hq
  | _ => intro u fr S r a w G m Q h inv hfr hfit hu hq; simp only [Env0.codeD] at h; exact map_code_sound he hcall htags hd h inv hfr hfit hu hq

theorem frame0_sound {G : Gh} {T : List Nat} {fn : Func} {args : List SV} {vs : Array Value} (h : RArgs G T args vs) : FrR G T (frame0 fn args) { tmps := vs ++ Array.replicate (fn.ntmps - vs.size) undef, defers := [] } := by
  refine ⟨⟨by simp [frame0, h.len], fun i h1 h2 => ?_⟩, trivial⟩
  simp only [frame0] at h1 ⊢
  by_cases hi : i < args.length
  · rw [List.getElem_append_left hi, Array.getElem_append_left (by rw [← h.len]; exact hi)]
    exact h.at_ i hi _
  · rw [List.getElem_append_right (by omega)]
    simp only [List.getElem_replicate]
    exact .no (.undef _)

theorem fit0 {d : Nat → List Tmp} {c' : Ctx} {pre : TypeId → Bool} {call : CallFn} {G : Gh} {S : St} {w : World} (inv : Inv c B w0 G S w) : Fit ⟨c', pre, S.H.length, S.T.length, call, d⟩ S :=
  ⟨Nat.le_refl _, Nat.le_refl _, fun b cells _ hc x hx => inv.tag b cells hc x hx⟩

theorem opsD_u {e : Env0} {ops : Array Oper} : ∀ (rest : List Oper) (u : Below1) (fr : Fr) (S : St) (r : Below1 × ORes), e.opsD ops rest u fr S = some r → r.1 = u ∨ r.1 = .recovered := by
  intro rest
  induction rest with
  | nil => intro u fr S r h; simp only [Env0.opsD] at h; cases h; exact .inl rfl
  | cons o rest ih =>
    intro u fr S r h
    simp only [Env0.opsD] at h
    split at h
    · split at h
      · rcases ih _ _ _ _ h with h1 | h1 <;> exact .inr h1
      · exact ih _ _ _ _ h
    · split at h
      · exact ih _ _ _ _ h
      · cases h; exact .inl rfl
      · cases h
theorem map_u {e : Env0} {fuel : Nat} {k : Code} {u : Below1} {fr : Fr} {S : St} {r : Below1 × Ex × Fr × St} (h : ((e.code fuel k fr S).map fun r => (u, r)) = some r) : r.1 = u ∨ r.1 = .recovered := by
  cases hx : e.code fuel k fr S with
  | none => rw [hx] at h; cases h
  | some q => rw [hx] at h; cases h; exact .inl rfl
theorem codeD_u {e : Env0} (fuel : Nat) : ∀ (k : Code) (u : Below1) (fr : Fr) (S : St) (r : Below1 × Ex × Fr × St), e.codeD fuel k u fr S = some r → r.1 = u ∨ r.1 = .recovered := by
  intro k
  induction k with
  | seq x y ihx ihy =>
    intro u fr S r h
    simp only [Env0.codeD] at h
    split at h
    · cases hx : e.codeD fuel x u fr S with
      | none => rw [hx] at h; cases h
      | some q =>
        have h1 := ihx u fr S q hx
        rw [hx] at h
        obtain ⟨u1, ex1, fr1, S1⟩ := q
        cases ex1 with
        | normal =>
          simp only at h h1
          rcases ihy _ _ _ _ h with h2 | h2
          · rw [h2]; exact h1
          · exact .inr h2
        | _ => simp only at h; cases h; exact h1
    · exact map_u h
  | region id ops draw =>
    intro u fr S r h
    cases draw with
    | true => simp only [Env0.codeD] at h; exact map_u h
    | false =>
      simp only [Env0.codeD] at h
      split at h
      · split at h
        · rename_i ho; cases h; exact opsD_u _ _ _ _ _ ho
        · rename_i ho; cases h; exact opsD_u _ _ _ _ _ ho
        · cases h
      · exact map_u h
  | _ => intro u fr S r h; simp only [Env0.codeD] at h; exact map_u h

/-- A DEFERRED CALL. -/
theorem deferred_sound {pre : TypeId → Bool} {call : CallFn} (hcall : CallSound c call) (htags : CallTags call) (hd : ∀ (S : St) (d : Nat → List Tmp), DrawSound c B w0 ⟨c, pre, S.H.length, S.T.length, call, d⟩) {n : Nat} {g : FuncId} {args : List SV} {u u' : Below1} {S S' : St} {G : Gh} {w : World} {vs : Array Value} {m : FrameMode}
    (h : c.deferred pre call n g args u S = some (u', S')) (inv : Inv c B w0 G S w) (ha : RArgs G S.T args vs) (hu : UR G u m) :
    CallsD c.P g vs m w fun en m' w' => (∃ v, en = .returned v) ∧ ∃ G', Inv c B w0 G' S' w' ∧ Grows G S.T G' S'.T ∧ UR G' u' m' := by
  unfold Ctx.deferred at h
  split at h <;> first | (cases h; done) | skip
  rename_i fn hfn
  split at h <;> first | (cases h; done) | skip
  rename_i code hbody
  obtain ⟨hres, h⟩ := Option.ite_none_right_eq_some.1 h
  refine callsD_of_wpS hfn hbody fun c0 cs hm => ?_
  have hc0 : ({ c0 with mode := m } : Frame) = c0 := by subst hm; rfl
  have hr0 : fn.results = #[] := Array.eq_empty_of_size_eq_zero hres
  have fin : ∀ q, Env0.codeD ⟨c, pre, S.H.length, S.T.length, call, c.drop g⟩ n code u (frame0 fn args) S = some q → (q.2.1 = .normal ∨ q.2.1 = .ret) → q.2.2.1.ds = [] → u' = q.1 → S' = ⟨q.2.2.2.H.take S.H.length, q.2.2.2.T.take S.T.length⟩ →
      code.wpS c.P (bodyPostS c.P fn c0 cs fun en m' w' => (∃ v, en = .returned v) ∧ ∃ G', Inv c B w0 G' S' w' ∧ Grows G S.T G' S'.T ∧ UR G' u' m') { tmps := vs ++ Array.replicate (fn.ntmps - vs.size) undef, defers := [] } (c0 :: cs) w := by
    intro q hq hex hds hu' hS'
    have hst := codeD_steps (e := ⟨c, pre, S.H.length, S.T.length, call, c.drop g⟩) htags n code u _ S q (Nat.le_refl _) hq
    rw [← hc0]
    refine codeD_sound (e := ⟨c, pre, S.H.length, S.T.length, call, c.drop g⟩) rfl hcall htags (hd S _) n code u (frame0 fn args) S q _ w G m _ hq inv (frame0_sound ha) (fit0 inv) hu fun G' ex a' w' m' h1 h2 h3 h4 h5 => ?_
    have hds' : a'.defers = [] := by
      have := h4.ds
      rw [hds] at this
      cases hd2 : a'.defers with
      | nil => rfl
      | cons x xs => rw [hd2] at this; exact this.elim
    have htl : TagsLow S.H.length S.T.length q.2.2.2 := hst.tags _ _ (Nat.le_refl _) (fit0 (d := c.drop g) (c' := c) (pre := pre) (call := call) inv).tags
    have i2 := h2.cut htl
    have g2 := h3.cut (n := S.H.length) (m := S.T.length) (by rw [inv.lenφ]; exact Nat.le_refl _) (Nat.le_refl _)
    have key : ∃ G', Inv c B w0 G' S' w' ∧ Grows G S.T G' S'.T ∧ UR G' u' m' := by
      subst hS'
      subst hu'
      refine ⟨_, i2, g2, ?_⟩
      rcases codeD_u n code u _ S q hq with h6 | h6
      · rw [h6] at h5 ⊢
        cases u with
        | returning => exact h5
        | panics x =>
          obtain ⟨v, rfl, hv⟩ := h5
          obtain ⟨v1, _, hv1⟩ := hu
          have := hv1.low
          rw [inv.lenφ] at this
          exact ⟨v, rfl, hv.cut this⟩
        | recovered => exact h5
      · rw [h6] at h5 ⊢
        exact h5
    have hrun : (results fn a'.tmps).run c.P w' = .ok (.tuple #[]) w' := by simp [results, hr0]
    rcases hex with he | he <;> rw [he] at h1 <;> cases ex <;> simp only [ExR] at h1
    · exact ⟨hds', m', rfl, _, hrun, ⟨_, rfl⟩, key⟩
    · exact ⟨hds', m', rfl, _, hrun, ⟨_, rfl⟩, key⟩
  split at h
  · rename_i hq; cases h; exact fin _ hq (.inl rfl) rfl rfl rfl
  · rename_i hq; cases h; exact fin _ hq (.inr rfl) rfl rfl rfl
  · cases h

theorem finish_sound {fn : Func} {n0 m0 : Nat} {G0 G : Gh} {T0 : List Nat} {S S2 : St} {w : World} {fr : Fr} {out : COut} {a : Act} (h : c.finish fn n0 m0 fr S = some (out, S2)) (inv : Inv c B w0 G S w) (g : Grows G0 T0 G S.T) (hn : G0.φ.length = n0) (hm : T0.length = m0)
    (ht : TagsLow n0 m0 S) (hfr : EnvR G S.T fr.env a) : ∃ v, (results fn a.tmps).run c.P w = .ok v w ∧ ∃ G', Inv c B w0 G' S2 w ∧ Grows G0 T0 G' S2.T ∧ OutR G' S2.T out (.returned v) := by
  unfold Ctx.finish at h
  split at h
  · rename_i vs hvs
    obtain ⟨us, h1, h2⟩ := results_sound inv hfr hvs
    have hl := leave_sound inv g hn hm ht h2
    rw [Option.some.inj h] at hl
    exact ⟨_, h1, hl⟩
  · cases h

theorem panicked_sound {n0 m0 : Nat} {G0 G : Gh} {T0 : List Nat} {S S2 : St} {w : World} {x : AV} {v : Value} {out : COut} (h : panicked n0 m0 x S = some (out, S2)) (inv : Inv c B w0 G S w) (g : Grows G0 T0 G S.T) (hn : G0.φ.length = n0) (hm : T0.length = m0)
    (ht : TagsLow n0 m0 S) (hv : R G x v) : ∃ G', Inv c B w0 G' S2 w ∧ Grows G0 T0 G' S2.T ∧ OutR G' S2.T out (.panicked [{ v := v, recovered := false }]) := by
  unfold panicked at h
  obtain ⟨hl, h⟩ := Option.ite_none_right_eq_some.1 h
  cases h
  exact ⟨_, inv.cut ht, g.cut (by omega) (by omega), v, rfl, hv.cut hl⟩

/-- THE END OF A BODY. -/
theorem ends_sound {pre : TypeId → Bool} {call : CallFn} (hcall : CallSound c call) (htags : CallTags call) (hd : ∀ (S : St) (d : Nat → List Tmp), DrawSound c B w0 ⟨c, pre, S.H.length, S.T.length, call, d⟩) (hname : ∀ (f : FuncId) (fn : Func), c.P.funcs[f]? = some fn → (fn.name == "runtime.NumGoroutine") = false)
    {n : Nat} {fn : Func} {S S2 : St} {G : Gh} {w : World} {out : COut} {q : Ex × Fr × St} (inv : Inv c B w0 G S w) (htl0 : TagsLow S.H.length S.T.length q.2.2) (hlen0 : S.H.length ≤ q.2.2.H.length)
    (h : c.ends pre call n fn S.H.length S.T.length (some q) = some (out, S2)) :
    Post c B w0 G S.T q (bodyPostD c.P fn fun en w' => ∃ G', Inv c B w0 G' S2 w' ∧ Grows G S.T G' S2.T ∧ OutR G' S2.T out en) := by
  intro G' ex a' w' hex i' g' f'
  obtain ⟨ex1, fr1, S1⟩ := q
  obtain ⟨env, ds⟩ := fr1
  have htl : TagsLow S.H.length S.T.length S1 := htl0
  have hlφ := inv.lenφ
  cases ds with
  | nil =>
    have hds' : a'.defers = [] := by
      have := f'.ds
      cases hd2 : a'.defers with
      | nil => rfl
      | cons x xs => rw [hd2] at this; exact this.elim
    have fin : c.finish fn S.H.length S.T.length ⟨env, []⟩ S1 = some (out, S2) → Leaves c.P fn a'.tmps (fun en w' => ∃ G', Inv c B w0 G' S2 w' ∧ Grows G S.T G' S2.T ∧ OutR G' S2.T out en) a'.defers .returning w' := by
      intro hf
      rw [hds']
      exact finish_sound hf i' g' hlφ rfl htl f'.env
    cases ex1 with
    | normal => simp only [Ctx.ends] at h; cases ex <;> simp only [ExR] at hex; exact fin h
    | ret => simp only [Ctx.ends] at h; cases ex <;> simp only [ExR] at hex; exact fin h
    | panic x =>
      simp only [Ctx.ends] at h
      cases ex <;> simp only [ExR] at hex
      obtain ⟨v, rfl, hv⟩ := hex
      show Leaves _ _ _ _ a'.defers _ _
      rw [hds']
      exact panicked_sound h i' g' hlφ rfl htl hv
    | exit => simp [Ctx.ends] at h
  | cons d ds =>
    cases ds with
    | cons d2 ds => simp [Ctx.ends] at h
    | nil =>
      obtain ⟨g1, dargs⟩ := d
      have hdR := f'.ds
      obtain ⟨dd, hdd, hd1⟩ : ∃ dd, a'.defers = [dd] ∧ DefR1 G' (g1, dargs) dd := by
        cases hd2 : a'.defers with
        | nil => rw [hd2] at hdR; exact hdR.elim
        | cons x xs =>
          rw [hd2] at hdR
          cases xs with
          | nil => exact ⟨x, rfl, hdR.1⟩
          | cons y ys => exact hdR.2.elim
      obtain ⟨cap, htar, hlen, hargs⟩ := hd1
      have hra : RArgs G' S1.T dargs (dd.args ++ cap) := ⟨hlen, fun i h1 h2 => by
        obtain ⟨k1, k2⟩ := hargs i h1 h2
        have : dargs[i] = (dargs[i].1, Tag.no) := by rw [← k2]
        rw [this]
        exact .no k1⟩
      -- the deferred call, in either mode
      have main : ∀ (u u' : Below1) (m : FrameMode) (S3 : St), m ≠ .run → UR G' u m → c.deferred pre call n g1 dargs u S1 = some (u', S3) →
          (∀ G2 w2, Inv c B w0 G2 S3 w2 → Grows G S.T G2 S3.T → TagsLow S.H.length S.T.length S3 → EnvR G2 S3.T env a' → ∀ m2, UR G2 u' m2 → Leaves c.P fn a'.tmps (fun en w' => ∃ G', Inv c B w0 G' S2 w' ∧ Grows G S.T G' S2.T ∧ OutR G' S2.T out en) [] (settle m2) w2) →
          Leaves c.P fn a'.tmps (fun en w' => ∃ G', Inv c B w0 G' S2 w' ∧ Grows G S.T G' S2.T ∧ OutR G' S2.T out en) a'.defers m w' := by
        intro u u' m S3 hm hu hdef hrest
        rw [hdd]
        have hfn : ∃ fd code, c.P.funcs[g1]? = some fd ∧ fd.body = some code := by
          unfold Ctx.deferred at hdef
          split at hdef <;> first | (cases hdef; done) | skip
          rename_i fd hfd
          split at hdef <;> first | (cases hdef; done) | skip
          rename_i code hb
          exact ⟨fd, code, hfd, hb⟩
        obtain ⟨fd, code, hfd, hb⟩ := hfn
        refine ⟨hm, .func g1, cap, g1, dd.args ++ cap, htar, ?_, ?_⟩
        · rw [htar]
          simp only [invoke]
          exact enter_run hfd (hname g1 fd hfd) hb _ _
        · have hsteps := deferred_steps htags hdef
          refine (deferred_sound hcall htags hd hdef i' hra hu).mono fun en m2 w2 ⟨⟨v, hv⟩, G2, i2, g2, u2⟩ => ?_
          subst hv
          exact hrest G2 w2 i2 (g'.trans g2) ((hsteps.mono hlen0).tags _ _ (Nat.le_refl _) htl) (f'.env.later g2.later) m2 u2
      have retCase : ∀ (hfin : (match c.deferred pre call n g1 dargs .returning S1 with
          | some (.returning, S'') => c.finish fn S.H.length S.T.length ⟨env, []⟩ S''
          | _ => none) = some (out, S2)), Leaves c.P fn a'.tmps (fun en w' => ∃ G', Inv c B w0 G' S2 w' ∧ Grows G S.T G' S2.T ∧ OutR G' S2.T out en) a'.defers .returning w' := by
        intro hfin
        split at hfin
        · rename_i S3 hdef
          refine main .returning .returning .returning S3 (by simp) rfl hdef fun G2 w2 i2 g2 t2 e2 m2 u2 => ?_
          have : m2 = .returning := u2
          subst this
          exact finish_sound hfin i2 g2 hlφ rfl t2 e2
        · cases hfin
      cases ex1 with
      | normal => simp only [Ctx.ends] at h; cases ex <;> simp only [ExR] at hex; exact retCase h
      | ret => simp only [Ctx.ends] at h; cases ex <;> simp only [ExR] at hex; exact retCase h
      | panic x =>
        simp only [Ctx.ends] at h
        cases ex <;> simp only [ExR] at hex
        obtain ⟨v, rfl, hv⟩ := hex
        show Leaves _ _ _ _ a'.defers _ _
        split at h
        · rename_i S3 hdef
          refine main (.panics x) .recovered _ S3 (by simp) ⟨v, rfl, hv⟩ hdef fun G2 w2 i2 g2 t2 e2 m2 u2 => ?_
          obtain ⟨v2, rfl⟩ := u2
          exact finish_sound h i2 g2 hlφ rfl t2 e2
        · rename_i x2 S3 hdef
          refine main (.panics x) (.panics x2) _ S3 (by simp) ⟨v, rfl, hv⟩ hdef fun G2 w2 i2 g2 t2 e2 m2 u2 => ?_
          obtain ⟨v2, rfl, hv2⟩ := u2
          exact panicked_sound h i2 g2 hlφ rfl t2 hv2
        · cases h
      | exit => simp [Ctx.ends] at h

/-- A CALL OF THE PURE RUN IS THE MACHINE'S. -/
theorem call_sound {pre : TypeId → Bool} {ext : FuncId → Option (List SV → St → Option (COut × St))} (hname : ∀ (f : FuncId) (fn : Func), c.P.funcs[f]? = some fn → (fn.name == "runtime.NumGoroutine") = false)
    (hd : ∀ (call : CallFn) (_ : CallSound c call) (_ : CallTags call) (B : Bd) (w0 : World) (S : St) (d : Nat → List Tmp), DrawSound c B w0 ⟨c, pre, S.H.length, S.T.length, call, d⟩)
    (hext : ∀ f g, ext f = some g → ∀ args S out S', g args S = some (out, S') → Steps1 S.H.length S S' ∧
      ∀ (B : Bd) (w0 : World) (G : Gh) (w : World) (vs : Array Value), Inv c B w0 G S w → RArgs G S.T args vs → CallTo c.P f vs w fun en w' => ∃ G', Inv c B w0 G' S' w' ∧ Grows G S.T G' S'.T ∧ OutR G' S'.T out en) :
    ∀ n, CallSound c (Ctx.call c pre ext n) := by
  intro n
  induction n with
  | zero => intro f args S out S' h; cases h
  | succ n ih =>
    intro f args S out S' h B w0 G w vs inv ha
    have htags := call_steps (c := c) (pre := pre) (ext := ext) (fun f g hg args S out S' h => (hext f g hg args S out S' h).1) n
    simp only [Ctx.call] at h
    split at h
    · rename_i g hg; exact (hext f g hg _ _ _ _ h).2 B w0 G w vs inv ha
    · split at h <;> first | (cases h; done) | skip
      rename_i fn hfn
      split at h <;> first | (cases h; done) | skip
      rename_i code hb
      refine .inl ⟨enter_run hfn (hname f fn hfn) hb _ _, calls_of_wp_defers hfn hb ?_⟩
      have hdS := fun S => hd _ ih htags B w0 S
      cases hq : Env0.code ⟨c, pre, S.H.length, S.T.length, Ctx.call c pre ext n, c.drop f⟩ n code (frame0 fn args) S with
      | none => rw [hq] at h; simp [Ctx.ends] at h
      | some q =>
        rw [hq] at h
        have hst := code_steps (e := ⟨c, pre, S.H.length, S.T.length, Ctx.call c pre ext n, c.drop f⟩) htags n code _ S q (Nat.le_refl _) hq
        exact code_sound (e := ⟨c, pre, S.H.length, S.T.length, Ctx.call c pre ext n, c.drop f⟩) rfl ih htags (hdS S _) n code (frame0 fn args) S q _ w G _ hq inv (frame0_sound ha) (fit0 inv) (ends_sound ih htags hdS hname inv (hst.tags _ _ (Nat.le_refl _) fun b cells _ hc x hx => inv.tag b cells hc x hx) hst.len h)
end
end Go.Ab
end
section
/- NEW VARIABLES THAT ARE LAID AHEAD. -/
namespace Go.Ab
open Go.RowKit

section
variable {c : Ctx} {B : Bd} {w0 : World} {G : Gh} {S : St} {w : World}

theorem φ_none {φ : List (Option Nat)} {b d : Nat} (h : (φ ++ [none])[b]? = some (some d)) : φ[b]? = some (some d) := by
  rcases φ_snoc h with h | ⟨_, h⟩
  · exact h
  · cases h

/-- a block that is not yet there -/
theorem Inv.pend (inv : Inv c B w0 G S w) (cells : List SV) (hlow : ∀ x ∈ cells, x.1.low (S.H.length + 1) = true) (htag : ∀ x ∈ cells, x.2.low S.T.length = true) :
    Inv c B w0 { G with φ := G.φ ++ [none] } ⟨S.H ++ [cells], S.T⟩ w ∧ Grows G S.T { G with φ := G.φ ++ [none] } S.T := by
  have mono : Mono G { G with φ := G.φ ++ [none] } := by
    refine ⟨fun b e h => ?_, fun _ _ _ h => h, fun _ _ h => h⟩
    show (G.φ ++ [none])[b]? = _
    rw [List.getElem?_append_left (φ_some h)]; exact h
  refine ⟨{
    below := inv.below
    base := inv.base
    iD := inv.iD
    lenφ := by simp [inv.lenφ]
    lenO := inv.lenO
    inj := fun i j d hi hj => inv.inj i j d (φ_none hi) (φ_none hj)
    low := fun b cs hb => by
      simp only at hb
      rcases Nat.lt_trichotomy b S.H.length with hl' | hl' | hl'
      · rw [List.getElem?_append_left hl'] at hb; exact inv.low b cs hb
      · subst hl'; simp at hb; subst hb; exact hlow
      · rw [List.getElem?_append_right (by omega), List.getElem?_eq_none (by simp; omega)] at hb; cases hb
    tag := fun b cs hb => by
      simp only at hb
      rcases Nat.lt_trichotomy b S.H.length with hl' | hl' | hl'
      · rw [List.getElem?_append_left hl'] at hb; exact inv.tag b cs hb
      · subst hl'; simp at hb; subst hb; exact htag
      · rw [List.getElem?_append_right (by omega), List.getElem?_eq_none (by simp; omega)] at hb; cases hb
    blk := fun b d cs hb hφ => by
      have h := φ_none hφ
      have hlt := inv.φ_lt h
      have hb' : S.H[b]? = some cs := by
        simp only at hb
        rw [List.getElem?_append_left hlt.2] at hb
        exact hb
      obtain ⟨h1, us, u, fr, h2, h3, h4, h5⟩ := inv.blk b d cs hb' h
      exact ⟨h1, us, u, fr, h2, h3, h4, fun i hi hi' => (h5 i hi hi').grow mono rfl⟩
    imm := fun d o v h => ⟨(inv.imm d o v h).1, fun b hb => (inv.imm d o v h).2 b (φ_none hb)⟩
    own := fun id ow h => by
      obtain ⟨h1, h2, h3⟩ := inv.own id ow h
      refine ⟨h1, h2, fun hlt => ?_⟩
      obtain ⟨d, o, k1, k2, k3, rest⟩ := h3 hlt
      exact ⟨d, o, k1, k2, fun b hb => k3 b (φ_none hb), rest⟩
    dis := inv.dis
    ty := inv.ty
    glob := fun g cs h => ⟨(inv.glob g cs h).1.mono mono, (inv.glob g cs h).2⟩
    know := fun I ty h h2 => inv.know I ty (fun d o v x => h d o v (mono.I d o v x)) (fun d x e => h2 d x (mono.ty d x e)) },
    ⟨mono, fun b hb => by show (G.φ ++ [none])[b]? = _; rw [List.getElem?_append_left hb], fun _ k h => ⟨k, h, Nat.le_refl k, fun _ => rfl⟩⟩⟩

theorem φ_set {φ : List (Option Nat)} {b b' d d' : Nat} (h : (φ.set b (some d))[b']? = some (some d')) : (b' = b ∧ d' = d) ∨ (b' ≠ b ∧ φ[b']? = some (some d')) := by
  by_cases e : b = b'
  · subst e
    rcases Nat.lt_or_ge b φ.length with hl | hl
    · simp [hl] at h; exact .inl ⟨rfl, h.symm⟩
    · rw [List.getElem?_eq_none (by simpa using hl)] at h; cases h
  · rw [List.getElem?_set_ne e] at h; exact .inr ⟨fun h => e h.symm, h⟩

/-- the block comes to be -/
theorem Inv.activate (inv : Inv c B w0 G S w) {b : Nat} {cells : List SV} (hb : S.H[b]? = some cells) (hφ : G.φ[b]? = some none) (vs : Array Value) (t : TypeId) (hl : cells.length ≤ vs.size)
    (hr : ∀ i (h : i < cells.length) (h' : i < vs.size), RS G S.T cells[i] vs[i]) :
    Inv c B w0 { G with φ := G.φ.set b (some w.heap.size) } S (w.alloc (.cells vs t)) ∧ Mono G { G with φ := G.φ.set b (some w.heap.size) } := by
  have mono : Mono G { G with φ := G.φ.set b (some w.heap.size) } := by
    refine ⟨fun b' e h => ?_, fun _ _ _ h => h, fun _ _ h => h⟩
    show (G.φ.set b _)[b']? = _
    have hne : b ≠ b' := fun e => by subst e; rw [hφ] at h; cases h
    rw [List.getElem?_set_ne hne]; exact h
  refine ⟨{
    below := inv.below.alloc inv.base _
    base := fun d hd => inv.base d (by rw [size_alloc] at hd; omega)
    iD := inv.iD
    lenφ := by simp [inv.lenφ]
    lenO := inv.lenO
    inj := fun i j d hi hj => by
      rcases φ_set hi with ⟨h1, h2⟩ | ⟨h1, h2⟩ <;> rcases φ_set hj with ⟨k1, k2⟩ | ⟨k1, k2⟩
      · omega
      · have := (inv.φ_lt k2).1; omega
      · have := (inv.φ_lt h2).1; omega
      · exact inv.inj i j d h2 k2
    low := inv.low
    tag := inv.tag
    blk := fun b' d cs hb' hφ' => by
      rcases φ_set hφ' with ⟨rfl, rfl⟩ | ⟨h1, h2⟩
      · rw [hb] at hb'
        cases hb'
        exact ⟨inv.base _ (Nat.le_refl _), vs, t, (0, 0), heap_alloc_new, hl, fun o _ h => by simp at h, fun i hi hi' => (hr i hi hi').grow mono rfl⟩
      · obtain ⟨h1, us, u, fr, h2', h3, h4, h5⟩ := inv.blk b' d cs hb' h2
        exact ⟨h1, us, u, fr, by rw [heap_alloc_lt (lt_of_heap h2')]; exact h2', h3, h4, fun i hi hi' => (h5 i hi hi').grow mono rfl⟩
    imm := fun d o v h => by
      obtain ⟨h1, h2⟩ := inv.imm d o v h
      refine ⟨by rw [cell_alloc_lt (lt_of_cell h1)]; exact h1, fun b' hb' => ?_⟩
      rcases φ_set hb' with ⟨_, h4⟩ | ⟨_, h3⟩
      · subst h4; exact absurd (lt_of_cell h1) (by omega)
      · exact h2 b' h3
    own := fun id ow h => by
      obtain ⟨h1, h2, h3⟩ := inv.own id ow h
      refine ⟨h1, h2, fun hlt => ?_⟩
      obtain ⟨d, o, k1, k2, k3, us, u, fr, k4, k5, k6⟩ := h3 hlt
      have := lt_of_heap k4
      refine ⟨d, o, k1, k2, fun b' hb' => ?_, us, u, fr, by rw [heap_alloc_lt this]; exact k4, k5, k6⟩
      rcases φ_set hb' with ⟨_, h4⟩ | ⟨_, h3⟩
      · subst h4; omega
      · exact k3 b' h3
    dis := inv.dis
    ty := ty_alloc inv.ty _
    glob := fun g cs h => ⟨(inv.glob g cs h).1.mono mono, (inv.glob g cs h).2⟩
    know := fun I ty h h2 => inv.know I ty (fun d o v x => h d o v (mono.I d o v x)) (fun d x e => h2 d x (mono.ty d x e)) }, mono⟩

theorem RSs.later {G' : Gh} {T T' : List Nat} (l : Later G T G' T') {cs : List SV} {vs : Array Value} (h : RSs G T cs vs) : RSs G' T' cs vs := ⟨h.1, fun i a b => (h.2 i a b).later l⟩

/-- how many of these are new variables -/
def nAl (P : Program) (l : List Oper) : Nat := l.countP (allocs P)

theorem allocs_op {P : Program} {o : Oper} (h : allocs P o = true) : ∃ t, o.op = .alloc t ∧ o.guard = none ∧ hasZero P t = true := by
  unfold allocs at h
  split at h
  · rename_i t h1 h2; exact ⟨t, h1, h2, h⟩
  · cases h

/-- what is known of the variables laid ahead -/
theorem prealloc_sound {e : Env0} (he : e.c = c) : ∀ (l : List Oper) (G : Gh) (S : St), Inv c B w0 G S w → ∃ G', Inv c B w0 G' (e.prealloc l S) w ∧ Grows G S.T G' (e.prealloc l S).T ∧ G'.φ = G.φ ++ List.replicate (nAl c.P l) none ∧
    (∀ b, b < S.H.length → (e.prealloc l S).H[b]? = S.H[b]?) ∧
    ∀ (i : Nat) (o : Oper) (t : TypeId), l[i]? = some o → allocs c.P o = true → o.op = .alloc t → ∃ cells z, (e.prealloc l S).H[S.H.length + nAl c.P (l.take i)]? = some cells ∧ (∀ w' : World, (zeroValue t).run c.P w' = .ok z w') ∧
      RSs G' (e.prealloc l S).T cells z.cells := by
  subst he
  intro l
  induction l with
  | nil =>
    intro G S inv
    exact ⟨G, inv, .refl _ _, by simp [nAl], fun _ _ => rfl, fun i o t h => by simp at h⟩
  | cons o r ih =>
    intro G S inv
    by_cases ha : allocs e.c.P o = true
    · obtain ⟨t, hop, hg, hz⟩ := allocs_op ha
      obtain ⟨i0, z, hi, hz'⟩ := of_hasZero hz
      have hzero : ∀ w' : World, (zeroValue t).run e.c.P w' = .ok z w' := fun w' => by simp [zeroValue, typeInfo, hi, hz']
      have hrs0 := zero_sound (G := G) (T := S.T) hi hz'
      obtain ⟨m, h0, h1, h2, h3⟩ := newCells_spec inv (e.pre t) (tzs e.c.P t) z.cells.toList [] (by simp) (by simpa using hrs0.1) (fun i a b => by simpa using hrs0.2 i a (by simpa using b))
      simp only [List.length_nil, Nat.add_zero, List.nil_append] at h1 h2 h3
      obtain ⟨i1, g1⟩ := inv.toks m h0
      have hrs : RSs { G with own := G.own ++ m } (S.T ++ m.map Own.len) (newCells (e.pre t) (tzs e.c.P t) S.T.length).1 z.cells := by
        refine ⟨by rw [h2]; simp, fun i a b => ?_⟩
        have := h3 i a (by simpa using b)
        rw [Array.getElem_toList] at this
        exact this
      have hfl := newCells_flat (e.pre t) (tzs e.c.P t) S.T.length (fun x hx => by obtain ⟨q, _, hq⟩ := List.mem_map.1 hx; rw [← hq]; exact tagZ_flat q)
      obtain ⟨i2, g2⟩ := i1.pend (newCells (e.pre t) (tzs e.c.P t) S.T.length).1 (fun x hx => by
        obtain ⟨j, hj, rfl⟩ := List.getElem_of_mem hx
        have := R.low (hrs.2 j hj (by rw [← hrs.1]; exact hj)).1
        have hl : G.φ.length = S.H.length := inv.lenφ
        rw [show ({ G with own := G.own ++ m } : Gh).φ.length = S.H.length from hl] at this
        exact AV.low_mono (Nat.le_succ _) this) (fun x hx => by
        obtain ⟨j, hj, rfl⟩ := List.getElem_of_mem hx
        exact (hrs.2 j hj (by rw [← hrs.1]; exact hj)).tagLow (hfl _ hx))
      have he : e.prealloc (o :: r) S = e.prealloc r ⟨S.H ++ [(newCells (e.pre t) (tzs e.c.P t) S.T.length).1], S.T ++ m.map Own.len⟩ := by
        simp only [Env0.prealloc, ha, if_true, hop, Env0.zeroVar, h1]
      rw [he]
      obtain ⟨G', j1, j2, j3, j4, j5⟩ := ih _ _ i2
      refine ⟨G', j1, (g1.trans g2).trans j2, ?_, fun b hb => ?_, fun i o' t' hi' ha' hop' => ?_⟩
      · rw [j3]
        simp [nAl, ha, List.replicate_succ]
      · rw [j4 b (by simp; omega)]
        exact List.getElem?_append_left hb
      · cases i with
        | zero =>
          simp at hi'
          subst hi'
          rw [hop] at hop'
          cases hop'
          refine ⟨(newCells (e.pre t) (tzs e.c.P t) S.T.length).1, z, ?_, hzero, hrs.later (g2.trans j2).later⟩
          simp only [List.take_zero, nAl, List.countP_nil, Nat.add_zero]
          rw [j4 S.H.length (by simp)]
          simp
        | succ i =>
          obtain ⟨cells, z', k1, k2, k3⟩ := j5 i o' t' (by simpa using hi') ha' hop'
          refine ⟨cells, z', ?_, k2, k3⟩
          simp only [List.length_append, List.length_singleton] at k1
          simp only [List.take_succ_cons, nAl, List.countP_cons, ha, if_true] at k1 ⊢
          rw [show S.H.length + (List.countP (allocs e.c.P) (List.take i r) + 1) = S.H.length + 1 + List.countP (allocs e.c.P) (List.take i r) by omega]
          exact k1
    · have he : e.prealloc (o :: r) S = e.prealloc r S := by simp [Env0.prealloc, ha]
      rw [he]
      obtain ⟨G', j1, j2, j3, j4, j5⟩ := ih _ _ inv
      refine ⟨G', j1, j2, ?_, j4, fun i o' t' hi' ha' hop' => ?_⟩
      · rw [j3]; simp [nAl, ha]
      · cases i with
        | zero => simp at hi'; subst hi'; exact absurd ha' ha
        | succ i =>
          obtain ⟨cells, z', k1, k2, k3⟩ := j5 i o' t' (by simpa using hi') ha' hop'
          refine ⟨cells, z', ?_, k2, k3⟩
          simpa [nAl, List.countP_cons, ha] using k1
end
end Go.Ab
end
