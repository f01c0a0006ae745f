import Derived.Test.YtdiphholophdcaaAbTidy
set_option linter.unusedVariables false
set_option linter.unusedSimpArgs false
/- OLDER BLOCKS GET NO NEW TOKENS. -/
namespace Go.Ab

/-- a move of the state, seen from a frame whose own blocks begin at n0 -/
structure Steps1 (n0 : Nat) (S S' : St) : Prop where
  len : S.H.length ≤ S'.H.length
  tags : ∀ n m, n ≤ n0 → TagsLow n m S → TagsLow n m S'
theorem Steps1.refl (n0 : Nat) (S : St) : Steps1 n0 S S := ⟨Nat.le_refl _, fun _ _ _ h => h⟩
theorem Steps1.trans {n0 : Nat} {S S' S'' : St} (h : Steps1 n0 S S') (k : Steps1 n0 S' S'') : Steps1 n0 S S'' := ⟨Nat.le_trans h.len k.len, fun n m hn ht => k.tags n m hn (h.tags n m hn ht)⟩
theorem Steps1.mono {n0 n1 : Nat} {S S' : St} (h : Steps1 n0 S S') (hn : n1 ≤ n0) : Steps1 n1 S S' := ⟨h.len, fun n m hl ht => h.tags n m (Nat.le_trans hl hn) ht⟩

def CallTags (call : CallFn) : Prop := ∀ (f : FuncId) (args : List SV) (S : St) (out : COut) (S' : St), call f args S = some (out, S') → Steps1 S.H.length S S'

theorem steps_append {n0 : Nat} {S : St} (h : n0 ≤ S.H.length) (bs : List Blk) (T : List Nat) : Steps1 n0 S ⟨S.H ++ bs, T⟩ := by
  refine ⟨by simp, fun n m hn ht b cells hb hc => ?_⟩
  simp only at hc
  rw [List.getElem?_append_left (by omega)] at hc
  exact ht b cells hb hc
theorem steps_same {n0 : Nat} {S S' : St} (h : S'.H = S.H) : Steps1 n0 S S' := ⟨by rw [h]; exact Nat.le_refl _, fun n m hn ht b cells hb hc => ht b cells hb (by rw [← h]; exact hc)⟩

theorem keepIn_tag {b : Nat} {old new : SV} {m : Nat} (h : old.2.low m = true) : (Ab.keepIn true b old new).2.low m = true := by
  unfold Ab.keepIn
  split
  · simp only
    unfold keepTag
    split
    · simp only [if_true]
      split
      · rename_i j hj
        split
        · rename_i hij
          subst hij
          rw [hj] at h
          exact h
        · rfl
      · rfl
    · rfl
    · rfl
  · rfl

theorem steps_store {n0 : Nat} {S : St} {b o : Nat} {cells new : List SV} (hb : S.H[b]? = some cells) : Steps1 n0 S ⟨S.H.set b (Ab.storeCells n0 b o cells new), S.T⟩ := by
  refine ⟨by simp, fun n m hn ht b' cells' hb' hc => ?_⟩
  simp only at hc
  by_cases e : b' = b
  · subst e
    have hlt : b' < S.H.length := by
      rcases Nat.lt_or_ge b' S.H.length with hl | hl
      · exact hl
      · rw [List.getElem?_eq_none hl] at hb; cases hb
    simp [hlt] at hc
    subst hc
    intro x hx
    unfold Ab.storeCells at hx
    have hold := ht b' cells hb' hb
    rcases replaceAt_mem hx with h | h
    · exact hold x h
    · obtain ⟨q, hq, rfl⟩ := List.mem_map.1 h
      have : decide (b' < n0) = true := by simp; omega
      rw [this]
      refine keepIn_tag ?_
      rcases Nat.lt_or_ge (o + q.2) cells.length with hl | hl
      · have e2 : cells.getD (o + q.2) (.undef, .no) = cells[o + q.2] := by simp [List.getD, List.getElem?_eq_getElem hl]
        rw [e2]; exact hold _ (List.getElem_mem hl)
      · have e2 : cells.getD (o + q.2) (AV.undef, Tag.no) = (.undef, .no) := by simp [List.getD, List.getElem?_eq_none hl]
        rw [e2]; rfl
  · rw [List.getElem?_set_ne (fun h => e h.symm)] at hc
    exact ht b' cells' hb' hc

theorem act_steps {e : Env0} (hcall : CallTags e.call) {op : Op} {ρ : Operand → SV} {S : St} {r : ARes} (hn : e.n0 ≤ S.H.length) (h : e.act op ρ S = some r) :
    Steps1 e.n0 S (match r with | .ok _ S' => S' | .panic _ S' => S') := by
  cases op <;> first
    | (simp [Env0.act] at h; done)
    | skip
  · simp only [Env0.act] at h
    have h := (Option.ite_none_right_eq_some.1 h).2
    cases h
    exact steps_append hn _ _
  · simp only [Env0.act] at h
    have h := (Option.ite_none_right_eq_some.1 h).2
    cases h
    exact steps_append hn _ _
  · simp only [Env0.act] at h
    split at h <;> first | (cases h; done) | skip
    split at h <;> first | (cases h; done) | skip
    rename_i hb
    have h := (Option.ite_none_right_eq_some.1 h).2
    cases h
    exact steps_store hb
  · simp only [Env0.act] at h
    split at h <;> first | (cases h; done) | skip
    split at h <;> first | (cases h; done) | skip
    split at h <;> first | (cases h; done) | skip
    cases h
    exact steps_append hn _ _
  · simp only [Env0.act] at h
    split at h <;> first | (cases h; done) | skip
    have h := (Option.ite_none_right_eq_some.1 h).2
    cases h
    exact steps_append hn _ _
  · rename_i cl
    obtain ⟨callee, args, ts⟩ := cl
    cases callee with
    | invoke => simp [Env0.act] at h
    | builtin b =>
      cases b <;> first
        | (simp [Env0.act] at h; done)
        | skip
      simp only [Env0.act] at h
      split at h <;> first | (cases h; done) | skip
      unfold Env0.append at h
      split at h <;> first | (cases h; done) | skip
      split at h <;> first | (cases h; done) | skip
      have h := (Option.ite_none_right_eq_some.1 h).2
      split at h
      · have h := (Option.ite_none_right_eq_some.1 h).2
        split at h <;> cases h <;> exact steps_same rfl
      · split at h <;> cases h <;> exact steps_same rfl
      · cases h
    | value f =>
      simp only [Env0.act] at h
      split at h <;> first | (cases h; done) | skip
      split at h <;> first | (cases h; done) | skip
      · rename_i hc
        cases h
        exact (hcall _ _ _ _ _ hc).mono hn
      · rename_i hc
        cases h
        exact (hcall _ _ _ _ _ hc).mono hn
  · simp only [Env0.act] at h
    split at h <;> first | (cases h; done) | skip
    cases h
    exact .refl _ _

theorem step_steps {e : Env0} (hcall : CallTags e.call) {ops : Array Oper} {o : Oper} {fr : Fr} {S : St} {r : ORes} (hn : e.n0 ≤ S.H.length) (h : e.step ops o fr S = some r) :
    Steps1 e.n0 S (match r with | .ok _ S' => S' | .panic _ _ S' => S') := by
  unfold Env0.step at h
  split at h <;> first | (cases h; done) | skip
  · cases h; exact .refl _ _
  · split at h
    · split at h <;> first | (cases h; done) | skip
      cases h; exact .refl _ _
    · split at h
      · cases h; exact .refl _ _
      · split at h
        · cases h; exact .refl _ _
        · split at h <;> first | (cases h; done) | skip
          · rename_i ha
            cases h
            exact act_steps hcall hn ha
          · rename_i ha
            cases h
            exact act_steps hcall hn ha
theorem ops_steps {e : Env0} (hcall : CallTags e.call) {ops : Array Oper} : ∀ (rest : List Oper) (fr : Fr) (S : St) (r : ORes), e.n0 ≤ S.H.length → e.ops ops rest fr S = some r →
    Steps1 e.n0 S (match r with | .ok _ S' => S' | .panic _ _ S' => S') := by
  intro rest
  induction rest with
  | nil => intro fr S r hn h; simp only [Env0.ops] at h; cases h; exact .refl _ _
  | cons o rest ih =>
    intro fr S r hn h
    simp only [Env0.ops] at h
    split at h
    · rename_i fr' S' hs
      have h1 := step_steps hcall hn hs
      exact h1.trans (ih fr' S' r (Nat.le_trans hn h1.len) h)
    · have := step_steps hcall hn h
      cases r <;> exact this
end Go.Ab
