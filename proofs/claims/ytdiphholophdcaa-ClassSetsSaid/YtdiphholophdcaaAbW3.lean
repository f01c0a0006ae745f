import Derived.Test.YtdiphholophdcaaAbW2
set_option linter.unusedVariables false
set_option linter.unusedSimpArgs false
/- CONDITIONS OF REGIONS WHOSE ORDER IS OPEN. -/
namespace Go.Ab
open Go.RowKit

mutual
theorem AV.beq_refl : ∀ (a : AV), AV.beq a a = true
  | .undef => by unfold AV.beq; rfl
  | .int k n => by unfold AV.beq; simp
  | .bool b => by unfold AV.beq; simp
  | .str s => by unfold AV.beq; simp
  | .nilptr => by unfold AV.beq; rfl
  | .ptr b o => by unfold AV.beq; simp
  | .iptr cs => by unfold AV.beq; exact AV.beqs_refl cs
  | .sl cs => by unfold AV.beq; exact AV.beqs_refl cs
  | .slr b o n => by unfold AV.beq; simp
  | .nilfn => by unfold AV.beq; rfl
  | .fn f a b => by unfold AV.beq; simp [AV.beqs_refl a, AV.beqs_refl b]
  | .nili => by unfold AV.beq; rfl
  | .iface t v => by unfold AV.beq; simp [AV.beq_refl v]
  | .agg cs => by unfold AV.beq; exact AV.beqs_refl cs
  | .tup cs => by unfold AV.beq; exact AV.beqs_refl cs
theorem AV.beqs_refl : ∀ (a : List AV), AV.beqs a a = true
  | [] => by unfold AV.beqs; rfl
  | x :: xs => by unfold AV.beqs; simp [AV.beq_refl x, AV.beqs_refl xs]
end
mutual
theorem Tag.beq_refl : ∀ (a : Tag), Tag.beq a a = true
  | .no => by simp [Tag.beq]
  | .full => by simp [Tag.beq]
  | .tok i => by simp [Tag.beq]
  | .agg ts => by simp [Tag.beq, Tag.beqs_refl ts]
theorem Tag.beqs_refl : ∀ (a : List Tag), Tag.beqs a a = true
  | [] => by simp [Tag.beqs]
  | x :: xs => by simp [Tag.beqs, Tag.beq_refl x, Tag.beqs_refl xs]
end
theorem SV.beq_refl (a : SV) : SV.beq a a = true := by simp [SV.beq, AV.beq_refl, Tag.beq_refl]

/-- does what this operation gives hang on the state? -/
def isSens (op : Op) (ρ : Operand → SV) : Bool := match op with
  | .load _ x => match (ρ x).1 with
    | .ptr _ _ => true
    | _ => false
  | .convert _ _ x => match (ρ x).1 with
    | .slr _ _ _ => true
    | _ => false
  | _ => false
theorem read_none {c : Ctx} {op : Op} {ρ : Operand → SV} (h : isSens op ρ = false) (S : St) : c.read op ρ S = none := by
  unfold isSens at h
  split at h
  · rename_i t x
    split at h
    · cases h
    · rename_i hx
      simp only [Ctx.read]
  · rename_i src dst x
    split at h
    · cases h
    · rename_i hx
      simp only [Ctx.read]
      split
      · rename_i b o n e _ hb _; exact absurd hb (hx b o n)
      · rfl
  · rename_i h1 h2
    cases op <;> first | rfl | exact absurd rfl (h1 _ _) | exact absurd rfl (h2 _ _ _)

theorem quietAt_run {e : Env0} {ops : Array Oper} {S0 : St} {base al : Nat} {o : Oper} {env : Env} (hw : wantedA ops env o = some true) (hna : ∀ t, o.op ≠ .alloc t) (S : St) :
    e.quietAt ops S0 base al o env S = pureOrRead e.c o.op (e.c.evalR env (readsTmp ops o)) S := by
  unfold Env0.quietAt pureOrRead
  rw [hw]
  generalize e.c.evalR env (readsTmp ops o) = ρ
  cases hop : o.op with
  | alloc t => exact absurd hop (hna t)
  | _ => rfl
/-- in this state the operation gives what it gave -/
def Env0.seesW (e : Env0) (ops : Array Oper) (S0 : St) (base : Nat) (r : Rec) (S : St) (K : Prop) : Prop := match r.o.op with
  | .alloc _ => onlyIf (Env0.fresh (base + r.al) S0 S) K
  | .load t x => match e.c.evalR r.env (readsTmp ops r.o) x with
    | (.ptr b o, tg) => match S.H[b]? with
      | some cells => loadW e.c t tg cells o (fun v => v = r.v) ∧ K
      | none => False
    | _ => False
  | op => pureOrRead e.c op (e.c.evalR r.env (readsTmp ops r.o)) S = some r.v ∧ K
def Env0.seesAll (e : Env0) (ops : Array Oper) (S0 : St) (base : Nat) (r : Rec) (Ss : List St) : List Nat → Prop → Prop
  | [], K => K
  | k :: ks, K => match Ss[k]? with
    | some S => e.seesW ops S0 base r S (e.seesAll ops S0 base r Ss ks K)
    | none => e.seesAll ops S0 base r Ss ks K
def Env0.sameW (e : Env0) (ops : Array Oper) (b : List Nat) (S0 : St) (base : Nat) (Ss : List St) : Nat → List Rec → List Bool → Prop → Prop
  | _, [], _, K => K
  | i, r :: rs, true :: fs, K => e.seesAll ops S0 base r Ss ((List.range (highs e.c.P ops b i + 1)).filter fun k => !decide (k < lows e.c.P ops b i)) (e.sameW ops b S0 base Ss (i + 1) rs fs K)
  | i, _ :: rs, false :: fs, K => e.sameW ops b S0 base Ss (i + 1) rs fs K
  | _, _ :: _, [], _ => False
def FlagOk (e : Env0) (ops : Array Oper) (S0 : St) (base : Nat) (r : Rec) (f : Bool) : Prop := match f with
  | false => moves e.c.P r.o = true ∨ ∀ S, e.quietAt ops S0 base r.al r.o r.env S = some r.v
  | true => moves e.c.P r.o = false ∧ wantedA ops r.env r.o = some true ∧ (∀ t, r.o.op = .alloc t → allocs e.c.P r.o = true ∧ r.v = (.ptr (base + r.al) 0, .no))
inductive FlagsOk (e : Env0) (ops : Array Oper) (S0 : St) (base : Nat) : List Rec → List Bool → Prop
  | nil : FlagsOk e ops S0 base [] []
  | cons {r f rs fs} (h : FlagOk e ops S0 base r f) (hs : FlagsOk e ops S0 base rs fs) : FlagsOk e ops S0 base (r :: rs) (f :: fs)
theorem FlagsOk.append {e : Env0} {ops : Array Oper} {S0 : St} {base : Nat} {rs rs' : List Rec} {fs fs' : List Bool} (h : FlagsOk e ops S0 base rs fs) (k : FlagsOk e ops S0 base rs' fs') : FlagsOk e ops S0 base (rs ++ rs') (fs ++ fs') := by
  induction h with
  | nil => exact k
  | cons h _ ih => exact .cons h ih
theorem FlagsOk.reverse {e : Env0} {ops : Array Oper} {S0 : St} {base : Nat} {rs : List Rec} {fs : List Bool} (h : FlagsOk e ops S0 base rs fs) : FlagsOk e ops S0 base rs.reverse fs.reverse := by
  induction h with
  | nil => exact .nil
  | cons h _ ih => simpa using ih.append (.cons h .nil)

theorem seesW_sound {e : Env0} {ops : Array Oper} {S0 : St} {base : Nat} {r : Rec} {S : St} {K : Prop} (hf : FlagOk e ops S0 base r true) (h : e.seesW ops S0 base r S K) : e.quietAt ops S0 base r.al r.o r.env S = some r.v ∧ K := by
  obtain ⟨h1, h2, h3⟩ := hf
  unfold Env0.seesW at h
  split at h
  · rename_i t hop
    obtain ⟨k1, k2⟩ := onlyIf_iff h
    obtain ⟨q1, q2⟩ := h3 t hop
    exact ⟨by simp only [Env0.quietAt, h2, hop, q1, k1, Bool.and_self, if_true, q2], k2⟩
  · rename_i t x hop
    split at h
    · rename_i b o tg hx
      split at h
      · rename_i cells hc
        obtain ⟨v, hv, rfl⟩ := loadW_sound h.1
        exact ⟨by simp only [Env0.quietAt, h2, hop, Ctx.pure, Ctx.read, hx, hc]; exact hv, h.2⟩
      · exact h.elim
    · exact h.elim
  · rename_i h4 h5
    exact ⟨by rw [quietAt_run h2 h4]; exact h.1, h.2⟩
theorem seesAll_sound {e : Env0} {ops : Array Oper} {S0 : St} {base : Nat} {r : Rec} {Ss : List St} (hf : FlagOk e ops S0 base r true) : ∀ {ks : List Nat} {K : Prop}, e.seesAll ops S0 base r Ss ks K →
    (∀ k ∈ ks, ∀ S, Ss[k]? = some S → e.quietAt ops S0 base r.al r.o r.env S = some r.v) ∧ K
  | [], K, h => ⟨by simp, h⟩
  | k :: ks, K, h => by
    unfold Env0.seesAll at h
    split at h
    · rename_i S hS
      obtain ⟨h1, h2⟩ := seesW_sound hf h
      obtain ⟨h3, h4⟩ := seesAll_sound hf h2
      refine ⟨fun k' hk' S' hS' => ?_, h4⟩
      rcases List.mem_cons.1 hk' with rfl | hk'
      · rw [hS] at hS'; cases hS'; exact h1
      · exact h3 k' hk' S' hS'
    · rename_i hS
      obtain ⟨h3, h4⟩ := seesAll_sound hf h
      refine ⟨fun k' hk' S' hS' => ?_, h4⟩
      rcases List.mem_cons.1 hk' with rfl | hk'
      · rw [hS] at hS'; cases hS'
      · exact h3 k' hk' S' hS'
theorem sameW_sound {e : Env0} {ops : Array Oper} {b : List Nat} {S0 : St} {base : Nat} {Ss : List St} : ∀ {rs : List Rec} {fs : List Bool} {i : Nat} {K : Prop}, FlagsOk e ops S0 base rs fs → e.sameW ops b S0 base Ss i rs fs K →
    e.sameAll ops b S0 base Ss i rs = true ∧ K
  | [], _, i, K, hf, h => by
    cases hf
    exact ⟨rfl, h⟩
  | r :: rs, _, i, K, hf, h => by
    cases hf with
    | cons h1 h2 =>
      rename_i f fs
      have all : (∀ k, lows e.c.P ops b i ≤ k → k < highs e.c.P ops b i + 1 → ∀ S, Ss[k]? = some S → e.quietAt ops S0 base r.al r.o r.env S = some r.v) → e.sameAll ops b S0 base Ss (i + 1) rs = true → e.sameAll ops b S0 base Ss i (r :: rs) = true := by
        intro hq hr
        simp only [Env0.sameAll, hr, Bool.and_true, Bool.or_eq_true]
        right
        rw [List.all_eq_true]
        intro k hk
        simp only [List.mem_range] at hk
        by_cases hl : k < lows e.c.P ops b i
        · simp [hl]
        · simp only [hl, decide_false, Bool.false_or]
          split
          · rename_i S hS
            rw [hq k (by omega) hk S hS]
            exact SV.beq_refl _
          · rfl
      cases f with
      | false =>
        unfold Env0.sameW at h
        obtain ⟨h3, h4⟩ := sameW_sound h2 h
        refine ⟨?_, h4⟩
        rcases h1 with hm | hq
        · simp only [Env0.sameAll, hm, Bool.true_or, h3, Bool.and_self]
        · exact all (fun k _ _ S _ => hq S) h3
      | true =>
        unfold Env0.sameW at h
        obtain ⟨h5, h6⟩ := seesAll_sound h1 h
        obtain ⟨h3, h4⟩ := sameW_sound h2 h6
        refine ⟨all (fun k k1 k2 S hS => h5 k ?_ S hS) h3, h4⟩
        exact List.mem_filter.2 ⟨by simpa using k2, by simp; omega⟩

def Env0.lexW (e : Env0) (tab : Tab) (ops : Array Oper) (b : List Nat) (S0 : St) (base : Nat) (fr0 : Fr) (S : St) (Q : Post1) : List Oper → Nat → Env → List St → List Rec → List Bool → Prop
  | [], _, env, Ss, recs, fl => e.sameW ops b S0 base Ss.reverse 0 recs.reverse fl.reverse (Q .normal ⟨env, fr0.ds⟩ (Ss.headD S))
  | o :: rest, al, env, Ss, recs, fl => match Ss with
    | [] => False
    | S1 :: _ =>
      match o.guard with
      | none => match moves e.c.P o with
        | true => e.actW tab o.op (e.c.evalR env (readsTmp ops o)) S1
            (fun v S' => e.lexW tab ops b S0 base fr0 S Q rest (match allocs e.c.P o with | true => al + 1 | false => al) (Fr.put ⟨env, []⟩ o.dst v).env (S' :: Ss) (⟨o, env, v, al⟩ :: recs) (false :: fl))
            (fun v S' => e.sameW ops b S0 base Ss.reverse 0 (⟨o, env, (.undef, .no), al⟩ :: recs).reverse (false :: fl).reverse (onlyIf (restOk b recs.length (recs.length + 1) rest) (Q (.panic v.1) (forget ops.toList fr0) S')))
        | false => match o.op with
          | .alloc _ => onlyIf (allocs e.c.P o && Env0.fresh (base + al) S0 S1)
              (e.lexW tab ops b S0 base fr0 S Q rest (al + 1) (Fr.put ⟨env, []⟩ o.dst (.ptr (base + al) 0, .no)).env Ss (⟨o, env, (.ptr (base + al) 0, .no), al⟩ :: recs) (true :: fl))
          | op => readW e.c op (e.c.evalR env (readsTmp ops o)) S1 fun v =>
              e.lexW tab ops b S0 base fr0 S Q rest al (Fr.put ⟨env, []⟩ o.dst v).env Ss (⟨o, env, v, al⟩ :: recs) (isSens op (e.c.evalR env (readsTmp ops o)) :: fl)
      | some (j, want) => match (ops[j]?).bind (·.dst) with
        | some d => match (env.getD d (.undef, .no)).1 with
          | .bool t => implB t want (match moves e.c.P o with
              | true => e.actW tab o.op (e.c.evalR (setB env d want) (readsTmp ops o)) S1
                  (fun v S' => e.lexW tab ops b S0 base fr0 S Q rest (match allocs e.c.P o with | true => al + 1 | false => al) (Fr.put ⟨setB env d want, []⟩ o.dst v).env (S' :: Ss) (⟨o, setB env d want, v, al⟩ :: recs) (false :: fl))
                  (fun v S' => e.sameW ops b S0 base Ss.reverse 0 (⟨o, setB env d want, (.undef, .no), al⟩ :: recs).reverse (false :: fl).reverse (onlyIf (restOk b recs.length (recs.length + 1) rest) (Q (.panic v.1) (forget ops.toList fr0) S')))
              | false => match o.op with
                | .alloc _ => False
                | op => readW e.c op (e.c.evalR (setB env d want) (readsTmp ops o)) S1 fun v =>
                    e.lexW tab ops b S0 base fr0 S Q rest al (Fr.put ⟨setB env d want, []⟩ o.dst v).env Ss (⟨o, setB env d want, v, al⟩ :: recs) (isSens op (e.c.evalR (setB env d want) (readsTmp ops o)) :: fl)) ∧
              implB t (!want) (e.lexW tab ops b S0 base fr0 S Q rest al (Fr.put ⟨setB env d (!want), []⟩ o.dst (.tup [], .no)).env (match moves e.c.P o with | true => S1 :: Ss | false => Ss) (⟨o, setB env d (!want), (.tup [], .no), al⟩ :: recs) (false :: fl))
          | .tup [] => e.lexW tab ops b S0 base fr0 S Q rest al (Fr.put ⟨env, []⟩ o.dst (.tup [], .no)).env (match moves e.c.P o with | true => S1 :: Ss | false => Ss) (⟨o, env, (.tup [], .no), al⟩ :: recs) (false :: fl)
          | _ => False
        | none => False

/-- what a region's order, in the text's, came to -/
def DRes.to (e : Env0) (ops : Array Oper) (b : List Nat) (S0 : St) (base : Nat) (fr0 : Fr) (S : St) (Q : Post1) : DRes → Prop
  | .ok env Ss recs => e.sameAll ops b S0 base Ss.reverse 0 recs.reverse = true ∧ Q .normal ⟨env, fr0.ds⟩ (Ss.headD S)
  | .panic v S' Ss recs rest => e.sameAll ops b S0 base Ss.reverse 0 recs.reverse = true ∧ restOk b (recs.length - 1) recs.length rest = true ∧ Q (.panic v) (forget ops.toList fr0) S'

theorem allocs_noguard {P : Program} {o : Oper} {j : Nat} {t : Bool} (h : o.guard = some (j, t)) : allocs P o = false := by
  unfold allocs
  split
  · rename_i hg; rw [h] at hg; cases hg
  · rfl

theorem lexW_sound {e : Env0} {tab : Tab} (he : e.call = callOf tab) {ops : Array Oper} {b : List Nat} {S0 : St} {base : Nat} {fr0 : Fr} {S : St} {Q : Post1} : ∀ (l : List Oper) (al : Nat) (env : Env) (Ss : List St) (recs : List Rec) (fl : List Bool),
    FlagsOk e ops S0 base recs fl → e.lexW tab ops b S0 base fr0 S Q l al env Ss recs fl → ∃ r, e.lexD ops S0 base l al env Ss recs = some r ∧ r.to e ops b S0 base fr0 S Q := by
  intro l
  induction l with
  | nil =>
    intro al env Ss recs fl hf h
    simp only [Env0.lexW] at h
    exact ⟨.ok env Ss recs, rfl, sameW_sound hf.reverse h⟩
  | cons o rest ih =>
    intro al env Ss recs fl hf h
    cases Ss with
    | nil => exact h.elim
    | cons S1 Ss =>
      have alEq : (if allocs e.c.P o then al + 1 else al) = (match allocs e.c.P o with | true => al + 1 | false => al) := by cases allocs e.c.P o <;> rfl
      -- a move that is carried out
      have act : moves e.c.P o = true → wantedA ops env o = some true → e.actW tab o.op (e.c.evalR env (readsTmp ops o)) S1
            (fun v S' => e.lexW tab ops b S0 base fr0 S Q rest (match allocs e.c.P o with | true => al + 1 | false => al) (Fr.put ⟨env, []⟩ o.dst v).env (S' :: S1 :: Ss) (⟨o, env, v, al⟩ :: recs) (false :: fl))
            (fun v S' => e.sameW ops b S0 base (S1 :: Ss).reverse 0 (⟨o, env, (.undef, .no), al⟩ :: recs).reverse (false :: fl).reverse (onlyIf (restOk b recs.length (recs.length + 1) rest) (Q (.panic v.1) (forget ops.toList fr0) S'))) →
          ∃ r, e.lexD ops S0 base (o :: rest) al env (S1 :: Ss) recs = some r ∧ r.to e ops b S0 base fr0 S Q := by
        intro hm hw h
        obtain ⟨r, h1, h2⟩ := actW_sound he h
        cases r with
        | ok v S' =>
          obtain ⟨r2, h3, h4⟩ := ih _ _ _ _ _ (.cons (show FlagOk e ops S0 base ⟨o, env, v, al⟩ false from .inl hm) hf) h2
          exact ⟨r2, by simp only [Env0.lexD, hm, if_true, hw, h1, alEq]; exact h3, h4⟩
        | panic v S' =>
          obtain ⟨h3, h4⟩ := sameW_sound (FlagsOk.reverse (.cons (show FlagOk e ops S0 base ⟨o, env, (.undef, .no), al⟩ false from .inl hm) hf)) h2
          obtain ⟨h5, h6⟩ := onlyIf_iff h4
          exact ⟨.panic v S' (S1 :: Ss) (⟨o, env, (.undef, .no), al⟩ :: recs) rest, by simp only [Env0.lexD, hm, if_true, hw, h1], h3, by simpa using h5, h6⟩
      -- one that leaves the state
      have quiet : moves e.c.P o = false → wantedA ops env o = some true → (∀ t, o.op ≠ .alloc t) → allocs e.c.P o = false → readW e.c o.op (e.c.evalR env (readsTmp ops o)) S1 (fun v =>
              e.lexW tab ops b S0 base fr0 S Q rest al (Fr.put ⟨env, []⟩ o.dst v).env (S1 :: Ss) (⟨o, env, v, al⟩ :: recs) (isSens o.op (e.c.evalR env (readsTmp ops o)) :: fl)) →
          ∃ r, e.lexD ops S0 base (o :: rest) al env (S1 :: Ss) recs = some r ∧ r.to e ops b S0 base fr0 S Q := by
        intro hm hw hna hnal h
        obtain ⟨v, h1, h2⟩ := readW_sound h
        have hq : ∀ S, e.quietAt ops S0 base al o env S = pureOrRead e.c o.op (e.c.evalR env (readsTmp ops o)) S := by
          intro S
          exact quietAt_run hw hna S
        have hfl : FlagOk e ops S0 base ⟨o, env, v, al⟩ (isSens o.op (e.c.evalR env (readsTmp ops o))) := by
          cases hs : isSens o.op (e.c.evalR env (readsTmp ops o)) with
          | true => exact ⟨hm, hw, fun t ht => absurd ht (hna t)⟩
          | false =>
            refine .inr fun S => ?_
            rw [hq]
            unfold pureOrRead at h1 ⊢
            split at h1
            · rename_i v' hv; exact h1
            · rw [read_none hs] at h1; cases h1
        obtain ⟨r2, h3, h4⟩ := ih _ _ _ _ _ (.cons hfl hf) h2
        refine ⟨r2, ?_, h4⟩
        simp only [Env0.lexD, hm, hnal, Bool.false_eq_true, if_false, hq, h1]
        exact h3
      have off : wantedA ops env o = some false → allocs e.c.P o = false → e.lexW tab ops b S0 base fr0 S Q rest al (Fr.put ⟨env, []⟩ o.dst (.tup [], .no)).env (match moves e.c.P o with | true => S1 :: S1 :: Ss | false => S1 :: Ss) (⟨o, env, (.tup [], .no), al⟩ :: recs) (false :: fl) →
          ∃ r, e.lexD ops S0 base (o :: rest) al env (S1 :: Ss) recs = some r ∧ r.to e ops b S0 base fr0 S Q := by
        intro hw hnal h
        have hfl : FlagOk e ops S0 base ⟨o, env, (.tup [], .no), al⟩ false := by
          refine .inr fun S => ?_
          simp only [Env0.quietAt, hw]
        obtain ⟨r2, h3, h4⟩ := ih _ _ _ _ _ (.cons hfl hf) h
        refine ⟨r2, ?_, h4⟩
        cases hm : moves e.c.P o with
        | true =>
          rw [hm] at h3
          simp only [Env0.lexD, hm, hnal, Bool.false_eq_true, if_false, if_true, hw]
          exact h3
        | false =>
          rw [hm] at h3
          simp only [Env0.lexD, hm, hnal, Bool.false_eq_true, if_false, Env0.quietAt, hw]
          exact h3
      simp only [Env0.lexW] at h
      split at h
      · rename_i hg
        have hw : wantedA ops env o = some true := by simp [wantedA, hg]
        split at h
        · rename_i hm; exact act hm hw h
        · rename_i hm
          split at h
          · rename_i t hop
            obtain ⟨h1, h2⟩ := onlyIf_iff h
            simp only [Bool.and_eq_true] at h1
            have hfl : FlagOk e ops S0 base ⟨o, env, (.ptr (base + al) 0, .no), al⟩ true := ⟨hm, hw, fun t ht => ⟨h1.1, rfl⟩⟩
            obtain ⟨r2, h3, h4⟩ := ih _ _ _ _ _ (.cons hfl hf) h2
            refine ⟨r2, ?_, h4⟩
            simp only [Env0.lexD, hm, h1.1, Bool.false_eq_true, if_false, if_true, Env0.quietAt, hw, hop, h1.2, Bool.and_self]
            exact h3
          · rename_i hna
            have hnal : allocs e.c.P o = false := by
              unfold allocs
              split
              · rename_i t hop _; exact absurd hop (hna t)
              · rfl
            exact quiet hm hw hna hnal h
      · rename_i j want hg
        have hnal := allocs_noguard (P := e.c.P) hg
        split at h
        · rename_i d hd
          split at h
          · rename_i t ht
            have hw : wantedA ops env o = some (t == want) := by simp only [wantedA, hg, hd, ht]
            by_cases hbw : t = want
            · have hw' : wantedA ops env o = some true := by rw [hw, hbw]; cases want <;> rfl
              have h1 := implB_elim h.1 hbw
              rw [setB_eq (v := want) (by rw [← hbw]; exact ht)] at h1
              split at h1
              · rename_i hm; exact act hm hw' h1
              · rename_i hm
                split at h1
                · exact h1.elim
                · rename_i hna; exact quiet hm hw' hna hnal h1
            · have hbw' : t = !want := by clear h hw act quiet off; cases t <;> cases want <;> first | rfl | exact absurd rfl hbw
              have h2 := implB_elim h.2 hbw'
              rw [setB_eq (v := !want) (by rw [← hbw']; exact ht)] at h2
              exact off (by rw [hw, hbw']; cases want <;> rfl) hnal h2
          · rename_i ht; exact off (by simp only [wantedA, hg, hd, ht]) hnal h
          · exact h.elim
        · exact h.elim

def Env0.drawsW (e : Env0) (tab : Tab) (ops : Array Oper) (fr : Fr) (S : St) (Q : Post1) : Prop :=
  onlyIf (drawOk e.c.P ops (CheckFast.beforeL ops.toList 0 [])) (e.lexW tab ops (CheckFast.beforeL ops.toList 0 []) (e.prealloc ops.toList S) S.H.length fr S Q ops.toList 0 fr.env [e.prealloc ops.toList S] [] [])
theorem drawsW_sound {e : Env0} {tab : Tab} (he : e.call = callOf tab) {ops : Array Oper} {fr : Fr} {S : St} {Q : Post1} (h : e.drawsW tab ops fr S Q) : ∃ r, e.draws ops fr S = some r ∧ Q r.1 r.2.1 r.2.2 := by
  obtain ⟨h1, h2⟩ := onlyIf_iff h
  obtain ⟨r, h3, h4⟩ := lexW_sound he _ _ _ _ _ _ .nil h2
  cases r with
  | ok env Ss recs =>
    obtain ⟨k1, k2⟩ := h4
    exact ⟨(.normal, ⟨env, fr.ds⟩, Ss.headD S), by unfold Env0.draws Env0.drawsAt; rw [if_pos h1, h3]; simp only [k1, if_true], k2⟩
  | panic v S' Ss recs rest =>
    obtain ⟨k1, k2, k3⟩ := h4
    exact ⟨(.panic v, forget ops.toList fr, S'), by unfold Env0.draws Env0.drawsAt; rw [if_pos h1, h3]; simp only [k1, k2, Bool.and_self, if_true], k3⟩
end Go.Ab
