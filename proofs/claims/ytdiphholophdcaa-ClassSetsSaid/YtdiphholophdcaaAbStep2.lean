import Derived.Test.YtdiphholophdcaaAbStep
set_option linter.unusedVariables false
set_option linter.unusedSimpArgs false
namespace Go.Ab
open Go.RowKit
section
variable {c : Ctx} {B : Bd} {w0 : World} {G : Gh} {S : St} {w : World}

/-- an operation that acts -/
theorem act_sound {e : Env0} (he : e.c = c) (hcall : CallSound c e.call) {o : Oper} {a : Act} {ρ : Operand → SV} {r : ARes} (inv : Inv c B w0 G S w) (hρ : ∀ x, RS G S.T (ρ x) (a.eval x)) (h : e.act o.op ρ S = some r)
    {next : Act → World → Prop} {Q : Exit → Act → World → Prop}
    (hret : ∀ x S', r = .ok x S' → ∀ G' v w', Inv c B w0 G' S' w' → Grows G S.T G' S'.T → RS G' S'.T x v → next (a.put o.dst v) w')
    (hpan : ∀ x S', r = .panic x S' → ∀ G' w' v, Inv c B w0 G' S' w' → Grows G S.T G' S'.T → R G' x v → Q (.panic [{ v := v, recovered := false }]) a w') : o.wp c.P a w next Q := by
  have done : ∀ x S', r = .ok x S' → Does c B w0 G S w a.eval o x S' → o.wp c.P a w next Q := fun x S' hr hd => upon_of_does hd (hret x S' hr)
  cases hop : o.op <;> rw [hop] at h <;> first
    | (simp [Env0.act] at h; done)
    | skip
  · -- alloc
    cases r with
    | ok x S' => exact done x S' rfl (d_alloc he hop inv h)
    | panic x S' => simp [Env0.act, Env0.newVar] at h
  · -- box
    cases r with
    | ok x S' => exact done x S' rfl (d_box he hop inv hρ h)
    | panic x S' => simp [Env0.act, Env0.newVar] at h
  · -- store
    cases r with
    | ok x S' => exact done x S' rfl (d_store he hop inv hρ h)
    | panic x S' =>
      simp only [Env0.act] at h
      split at h <;> first | (cases h; done) | skip
      split at h <;> first | (cases h; done) | skip
      have := (Option.ite_none_right_eq_some.1 h).2
      cases this
  · -- convert
    cases r with
    | ok x S' => exact done x S' rfl (d_convert he hop inv hρ h)
    | panic x S' =>
      simp only [Env0.act] at h
      split at h <;> first | (cases h; done) | skip
      split at h <;> first | (cases h; done) | skip
      split at h <;> cases h
  · -- makeSlice
    cases r with
    | ok x S' => exact done x S' rfl (d_makeSlice he hop inv hρ h)
    | panic x S' =>
      simp only [Env0.act] at h
      split at h <;> first | (cases h; done) | skip
      have := (Option.ite_none_right_eq_some.1 h).2
      cases this
  · -- call
    rename_i cl
    obtain ⟨callee, args, ts⟩ := cl
    cases callee with
    | invoke => simp [Env0.act] at h
    | builtin b =>
      cases b <;> first
        | (simp [Env0.act] at h; done)
        | skip
      cases r with
      | ok x S' => exact done x S' rfl (d_append he hop inv hρ h)
      | panic x S' =>
        exfalso
        simp only [Env0.act] at h
        split at h <;> first | (cases h; done) | skip
        unfold Env0.append at h
        split at h <;> first | (cases h; done) | skip
        split at h <;> first | (cases h; done) | skip
        have h := (Option.ite_none_right_eq_some.1 h).2
        split at h
        · have h := (Option.ite_none_right_eq_some.1 h).2
          split at h <;> cases h
        · split at h <;> cases h
        · cases h
    | value f =>
      simp only [Env0.act] at h
      split at h <;> first | (cases h; done) | skip
      rename_i k first cap hf
      split at h <;> first | (cases h; done) | skip
      · rename_i x S' hc
        cases h
        exact wp_call he hcall inv hρ hop hf hc (fun y hy => by cases hy; exact hret x S' rfl) (fun y hy => by cases hy)
      · rename_i x S' hc
        cases h
        exact wp_call he hcall inv hρ hop hf hc (fun y hy => by cases hy) (fun y hy => by cases hy; exact hpan x S' rfl)
  · -- panic
    rename_i y
    simp only [Env0.act] at h
    split at h <;> first | (cases h; done) | skip
    rename_i t v hy
    cases h
    have hr := (hρ y).1
    rw [hy] at hr
    unfold Oper.wp
    generalize hav : a.eval y = u at hr
    cases hr with
    | iface _ _ u hu =>
      have run : (execOp a.eval o).run c.P w = .halt (.panic (.iface t u)) w := by
        simp [execOp, hop, hav, Instr.panic]
      rw [run]
      exact hpan _ _ rfl G w _ inv (.refl _ _) (.iface _ _ _ hu)

/-- a step of a list of operations, as the model's wp has it -/
def OpWp (P : Program) (ops : Array Oper) (o : Oper) (a : Act) (w : World) (K : Act → World → Prop) (Q : Exit → Act → World → Prop) : Prop :=
  if Region.wanted o (yielded ops a.tmps) then o.wp P a w K Q ∨ (o.asks P a w ∧ LetsOut Q) else K (a.put o.dst undef) w

/-- the same, where nothing outgrows -/
def OpWp1 (P : Program) (ops : Array Oper) (o : Oper) (a : Act) (w : World) (K : Act → World → Prop) (Q : Exit → Act → World → Prop) : Prop :=
  if Region.wanted o (yielded ops a.tmps) then o.wp P a w K Q else K (a.put o.dst undef) w
theorem OpWp1.weak {P : Program} {ops : Array Oper} {o : Oper} {a : Act} {w : World} {K : Act → World → Prop} {Q : Exit → Act → World → Prop} (h : OpWp1 P ops o a w K Q) : OpWp P ops o a w K Q := by
  unfold OpWp1 at h
  unfold OpWp
  split
  · rename_i hw; simp only [hw, if_true] at h; exact .inl h
  · rename_i hw; simp only [hw] at h; exact h

theorem tup_undef {T : List Nat} : RS G T (.tup [], .no) undef := RS.no (.tup [] #[] rfl (fun i h => absurd h (by simp)))

theorem step_sound1 {e : Env0} (he : e.c = c) (hcall : CallSound c e.call) {ops : Array Oper} {o : Oper} {a : Act} {fr : Fr} {r : ORes} (inv : Inv c B w0 G S w) (hfr : FrR G S.T fr a) (h : e.step ops o fr S = some r)
    {next : Act → World → Prop} {Q : Exit → Act → World → Prop}
    (hret : ∀ fr' S', r = .ok fr' S' → ∀ G' a' w', Inv c B w0 G' S' w' → Grows G S.T G' S'.T → FrR G' S'.T fr' a' → next a' w')
    (hpan : ∀ x fr' S', r = .panic x fr' S' → ∀ G' w' v, Inv c B w0 G' S' w' → Grows G S.T G' S'.T → FrR G' S'.T fr' a → R G' x v → Q (.panic [{ v := v, recovered := false }]) a w') : OpWp1 c.P ops o a w next Q := by
  subst he
  unfold Env0.step at h
  unfold OpWp1
  split at h <;> first | (cases h; done) | skip
  · rename_i hw
    cases h
    rw [wanted_sound hfr.env hw]
    simp only [Bool.false_eq_true, if_false]
    exact hret _ _ rfl G _ w inv (.refl _ _) (hfr.put tup_undef o.dst)
  · rename_i hw
    rw [wanted_sound hfr.env hw]
    simp only [if_true]
    have hρ := fun x => eval_sound inv hfr.env x
    split at h
    · -- defer
      rename_i f args ts hop
      split at h <;> first | (cases h; done) | skip
      rename_i k first cap hf
      cases h
      have hr := (hρ f).1
      rw [hf] at hr
      have hr0 := hr
      generalize hv : a.eval f = v at hr hr0
      cases hr with
      | fn _ _ _ va vb ha hb hra hrb =>
        have hargs := rargs_of hρ hr0 args
        have run : (execOp a.eval o).run e.c.P w = .ok (.defer { target := .fn (.func k) vb, args := va ++ args.map a.eval }) w := by
          simp [execOp, hop, resolve, Deferred.ofValue, hv]
        unfold Oper.wp
        rw [run]
        refine hret _ _ rfl G _ w inv (.refl _ _) ?_
        have h1 : FrR G S.T { fr with ds := (k, (first ++ args.toList.map (fun x => (e.c.eval fr.env x).1) ++ cap).map fun v => ((v, Tag.no) : SV)) :: fr.ds } { a with defers := { target := .fn (.func k) vb, args := va ++ args.map a.eval } :: a.defers } := by
          refine ⟨⟨hfr.env.len, hfr.env.at_⟩, ⟨vb, rfl, ?_, fun i h1 h2 => ⟨?_, by simp only [List.getElem_map]⟩⟩, hfr.ds⟩
          · have := hargs.len; simpa using this
          · have h3 := (hargs.at_ i (by simpa using h1) h2).1
            have e1 : ((first.map ((·, Tag.no) : AV → SV) ++ args.toList.map (e.c.eval fr.env) ++ cap.map (·, Tag.no))[i]'(by simpa using h1)).1 = ((first ++ args.toList.map (fun x => (e.c.eval fr.env x).1) ++ cap)[i]'(by simpa using h1)) := by
              have e2 : (first.map ((·, Tag.no) : AV → SV) ++ args.toList.map (e.c.eval fr.env) ++ cap.map (·, Tag.no)).map (·.1) = first ++ args.toList.map (fun x => (e.c.eval fr.env x).1) ++ cap := by simp [Function.comp_def]
              simp only [← e2, List.getElem_map]
            rw [e1] at h3
            simp only [List.getElem_map]
            exact h3
        exact h1.put tup_undef o.dst
    · split at h
      · rename_i v hp
        cases h
        exact upon_of_does (pure_sound inv hρ hp) fun G' v w' i g hv => hret _ _ rfl G' _ w' i g ((hfr.later g.later).put hv o.dst)
      · split at h
        · rename_i v hp
          cases h
          exact upon_of_does ((read_sound inv hρ hp).does inv) fun G' v w' i g hv => hret _ _ rfl G' _ w' i g ((hfr.later g.later).put hv o.dst)
        · split at h <;> first | (cases h; done) | skip
          · rename_i v S' hact
            cases h
            exact act_sound rfl hcall inv hρ hact (fun x S'' hx G' v w' i g hv => by cases hx; exact hret _ _ rfl G' _ w' i g ((hfr.later g.later).put hv o.dst)) (fun x S'' hx => by cases hx)
          · rename_i v S' hact
            cases h
            exact act_sound rfl hcall inv hρ hact (fun x S'' hx => by cases hx) (fun x S'' hx G' w' v i g hv => by cases hx; exact hpan _ _ _ rfl G' w' v i g (hfr.later g.later) hv)

theorem step_sound {e : Env0} (he : e.c = c) (hcall : CallSound c e.call) {ops : Array Oper} {o : Oper} {a : Act} {fr : Fr} {r : ORes} (inv : Inv c B w0 G S w) (hfr : FrR G S.T fr a) (h : e.step ops o fr S = some r)
    {next : Act → World → Prop} {Q : Exit → Act → World → Prop}
    (hret : ∀ fr' S', r = .ok fr' S' → ∀ G' a' w', Inv c B w0 G' S' w' → Grows G S.T G' S'.T → FrR G' S'.T fr' a' → next a' w')
    (hpan : ∀ x fr' S', r = .panic x fr' S' → ∀ G' w' v, Inv c B w0 G' S' w' → Grows G S.T G' S'.T → FrR G' S'.T fr' a → R G' x v → Q (.panic [{ v := v, recovered := false }]) a w') : OpWp c.P ops o a w next Q :=
  (step_sound1 he hcall inv hfr h hret hpan).weak
end
end Go.Ab
