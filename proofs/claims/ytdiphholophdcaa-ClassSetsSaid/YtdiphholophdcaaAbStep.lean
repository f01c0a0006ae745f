import Derived.Test.YtdiphholophdcaaAbAct8
set_option linter.unusedVariables false
set_option linter.unusedSimpArgs false
/- ONE OPERATION, A REGION IN THE TEXT's ORDER. -/
namespace Go.Ab
open Go.RowKit

structure RArgs (G : Gh) (T : List Nat) (args : List SV) (vs : Array Value) : Prop where
  len : args.length = vs.size
  at_ : ∀ i (h : i < args.length) (h' : i < vs.size), RS G T args[i] vs[i]
/-- how a call's end stands for the machine's -/
def OutR (G : Gh) (T : List Nat) : COut → Ending → Prop
  | .ret x, .returned v => RS G T x v
  | .panic x, .panicked chain => ∃ v, chain = [{ v := v, recovered := false }] ∧ R G x v
  | _, _ => False
/-- a call that enters its function, or one that the model answers itself -/
def CallTo (P : Program) (f : FuncId) (vs : Array Value) (w : World) (R : Ending → World → Prop) : Prop :=
  ((callFunc f vs).run P w = .ok (.enter f vs) w ∧ Calls P f vs w R) ∨ ∃ v w', (callFunc f vs).run P w = .ok (.value v) w' ∧ R (.returned v) w'
/-- A CALL OF THE PURE RUN IS THE MACHINE'S. -/
def CallSound (c : Ctx) (call : CallFn) : Prop := ∀ (f : FuncId) (args : List SV) (S : St) (out : COut) (S' : St), call f args S = some (out, S') →
  ∀ (B : Bd) (w0 : World) (G : Gh) (w : World) (vs : Array Value), Inv c B w0 G S w → RArgs G S.T args vs →
    CallTo c.P f vs w fun en w' => ∃ G', Inv c B w0 G' S' w' ∧ Grows G S.T G' S'.T ∧ OutR G' S'.T out en

/-- what is deferred -/
def DefR1 (G : Gh) (x : FuncId × List SV) (d : Deferred) : Prop := ∃ cap, d.target = .fn (.func x.1) cap ∧ x.2.length = (d.args ++ cap).size ∧ ∀ i (h : i < x.2.length) (h' : i < (d.args ++ cap).size), R G x.2[i].1 (d.args ++ cap)[i] ∧ x.2[i].2 = .no
def DefR (G : Gh) : List (FuncId × List SV) → List Deferred → Prop
  | [], [] => True
  | x :: xs, d :: ds => DefR1 G x d ∧ DefR G xs ds
  | _, _ => False
theorem DefR1.mono {G G' : Gh} (m : Mono G G') {x : FuncId × List SV} {d : Deferred} (h : DefR1 G x d) : DefR1 G' x d := by
  obtain ⟨cap, h1, h2, h3⟩ := h
  exact ⟨cap, h1, h2, fun i a b => ⟨(h3 i a b).1.mono m, (h3 i a b).2⟩⟩
theorem DefR.mono {G G' : Gh} (m : Mono G G') : ∀ {xs : List (FuncId × List SV)} {ds : List Deferred}, DefR G xs ds → DefR G' xs ds
  | [], [], _ => trivial
  | _ :: _, _ :: _, h => ⟨h.1.mono m, DefR.mono m h.2⟩
  | [], _ :: _, h => h.elim
  | _ :: _, [], h => h.elim
structure FrR (G : Gh) (T : List Nat) (fr : Fr) (a : Act) : Prop where
  env : EnvR G T fr.env a
  ds : DefR G fr.ds a.defers
theorem EnvR.later {G G' : Gh} {T T' : List Nat} (l : Later G T G' T') {env : Env} {a : Act} (h : EnvR G T env a) : EnvR G' T' env a := ⟨h.len, fun i x y => (h.at_ i x y).later l⟩
theorem FrR.later {G G' : Gh} {T T' : List Nat} (l : Later G T G' T') {fr : Fr} {a : Act} (h : FrR G T fr a) : FrR G' T' fr a := ⟨h.env.later l, h.ds.mono l.mono⟩

theorem EnvR.put {G : Gh} {T : List Nat} {env : Env} {a : Act} {x : SV} {v : Value} (h : EnvR G T env a) (hx : RS G T x v) (d : Nat) : EnvR G T (env.set d x) { a with tmps := a.tmps.setIfInBounds d v } := by
  refine ⟨by simp [h.len], fun i h1 h2 => ?_⟩
  simp only [List.length_set] at h1
  have h2' : i < a.tmps.size := by rw [← h.len]; exact h1
  by_cases e : d = i
  · subst e
    simp
    exact hx
  · simp only [List.getElem_set_ne e]
    rw [Array.getElem_setIfInBounds_ne (by simpa using h2') e]
    exact h.at_ i h1 h2'
theorem FrR.put {G : Gh} {T : List Nat} {fr : Fr} {a : Act} {x : SV} {v : Value} (h : FrR G T fr a) (hx : RS G T x v) (dst : Option Tmp) : FrR G T (fr.put dst x) (a.put dst v) := by
  cases dst with
  | none => exact h
  | some d => exact ⟨h.env.put hx d, h.ds⟩

section
variable {c : Ctx} {B : Bd} {w0 : World} {G : Gh} {S : St} {w : World}

theorem wanted_sound {T : List Nat} {ops : Array Oper} {env : Env} {a : Act} {o : Oper} {b : Bool} (he : EnvR G T env a) (h : wantedA ops env o = some b) : Region.wanted o (yielded ops a.tmps) = b := by
  unfold wantedA at h
  unfold Region.wanted
  cases hg : o.guard with
  | none => simp [hg] at h; simp [h]
  | some g =>
    obtain ⟨j, want⟩ := g
    simp only [hg] at h
    cases hd : (ops[j]?).bind (·.dst) with
    | none => simp [hd] at h
    | some d =>
      simp only [hd] at h
      have hy : yielded ops a.tmps j = match a.tmps[d]? with | some (.bool b) => some b | _ => none := by
        unfold yielded
        rw [hd]
        rfl
      simp only [hy]
      have hdl : d < env.length := by
        rcases Nat.lt_or_ge d env.length with hl | hl
        · exact hl
        · rw [List.getD, List.getElem?_eq_none hl] at h
          simp at h
      have hr := (he.at_ d hdl (he.len ▸ hdl)).1
      have hg2 : env.getD d (.undef, .no) = env[d] := by simp [List.getD, List.getElem?_eq_getElem hdl]
      rw [hg2] at h
      rw [Array.getElem?_eq_getElem (he.len ▸ hdl)]
      generalize env[d].1 = x at *
      generalize a.tmps[d]'(he.len ▸ hdl) = v at *
      cases hr with
      | bool q =>
        simp only [Option.some.injEq] at h
        rw [← h]
        cases q <;> cases want <;> rfl
      | tup cs vs hl hR =>
        cases cs with
        | nil => simp only [Option.some.injEq] at h; rw [← h]; rfl
        | cons => cases h
      | _ => cases h

/-- what an operation that hands back a value, or nothing, comes to -/
theorem upon_of_does {o : Oper} {a : Act} {x : SV} {S' : St} {next : Act → World → Prop} {Q : Exit → Act → World → Prop} (h : Does c B w0 G S w a.eval o x S')
    (hn : ∀ G' v w', Inv c B w0 G' S' w' → Grows G S.T G' S'.T → RS G' S'.T x v → next (a.put o.dst v) w') : o.wp c.P a w next Q := by
  obtain ⟨w', G', nx, v, h1, h2, h3, h4, h5⟩ := h
  unfold Oper.wp
  rw [h1]
  rcases h2 with rfl | ⟨rfl, rfl⟩
  · exact hn G' _ w' h3 h4 h5
  · exact hn G' _ w' h3 h4 h5

theorem call_run {e : Env0} {σ : Operand → Value} {o : Oper} {f : Operand} {args : Array Operand} {ts : Array TypeId} {k : FuncId} {va vb : Array Value} (hop : o.op = .call { callee := .value f, args, argTypes := ts })
    (hf : σ f = .func (.func k) va vb) : (execOp σ o).run e.c.P w = (callFunc k ((va ++ args.map σ) ++ vb)).run e.c.P w := by
  simp [execOp, hop, resolve, Deferred.ofValue, hf, invoke]

theorem rargs_of {ρ : Operand → SV} {σ : Operand → Value} {T : List Nat} {first cap : List AV} {va vb : Array Value} (hρ : ∀ x, RS G T (ρ x) (σ x)) {f : FuncId} (h : R G (.fn f first cap) (.func (.func f) va vb)) (args : Array Operand) :
    RArgs G T (first.map (·, .no) ++ args.toList.map ρ ++ cap.map (·, .no)) ((va ++ args.map σ) ++ vb) := by
  cases h with
  | fn _ _ _ _ _ ha hb hra hrb =>
    refine ⟨by simp [ha, hb], fun i h h' => ?_⟩
    simp only [List.length_append, List.length_map, Array.length_toList] at h
    by_cases c1 : i < first.length
    · rw [List.getElem_append_left (by simp; omega), List.getElem_append_left (by simp; omega), Array.getElem_append_left (by simp; omega), Array.getElem_append_left (by omega)]
      simp only [List.getElem_map]
      exact RS.no (hra i c1 (by omega))
    · by_cases c2 : i < first.length + args.size
      · rw [List.getElem_append_left (by simp; omega), List.getElem_append_right (by simp; omega), Array.getElem_append_left (by simp; omega), Array.getElem_append_right (by omega)]
        simp only [List.getElem_map, List.length_map, Array.getElem_map, ha]
        simpa using hρ _
      · rw [List.getElem_append_right (by simp; omega), Array.getElem_append_right (by simp; omega)]
        simp only [List.getElem_map, List.length_append, List.length_map, Array.length_toList, Array.size_append, Array.size_map, ha]
        exact RS.no (hrb _ (by omega) (by omega))

theorem wp_call {e : Env0} (he : e.c = c) (hcall : CallSound c e.call) {o : Oper} {a : Act} {ρ : Operand → SV} {f : Operand} {args : Array Operand} {ts : Array TypeId} {k : FuncId} {first cap : List AV} {out : COut} {S' : St}
    (inv : Inv c B w0 G S w) (hρ : ∀ x, RS G S.T (ρ x) (a.eval x)) (hop : o.op = .call { callee := .value f, args, argTypes := ts }) (hf : (ρ f).1 = .fn k first cap)
    (h : e.call k (first.map (·, .no) ++ args.toList.map ρ ++ cap.map (·, .no)) S = some (out, S')) {next : Act → World → Prop} {Q : Exit → Act → World → Prop}
    (hret : ∀ x, out = .ret x → ∀ G' v w', Inv c B w0 G' S' w' → Grows G S.T G' S'.T → RS G' S'.T x v → next (a.put o.dst v) w')
    (hpan : ∀ x, out = .panic x → ∀ G' w' v, Inv c B w0 G' S' w' → Grows G S.T G' S'.T → R G' x v → Q (.panic [{ v := v, recovered := false }]) a w') : o.wp c.P a w next Q := by
  subst he
  have hr := (hρ f).1
  rw [hf] at hr
  have hc := hcall k _ S out S' h
  have hr0 := hr
  generalize hv : a.eval f = v at hr hr0
  cases hr with
  | fn _ _ _ va vb ha hb hra hrb =>
    have hargs := rargs_of hρ hr0 args
    have run := call_run (e := e) (w := w) hop hv
    rcases hc B w0 G w _ inv hargs with ⟨henter, hcalls⟩ | ⟨v, w', hval, G', i', g', ho⟩
    case inr =>
      rw [hval] at run
      unfold Oper.wp
      rw [run]
      cases out with
      | ret x => exact hret x rfl G' _ w' i' g' ho
      | panic x => exact ho.elim
    rw [henter] at run
    unfold Oper.wp
    rw [run]
    refine hcalls.mono fun en w' ⟨G', i', g', ho⟩ => ?_
    cases out with
    | ret x =>
      cases en with
      | returned v => exact hret x rfl G' _ w' i' g' ho
      | panicked => exact ho.elim
      | outgrown => exact ho.elim
    | panic x =>
      cases en with
      | returned v => exact ho.elim
      | panicked ch =>
        obtain ⟨v, rfl, hv⟩ := ho
        exact hpan x rfl G' w' v i' g' hv
      | outgrown => exact ho.elim
end
end Go.Ab
