import Derived.Test.YtdiphholophdcaaAbCall
import Derived.Recover
set_option linter.unusedVariables false
set_option linter.unusedSimpArgs false
/- CALLS: bodies, deferred calls. -/
namespace Go.Ab
open Go.RowKit

theorem enter_run {P : Program} {f : FuncId} {fn : Func} {k : Code} (hf : P.funcs[f]? = some fn) (hname : (fn.name == "runtime.NumGoroutine") = false) (hb : fn.body = some k) (args : Array Value) (w : World) :
    (callFunc f args).run P w = .ok (.enter f args) w := by
  have h1 : fn.name ≠ "runtime.NumGoroutine" := by simpa using hname
  simp [callFunc, hf, h1, hb]

/-- how the mode of the frame below stands -/
def UR (G : Gh) : Below1 → FrameMode → Prop
  | .returning, m => m = .returning
  | .panics x, m => ∃ v, m = .panicking [{ v := v, recovered := false }] ∧ R G x v
  | .recovered, m => ∃ v, m = .panicking [{ v := v, recovered := true }]
theorem UR.mono {G G' : Gh} (m : Mono G G') {u : Below1} {x : FrameMode} (h : UR G u x) : UR G' u x := by
  cases u with
  | returning => exact h
  | panics a => obtain ⟨v, h1, h2⟩ := h; exact ⟨v, h1, h2.mono m⟩
  | recovered => exact h

section
variable {c : Ctx} {B : Bd} {w0 : World}

/-- what is asked behind a deferred function's code -/
def PostD (c : Ctx) (B : Bd) (w0 : World) (G : Gh) (T : List Nat) (c0 : Frame) (cs : List Frame) (r : Below1 × Ex × Fr × St) (Q : Exit → Act → List Frame → World → Prop) : Prop :=
  ∀ G' ex a' w' m', ExR G' r.2.1 ex → Inv c B w0 G' r.2.2.2 w' → Grows G T G' r.2.2.2.T → FrR G' r.2.2.2.T r.2.2.1 a' → UR G' r.1 m' → Q ex a' ({ c0 with mode := m' } :: cs) w'
theorem PostD.trans {G G1 : Gh} {T T1 : List Nat} {c0 : Frame} {cs : List Frame} {r : Below1 × Ex × Fr × St} {Q : Exit → Act → List Frame → World → Prop} (g : Grows G T G1 T1) (h : PostD c B w0 G T c0 cs r Q) : PostD c B w0 G1 T1 c0 cs r Q :=
  fun G' ex a' w' m' h1 h2 h3 h4 h5 => h G' ex a' w' m' h1 h2 (g.trans h3) h4 h5

theorem recover_run {σ : Operand → Value} {o : Oper} (h : isRecover o = true) (P : Program) (w : World) : (execOp σ o).run P w = .ok .recover w ∧ o.guard = none := by
  unfold isRecover at h
  split at h
  · exact ⟨by simp [execOp, resolve, invoke, builtin], rfl⟩
  · cases h

theorem opsD_sound {e : Env0} (he : e.c = c) (hcall : CallSound c e.call) {ops : Array Oper} {c0 : Frame} {cs : List Frame} {Q : Exit → Act → List Frame → World → Prop} : ∀ (rest : List Oper) (k : Nat), rest = ops.toList.drop k →
    ∀ (u : Below1) (fr : Fr) (S : St) (r : Below1 × ORes) (a : Act) (w : World) (G : Gh) (m : FrameMode), e.opsD ops rest u fr S = some r → Inv c B w0 G S w → FrR G S.T fr a → UR G u m →
      (∀ fr' S', r.2 = .ok fr' S' → ∀ G' a' w' m', Inv c B w0 G' S' w' → Grows G S.T G' S'.T → FrR G' S'.T fr' a' → UR G' r.1 m' → Q .normal a' ({ c0 with mode := m' } :: cs) w') →
      (∀ x fr' S', r.2 = .panic x fr' S' → ∀ G' a' w' v m', Inv c B w0 G' S' w' → Grows G S.T G' S'.T → FrR G' S'.T fr' a' → R G' x v → UR G' r.1 m' → Q (.panic [{ v := v, recovered := false }]) a' ({ c0 with mode := m' } :: cs) w') →
      wpOpsS c.P ops Q (List.range' k rest.length) a ({ c0 with mode := m } :: cs) w := by
  intro rest
  induction rest with
  | nil =>
    intro k hk u fr S r a w G m h inv hfr hu hok hpan
    simp only [Env0.opsD] at h
    cases h
    exact hok _ _ rfl G a w m inv (.refl _ _) hfr hu
  | cons o rest ih =>
    intro k hk u fr S r a w G m h inv hfr hu hok hpan
    have hlt : k < ops.size := by
      rcases Nat.lt_or_ge k ops.size with hl | hl
      · exact hl
      · rw [List.drop_of_length_le (by simpa using hl)] at hk; cases hk
    have hcons : ops.toList.drop k = ops.toList[k]'(by simpa using hlt) :: ops.toList.drop (k + 1) := List.drop_eq_getElem_cons _
    have ho : ops[k]? = some o := by
      rw [hcons] at hk
      cases hk
      simp [hlt]
    have hrest : rest = ops.toList.drop (k + 1) := by
      rw [hcons] at hk
      cases hk
      rfl
    simp only [List.length_cons, List.range'_succ, wpOpsS, ho]
    simp only [Env0.opsD] at h
    by_cases hrec : isRecover o = true
    · rw [if_pos hrec] at h
      obtain ⟨hrun, hg⟩ := recover_run (σ := a.eval) hrec c.P w
      have hw : Region.wanted o (yielded ops a.tmps) = true := by simp [Region.wanted, hg]
      simp only [hw, if_true, hrun]
      cases u with
      | panics x =>
        simp only at h
        obtain ⟨v, rfl, hv⟩ := hu
        simp only [recoverD]
        exact ih (k + 1) hrest .recovered _ S r _ w G _ h inv (hfr.put (.no hv) o.dst) ⟨v, rfl⟩ hok hpan
      | returning =>
        simp only at h
        have hm : m = .returning := hu
        subst hm
        simp only [recoverD]
        exact ih (k + 1) hrest .returning _ S r _ w G _ h inv (hfr.put (.no .nili) o.dst) rfl hok hpan
      | recovered =>
        simp only at h
        obtain ⟨v, rfl⟩ := hu
        simp only [recoverD]
        exact ih (k + 1) hrest .recovered _ S r _ w G _ h inv (hfr.put (.no .nili) o.dst) ⟨v, rfl⟩ hok hpan
    · rw [if_neg hrec] at h
      have key : ∀ r1, e.step ops o fr S = some r1 → OpWp1 c.P ops o a w (fun a' w' => wpOpsS c.P ops Q (List.range' (k + 1) rest.length) a' ({ c0 with mode := m } :: cs) w') (fun ex a' w' => Q ex a' ({ c0 with mode := m } :: cs) w') := by
        intro r1 hs
        rw [hs] at h
        refine step_sound1 he hcall inv hfr hs (fun fr' S' hr G' a' w' i g f => ?_) (fun x fr' S' hr G' w' v i g f hv => ?_)
        · subst hr
          exact ih (k + 1) hrest u fr' S' r a' w' G' m h i f (hu.mono g.mono) (fun fr2 S2 hr2 G2 a2 w2 m2 i2 g2 f2 u2 => hok fr2 S2 hr2 G2 a2 w2 m2 i2 (g.trans g2) f2 u2)
            (fun x fr2 S2 hr2 G2 a2 w2 v m2 i2 g2 f2 hv u2 => hpan x fr2 S2 hr2 G2 a2 w2 v m2 i2 (g.trans g2) f2 hv u2)
        · subst hr
          simp only at h
          cases h
          exact hpan x fr' S' rfl G' a w' v m i g f hv (hu.mono g.mono)
      cases hs : e.step ops o fr S with
      | none => rw [hs] at h; cases h
      | some r1 =>
        have hk1 := key r1 hs
        unfold OpWp1 at hk1
        split
        · rename_i hw
          simp only [hw, if_true] at hk1
          unfold Oper.wp at hk1
          split
          · rename_i hr; rw [hr] at hk1; exact hk1.elim
          · rename_i hr; exact hk1
        · rename_i hw
          simp only [hw] at hk1
          exact hk1

theorem map_code_sound {e : Env0} (he : e.c = c) (hcall : CallSound c e.call) (htags : CallTags e.call) (hd : DrawSound c B w0 e) {fuel : Nat} {k : Code} {u : Below1} {fr : Fr} {S : St} {r : Below1 × Ex × Fr × St} {a : Act} {w : World} {G : Gh} {m : FrameMode}
    {c0 : Frame} {cs : List Frame} {Q : Exit → Act → List Frame → World → Prop} (h : ((e.code fuel k fr S).map fun r => (u, r)) = some r) (inv : Inv c B w0 G S w) (hfr : FrR G S.T fr a) (hfit : Fit e S) (hu : UR G u m)
    (hq : PostD c B w0 G S.T c0 cs r Q) : k.wpS c.P Q a ({ c0 with mode := m } :: cs) w := by
  cases hx : e.code fuel k fr S with
  | none => rw [hx] at h; cases h
  | some q =>
    rw [hx] at h
    cases h
    exact wpS_of_wp (code_sound he hcall htags hd fuel k fr S q a w G _ hx inv hfr hfit fun G' ex a' w' h1 h2 h3 h4 => hq G' ex a' w' m h1 h2 h3 h4 (hu.mono h3.mono))

theorem codeD_sound {e : Env0} (he : e.c = c) (hcall : CallSound c e.call) (htags : CallTags e.call) (hd : DrawSound c B w0 e) (fuel : Nat) {c0 : Frame} {cs : List Frame} : ∀ (k : Code) (u : Below1) (fr : Fr) (S : St) (r : Below1 × Ex × Fr × St) (a : Act) (w : World) (G : Gh) (m : FrameMode)
    (Q : Exit → Act → List Frame → World → Prop), e.codeD fuel k u fr S = some r → Inv c B w0 G S w → FrR G S.T fr a → Fit e S → UR G u m → PostD c B w0 G S.T c0 cs r Q → k.wpS c.P Q a ({ c0 with mode := m } :: cs) w := by
  intro k
  induction k with
  | seq x y ihx ihy =>
    intro u fr S r a w G m Q h inv hfr hfit hu hq
    simp only [Env0.codeD] at h
    split at h
    · cases hx : e.codeD fuel x u fr S with
      | none => rw [hx] at h; cases h
      | some q =>
        have hst := codeD_steps htags fuel x u fr S q hfit.n hx
        rw [hx] at h
        refine wpS_seq (ihx u fr S q a w G m _ hx inv hfr hfit hu fun G' ex a' w' m' hex i' g' f' u' => ?_)
        obtain ⟨u1, ex1, fr1, S1⟩ := q
        cases ex1 with
        | normal =>
          simp only at h
          cases ex <;> simp only [ExR] at hex
          exact ihy u1 fr1 S1 r a' w' G' m' Q h i' f' (hfit.step hst g'.len_T) u' (hq.trans g')
        | _ =>
          simp only at h; cases h
          cases ex <;> simp only [ExR] at hex <;> exact hq G' _ a' w' m' hex i' g' f' u'
    · exact map_code_sound he hcall htags hd h inv hfr hfit hu hq
  | region id ops draw =>
    intro u fr S r a w G m Q h inv hfr hfit hu hq
    cases draw with
    | true => simp only [Env0.codeD] at h; exact map_code_sound he hcall htags hd h inv hfr hfit hu hq
    | false =>
      simp only [Env0.codeD] at h
      split at h
      · refine wpS_region ?_
        have hl : ops.toList.length = ops.size := by simp
        rw [List.range_eq_range', ← hl]
        cases hx : e.opsD ops ops.toList u fr S with
        | none => rw [hx] at h; cases h
        | some q =>
          rw [hx] at h
          refine opsD_sound he hcall ops.toList 0 (by simp) u fr S q a w G m hx inv hfr hu (fun fr' S' hr G' a' w' m' i g f u' => ?_) (fun x fr' S' hr G' a' w' v m' i g f hv u' => ?_)
          · obtain ⟨q1, q2⟩ := q
            simp only at hr
            subst hr
            cases h
            exact hq G' .normal a' w' m' trivial i g f u'
          · obtain ⟨q1, q2⟩ := q
            simp only at hr
            subst hr
            cases h
            exact hq G' _ a' w' m' ⟨v, rfl, hv⟩ i g f u'
      · exact map_code_sound he hcall htags hd h inv hfr hfit hu hq
  | _ => intro u fr S r a w G m Q h inv hfr hfit hu hq; simp only [Env0.codeD] at h; exact map_code_sound he hcall htags hd h inv hfr hfit hu hq

theorem frame0_sound {G : Gh} {T : List Nat} {fn : Func} {args : List SV} {vs : Array Value} (h : RArgs G T args vs) : FrR G T (frame0 fn args) { tmps := vs ++ Array.replicate (fn.ntmps - vs.size) undef, defers := [] } := by
  refine ⟨⟨by simp [frame0, h.len], fun i h1 h2 => ?_⟩, trivial⟩
  simp only [frame0] at h1 ⊢
  by_cases hi : i < args.length
  · rw [List.getElem_append_left hi, Array.getElem_append_left (by rw [← h.len]; exact hi)]
    exact h.at_ i hi _
  · rw [List.getElem_append_right (by omega)]
    simp only [List.getElem_replicate]
    exact .no (.undef _)

theorem fit0 {d : Nat → List Tmp} {c' : Ctx} {pre : TypeId → Bool} {call : CallFn} {G : Gh} {S : St} {w : World} (inv : Inv c B w0 G S w) : Fit ⟨c', pre, S.H.length, S.T.length, call, d⟩ S :=
  ⟨Nat.le_refl _, Nat.le_refl _, fun b cells _ hc x hx => inv.tag b cells hc x hx⟩

theorem settle_UR {G : Gh} {u : Below1} {m : FrameMode} (h : UR G u m) : UR G (match u with | .recovered => .returning | u => u) (settle m) := by
  cases u with
  | returning => cases h; rfl
  | panics x => obtain ⟨v, rfl, hv⟩ := h; exact ⟨v, rfl, hv⟩
  | recovered => obtain ⟨v, rfl⟩ := h; rfl

theorem opsD_u {e : Env0} {ops : Array Oper} : ∀ (rest : List Oper) (u : Below1) (fr : Fr) (S : St) (r : Below1 × ORes), e.opsD ops rest u fr S = some r → r.1 = u ∨ r.1 = .recovered := by
  intro rest
  induction rest with
  | nil => intro u fr S r h; simp only [Env0.opsD] at h; cases h; exact .inl rfl
  | cons o rest ih =>
    intro u fr S r h
    simp only [Env0.opsD] at h
    split at h
    · split at h
      · rcases ih _ _ _ _ h with h1 | h1 <;> exact .inr h1
      · exact ih _ _ _ _ h
    · split at h
      · exact ih _ _ _ _ h
      · cases h; exact .inl rfl
      · cases h
theorem map_u {e : Env0} {fuel : Nat} {k : Code} {u : Below1} {fr : Fr} {S : St} {r : Below1 × Ex × Fr × St} (h : ((e.code fuel k fr S).map fun r => (u, r)) = some r) : r.1 = u ∨ r.1 = .recovered := by
  cases hx : e.code fuel k fr S with
  | none => rw [hx] at h; cases h
  | some q => rw [hx] at h; cases h; exact .inl rfl
theorem codeD_u {e : Env0} (fuel : Nat) : ∀ (k : Code) (u : Below1) (fr : Fr) (S : St) (r : Below1 × Ex × Fr × St), e.codeD fuel k u fr S = some r → r.1 = u ∨ r.1 = .recovered := by
  intro k
  induction k with
  | seq x y ihx ihy =>
    intro u fr S r h
    simp only [Env0.codeD] at h
    split at h
    · cases hx : e.codeD fuel x u fr S with
      | none => rw [hx] at h; cases h
      | some q =>
        have h1 := ihx u fr S q hx
        rw [hx] at h
        obtain ⟨u1, ex1, fr1, S1⟩ := q
        cases ex1 with
        | normal =>
          simp only at h h1
          rcases ihy _ _ _ _ h with h2 | h2
          · rw [h2]; exact h1
          · exact .inr h2
        | _ => simp only at h; cases h; exact h1
    · exact map_u h
  | region id ops draw =>
    intro u fr S r h
    cases draw with
    | true => simp only [Env0.codeD] at h; exact map_u h
    | false =>
      simp only [Env0.codeD] at h
      split at h
      · split at h
        · rename_i ho; cases h; exact opsD_u _ _ _ _ _ ho
        · rename_i ho; cases h; exact opsD_u _ _ _ _ _ ho
        · cases h
      · exact map_u h
  | _ => intro u fr S r h; simp only [Env0.codeD] at h; exact map_u h

/-- A DEFERRED CALL. -/
theorem deferred_sound {pre : TypeId → Bool} {call : CallFn} (hcall : CallSound c call) (htags : CallTags call) (hd : ∀ (S : St) (d : Nat → List Tmp), DrawSound c B w0 ⟨c, pre, S.H.length, S.T.length, call, d⟩) {n : Nat} {g : FuncId} {args : List SV} {u u' : Below1} {S S' : St} {G : Gh} {w : World} {vs : Array Value} {m : FrameMode}
    (h : c.deferred pre call n g args u S = some (u', S')) (inv : Inv c B w0 G S w) (ha : RArgs G S.T args vs) (hu : UR G u m) :
    CallsD c.P g vs m w fun en m' w' => (∃ v, en = .returned v) ∧ ∃ G', Inv c B w0 G' S' w' ∧ Grows G S.T G' S'.T ∧ UR G' u' m' := by
  unfold Ctx.deferred at h
  split at h <;> first | (cases h; done) | skip
  rename_i fn hfn
  split at h <;> first | (cases h; done) | skip
  rename_i code hbody
  obtain ⟨hres, h⟩ := Option.ite_none_right_eq_some.1 h
  refine callsD_of_wpS hfn hbody fun c0 cs hm => ?_
  have hc0 : ({ c0 with mode := m } : Frame) = c0 := by subst hm; rfl
  have hr0 : fn.results = #[] := Array.eq_empty_of_size_eq_zero hres
  have fin : ∀ q, Env0.codeD ⟨c, pre, S.H.length, S.T.length, call, c.drop g⟩ n code u (frame0 fn args) S = some q → (q.2.1 = .normal ∨ q.2.1 = .ret) → q.2.2.1.ds = [] → u' = q.1 → S' = ⟨q.2.2.2.H.take S.H.length, q.2.2.2.T.take S.T.length⟩ →
      code.wpS c.P (bodyPostS c.P fn c0 cs fun en m' w' => (∃ v, en = .returned v) ∧ ∃ G', Inv c B w0 G' S' w' ∧ Grows G S.T G' S'.T ∧ UR G' u' m') { tmps := vs ++ Array.replicate (fn.ntmps - vs.size) undef, defers := [] } (c0 :: cs) w := by
    intro q hq hex hds hu' hS'
    have hst := codeD_steps (e := ⟨c, pre, S.H.length, S.T.length, call, c.drop g⟩) htags n code u _ S q (Nat.le_refl _) hq
    rw [← hc0]
    refine codeD_sound (e := ⟨c, pre, S.H.length, S.T.length, call, c.drop g⟩) rfl hcall htags (hd S _) n code u (frame0 fn args) S q _ w G m _ hq inv (frame0_sound ha) (fit0 inv) hu fun G' ex a' w' m' h1 h2 h3 h4 h5 => ?_
    have hds' : a'.defers = [] := by
      have := h4.ds
      rw [hds] at this
      cases hd2 : a'.defers with
      | nil => rfl
      | cons x xs => rw [hd2] at this; exact this.elim
    have htl : TagsLow S.H.length S.T.length q.2.2.2 := hst.tags _ _ (Nat.le_refl _) (fit0 (d := c.drop g) (c' := c) (pre := pre) (call := call) inv).tags
    have i2 := h2.cut htl
    have g2 := h3.cut (n := S.H.length) (m := S.T.length) (by rw [inv.lenφ]; exact Nat.le_refl _) (Nat.le_refl _)
    have key : ∃ G', Inv c B w0 G' S' w' ∧ Grows G S.T G' S'.T ∧ UR G' u' m' := by
      subst hS'
      subst hu'
      refine ⟨_, i2, g2, ?_⟩
      rcases codeD_u n code u _ S q hq with h6 | h6
      · rw [h6] at h5 ⊢
        cases u with
        | returning => exact h5
        | panics x =>
          obtain ⟨v, rfl, hv⟩ := h5
          obtain ⟨v1, _, hv1⟩ := hu
          have := hv1.low
          rw [inv.lenφ] at this
          exact ⟨v, rfl, hv.cut this⟩
        | recovered => exact h5
      · rw [h6] at h5 ⊢
        exact h5
    have hrun : (results fn a'.tmps).run c.P w' = .ok (.tuple #[]) w' := by simp [results, hr0]
    rcases hex with he | he <;> rw [he] at h1 <;> cases ex <;> simp only [ExR] at h1
    · exact ⟨hds', m', rfl, _, hrun, ⟨_, rfl⟩, key⟩
    · exact ⟨hds', m', rfl, _, hrun, ⟨_, rfl⟩, key⟩
  split at h
  · rename_i hq; cases h; exact fin _ hq (.inl rfl) rfl rfl rfl
  · rename_i hq; cases h; exact fin _ hq (.inr rfl) rfl rfl rfl
  · cases h

theorem finish_sound {fn : Func} {n0 m0 : Nat} {G0 G : Gh} {T0 : List Nat} {S S2 : St} {w : World} {fr : Fr} {out : COut} {a : Act} (h : c.finish fn n0 m0 fr S = some (out, S2)) (inv : Inv c B w0 G S w) (g : Grows G0 T0 G S.T) (hn : G0.φ.length = n0) (hm : T0.length = m0)
    (ht : TagsLow n0 m0 S) (hfr : EnvR G S.T fr.env a) : ∃ v, (results fn a.tmps).run c.P w = .ok v w ∧ ∃ G', Inv c B w0 G' S2 w ∧ Grows G0 T0 G' S2.T ∧ OutR G' S2.T out (.returned v) := by
  unfold Ctx.finish at h
  split at h
  · rename_i vs hvs
    obtain ⟨us, h1, h2⟩ := results_sound inv hfr hvs
    have hl := leave_sound inv g hn hm ht h2
    rw [Option.some.inj h] at hl
    exact ⟨_, h1, hl⟩
  · cases h

theorem panicked_sound {n0 m0 : Nat} {G0 G : Gh} {T0 : List Nat} {S S2 : St} {w : World} {x : AV} {v : Value} {out : COut} (h : panicked n0 m0 x S = some (out, S2)) (inv : Inv c B w0 G S w) (g : Grows G0 T0 G S.T) (hn : G0.φ.length = n0) (hm : T0.length = m0)
    (ht : TagsLow n0 m0 S) (hv : R G x v) : ∃ G', Inv c B w0 G' S2 w ∧ Grows G0 T0 G' S2.T ∧ OutR G' S2.T out (.panicked [{ v := v, recovered := false }]) := by
  unfold panicked at h
  obtain ⟨hl, h⟩ := Option.ite_none_right_eq_some.1 h
  cases h
  exact ⟨_, inv.cut ht, g.cut (by omega) (by omega), v, rfl, hv.cut hl⟩

/-- THE END OF A BODY. -/
theorem ends_sound {pre : TypeId → Bool} {call : CallFn} (hcall : CallSound c call) (htags : CallTags call) (hd : ∀ (S : St) (d : Nat → List Tmp), DrawSound c B w0 ⟨c, pre, S.H.length, S.T.length, call, d⟩) (hname : ∀ (f : FuncId) (fn : Func), c.P.funcs[f]? = some fn → (fn.name == "runtime.NumGoroutine") = false)
    {n : Nat} {fn : Func} {S S2 : St} {G : Gh} {w : World} {out : COut} {q : Ex × Fr × St} (inv : Inv c B w0 G S w) (htl0 : TagsLow S.H.length S.T.length q.2.2) (hlen0 : S.H.length ≤ q.2.2.H.length)
    (h : c.ends pre call n fn S.H.length S.T.length (some q) = some (out, S2)) :
    Post c B w0 G S.T q (bodyPostD c.P fn fun en w' => ∃ G', Inv c B w0 G' S2 w' ∧ Grows G S.T G' S2.T ∧ OutR G' S2.T out en) := by
  intro G' ex a' w' hex i' g' f'
  obtain ⟨ex1, fr1, S1⟩ := q
  obtain ⟨env, ds⟩ := fr1
  have htl : TagsLow S.H.length S.T.length S1 := htl0
  have hlφ := inv.lenφ
  cases ds with
  | nil =>
    have hds' : a'.defers = [] := by
      have := f'.ds
      cases hd2 : a'.defers with
      | nil => rfl
      | cons x xs => rw [hd2] at this; exact this.elim
    have fin : c.finish fn S.H.length S.T.length ⟨env, []⟩ S1 = some (out, S2) → Leaves c.P fn a'.tmps (fun en w' => ∃ G', Inv c B w0 G' S2 w' ∧ Grows G S.T G' S2.T ∧ OutR G' S2.T out en) a'.defers .returning w' := by
      intro hf
      rw [hds']
      exact finish_sound hf i' g' hlφ rfl htl f'.env
    cases ex1 with
    | normal => simp only [Ctx.ends] at h; cases ex <;> simp only [ExR] at hex; exact fin h
    | ret => simp only [Ctx.ends] at h; cases ex <;> simp only [ExR] at hex; exact fin h
    | panic x =>
      simp only [Ctx.ends] at h
      cases ex <;> simp only [ExR] at hex
      obtain ⟨v, rfl, hv⟩ := hex
      show Leaves _ _ _ _ a'.defers _ _
      rw [hds']
      exact panicked_sound h i' g' hlφ rfl htl hv
    | exit => simp [Ctx.ends] at h
  | cons d ds =>
    cases ds with
    | cons d2 ds => simp [Ctx.ends] at h
    | nil =>
      obtain ⟨g1, dargs⟩ := d
      have hdR := f'.ds
      obtain ⟨dd, hdd, hd1⟩ : ∃ dd, a'.defers = [dd] ∧ DefR1 G' (g1, dargs) dd := by
        cases hd2 : a'.defers with
        | nil => rw [hd2] at hdR; exact hdR.elim
        | cons x xs =>
          rw [hd2] at hdR
          cases xs with
          | nil => exact ⟨x, rfl, hdR.1⟩
          | cons y ys => exact hdR.2.elim
      obtain ⟨cap, htar, hlen, hargs⟩ := hd1
      have hra : RArgs G' S1.T dargs (dd.args ++ cap) := ⟨hlen, fun i h1 h2 => by
        obtain ⟨k1, k2⟩ := hargs i h1 h2
        have : dargs[i] = (dargs[i].1, Tag.no) := by rw [← k2]
        rw [this]
        exact .no k1⟩
      -- the deferred call, in either mode
      have main : ∀ (u u' : Below1) (m : FrameMode) (S3 : St), m ≠ .run → UR G' u m → c.deferred pre call n g1 dargs u S1 = some (u', S3) →
          (∀ G2 w2, Inv c B w0 G2 S3 w2 → Grows G S.T G2 S3.T → TagsLow S.H.length S.T.length S3 → EnvR G2 S3.T env a' → ∀ m2, UR G2 u' m2 → Leaves c.P fn a'.tmps (fun en w' => ∃ G', Inv c B w0 G' S2 w' ∧ Grows G S.T G' S2.T ∧ OutR G' S2.T out en) [] (settle m2) w2) →
          Leaves c.P fn a'.tmps (fun en w' => ∃ G', Inv c B w0 G' S2 w' ∧ Grows G S.T G' S2.T ∧ OutR G' S2.T out en) a'.defers m w' := by
        intro u u' m S3 hm hu hdef hrest
        rw [hdd]
        have hfn : ∃ fd code, c.P.funcs[g1]? = some fd ∧ fd.body = some code := by
          unfold Ctx.deferred at hdef
          split at hdef <;> first | (cases hdef; done) | skip
          rename_i fd hfd
          split at hdef <;> first | (cases hdef; done) | skip
          rename_i code hb
          exact ⟨fd, code, hfd, hb⟩
        obtain ⟨fd, code, hfd, hb⟩ := hfn
        refine ⟨hm, .func g1, cap, g1, dd.args ++ cap, htar, ?_, ?_⟩
        · rw [htar]
          simp only [invoke]
          exact enter_run hfd (hname g1 fd hfd) hb _ _
        · have hsteps := deferred_steps htags hdef
          refine (deferred_sound hcall htags hd hdef i' hra hu).mono fun en m2 w2 ⟨⟨v, hv⟩, G2, i2, g2, u2⟩ => ?_
          subst hv
          exact hrest G2 w2 i2 (g'.trans g2) ((hsteps.mono hlen0).tags _ _ (Nat.le_refl _) htl) (f'.env.later g2.later) m2 u2
      have retCase : ∀ (hfin : (match c.deferred pre call n g1 dargs .returning S1 with
          | some (.returning, S'') => c.finish fn S.H.length S.T.length ⟨env, []⟩ S''
          | _ => none) = some (out, S2)), Leaves c.P fn a'.tmps (fun en w' => ∃ G', Inv c B w0 G' S2 w' ∧ Grows G S.T G' S2.T ∧ OutR G' S2.T out en) a'.defers .returning w' := by
        intro hfin
        split at hfin
        · rename_i S3 hdef
          refine main .returning .returning .returning S3 (by simp) rfl hdef fun G2 w2 i2 g2 t2 e2 m2 u2 => ?_
          have : m2 = .returning := u2
          subst this
          exact finish_sound hfin i2 g2 hlφ rfl t2 e2
        · cases hfin
      cases ex1 with
      | normal => simp only [Ctx.ends] at h; cases ex <;> simp only [ExR] at hex; exact retCase h
      | ret => simp only [Ctx.ends] at h; cases ex <;> simp only [ExR] at hex; exact retCase h
      | panic x =>
        simp only [Ctx.ends] at h
        cases ex <;> simp only [ExR] at hex
        obtain ⟨v, rfl, hv⟩ := hex
        show Leaves _ _ _ _ a'.defers _ _
        split at h
        · rename_i S3 hdef
          refine main (.panics x) .recovered _ S3 (by simp) ⟨v, rfl, hv⟩ hdef fun G2 w2 i2 g2 t2 e2 m2 u2 => ?_
          obtain ⟨v2, rfl⟩ := u2
          exact finish_sound h i2 g2 hlφ rfl t2 e2
        · rename_i x2 S3 hdef
          refine main (.panics x) (.panics x2) _ S3 (by simp) ⟨v, rfl, hv⟩ hdef fun G2 w2 i2 g2 t2 e2 m2 u2 => ?_
          obtain ⟨v2, rfl, hv2⟩ := u2
          exact panicked_sound h i2 g2 hlφ rfl t2 hv2
        · cases h
      | exit => simp [Ctx.ends] at h

/-- A CALL OF THE PURE RUN IS THE MACHINE'S. -/
theorem call_sound {pre : TypeId → Bool} {ext : FuncId → Option (List SV → St → Option (COut × St))} (hname : ∀ (f : FuncId) (fn : Func), c.P.funcs[f]? = some fn → (fn.name == "runtime.NumGoroutine") = false)
    (hd : ∀ (call : CallFn) (_ : CallSound c call) (_ : CallTags call) (B : Bd) (w0 : World) (S : St) (d : Nat → List Tmp), DrawSound c B w0 ⟨c, pre, S.H.length, S.T.length, call, d⟩)
    (hext : ∀ f g, ext f = some g → ∀ args S out S', g args S = some (out, S') → Steps1 S.H.length S S' ∧
      ∀ (B : Bd) (w0 : World) (G : Gh) (w : World) (vs : Array Value), Inv c B w0 G S w → RArgs G S.T args vs → CallTo c.P f vs w fun en w' => ∃ G', Inv c B w0 G' S' w' ∧ Grows G S.T G' S'.T ∧ OutR G' S'.T out en) :
    ∀ n, CallSound c (Ctx.call c pre ext n) := by
  intro n
  induction n with
  | zero => intro f args S out S' h; cases h
  | succ n ih =>
    intro f args S out S' h B w0 G w vs inv ha
    have htags := call_steps (c := c) (pre := pre) (ext := ext) (fun f g hg args S out S' h => (hext f g hg args S out S' h).1) n
    simp only [Ctx.call] at h
    split at h
    · rename_i g hg; exact (hext f g hg _ _ _ _ h).2 B w0 G w vs inv ha
    · split at h <;> first | (cases h; done) | skip
      rename_i fn hfn
      split at h <;> first | (cases h; done) | skip
      rename_i code hb
      refine .inl ⟨enter_run hfn (hname f fn hfn) hb _ _, calls_of_wp_defers hfn hb ?_⟩
      have hdS := fun S => hd _ ih htags B w0 S
      cases hq : Env0.code ⟨c, pre, S.H.length, S.T.length, Ctx.call c pre ext n, c.drop f⟩ n code (frame0 fn args) S with
      | none => rw [hq] at h; simp [Ctx.ends] at h
      | some q =>
        rw [hq] at h
        have hst := code_steps (e := ⟨c, pre, S.H.length, S.T.length, Ctx.call c pre ext n, c.drop f⟩) htags n code _ S q (Nat.le_refl _) hq
        exact code_sound (e := ⟨c, pre, S.H.length, S.T.length, Ctx.call c pre ext n, c.drop f⟩) rfl ih htags (hdS S _) n code (frame0 fn args) S q _ w G _ hq inv (frame0_sound ha) (fit0 inv) (ends_sound ih htags hdS hname inv (hst.tags _ _ (Nat.le_refl _) fun b cells _ hc x hx => inv.tag b cells hc x hx) hst.len h)
end
end Go.Ab
