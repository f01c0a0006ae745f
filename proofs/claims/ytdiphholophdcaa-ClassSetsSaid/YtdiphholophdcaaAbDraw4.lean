import Derived.Test.YtdiphholophdcaaAbDraw3
set_option linter.unusedVariables false
set_option linter.unusedSimpArgs false
/- A REGION WHOSE ORDER IS OPEN: the whole; CALLS, the whole. -/
namespace Go.Ab
open Go.RowKit

section
variable {c : Ctx} {B : Bd} {w0 : World}
variable {e : Env0} {ops : Array Oper} {b : List Nat} {Sp : St} {base : Nat} {env0 : Env} {N : Nat} {recs : List Rec} {st : List St} {env : Env} {al : Nat}
variable {ds : List (FuncId × List SV)} {Ge Gp : Gh} {Te Tp : List Nat}

theorem J.run (p : Plan c e ops b Sp base env0 N recs st env al) (hcall : CallSound c e.call) (hbase : Ge.φ.length ≤ base)
    (hcells : ∀ (i : Nat) (o : Oper) (t : TypeId), ops.toList[i]? = some o → allocs c.P o = true → o.op = .alloc t → ∃ cells z, Sp.H[base + nAl c.P (ops.toList.take i)]? = some cells ∧ (∀ w' : World, (zeroValue t).run c.P w' = .ok z w') ∧ RSs Gp Tp cells z.cells)
    {Q : Exit → Act → World → Prop}
    (hfin : ∀ listed a w G S, J c B w0 ops base env0 ds N recs st Ge Gp Te Tp listed a w G S → (∀ i, i < ops.size → done listed i = true) → Q .normal a w)
    (hpan : ∀ listed a w G S, J c B w0 ops base env0 ds N recs st Ge Gp Te Tp listed a w G S → N ∈ Region.ready .any ops listed → ∀ K, wpOp c.P ops Q N K a w) :
    ∀ (fuel : Nat) (listed : Array Bool) (a : Act) (w : World) (G : Gh) (S : St), J c B w0 ops base env0 ds N recs st Ge Gp Te Tp listed a w G S → ((List.range ops.size).countP fun j => !done listed j) ≤ fuel → wpAny c.P .any ops Q fuel listed a w := by
  have nil : ∀ (listed : Array Bool) (a : Act) (w : World) (G : Gh) (S : St), J c B w0 ops base env0 ds N recs st Ge Gp Te Tp listed a w G S → Region.ready .any ops listed = [] → Q .normal a w := by
    intro listed a w G S h hr
    refine hfin listed a w G S h fun i hi => ?_
    cases hd : done listed i with
    | true => rfl
    | false => exact absurd hr (ready_of p.ok h.size hi hd)
  intro fuel
  induction fuel with
  | zero =>
    intro listed a w G S h hc
    have hr : Region.ready .any ops listed = [] := by
      cases hr : Region.ready .any ops listed with
      | nil => rfl
      | cons i l =>
        have hi : i ∈ Region.ready .any ops listed := by rw [hr]; exact List.mem_cons_self ..
        have hnd := not_done hi
        obtain ⟨_, o, ho, _⟩ := mem_ready.1 hi
        have hlt : i < ops.size := (Array.getElem?_eq_some_iff.1 ho).1
        have h0 : ((List.range ops.size).countP fun j => !done listed j) = 0 := by omega
        rw [List.countP_eq_zero] at h0
        have := h0 i (List.mem_range.2 hlt)
        simp [hnd] at this
    exact ⟨hr, nil listed a w G S h hr⟩
  | succ fuel ih =>
    intro listed a w G S h hc
    refine ⟨nil listed a w G S h, fun i hi => ?_⟩
    obtain ⟨_, o, ho, _⟩ := mem_ready.1 hi
    have hlt : i < ops.size := (Array.getElem?_eq_some_iff.1 ho).1
    have hnd := not_done hi
    have hK : ∀ a' w' G' S', J c B w0 ops base env0 ds N recs st Ge Gp Te Tp (listed.setIfInBounds i true) a' w' G' S' → wpAny c.P .any ops Q fuel (listed.setIfInBounds i true) a' w' := by
      intro a' w' G' S' h'
      refine ih _ a' w' G' S' h' ?_
      have := countP_add_one (p := fun j => !done (listed.setIfInBounds i true) j) (q := fun j => !done listed j) hlt (by rw [done_set (by rw [h.size]; exact hlt)]; simp) (by simp [hnd]) (fun j hj => by rw [done_set (by rw [h.size]; exact hlt)]; simp [hj])
      omega
    rcases Nat.lt_trichotomy i N with hl | hl | hl
    · have hlr : i < recs.length := by rw [p.facts.len]; exact hl
      have hr : recs[i]? = some recs[i] := List.getElem?_eq_getElem hlr
      cases hm : moves c.P (recs[i]).o with
      | false => exact h.quiet p hbase hcells hi hr hm hK
      | true => exact h.mv p hcall hi hr hm hK
    · subst hl; exact hpan listed a w G S h hi _
    · exact h.move p hi ho hl hK

theorem restOk_at {b : List Nat} {p : Nat} : ∀ (l : List Oper) (i0 : Nat), restOk b p i0 l = true → ∀ (j : Nat) (o : Oper), l[j]? = some o → ahead b (i0 + j) p = true ∨ (∃ x, o.op = .move x) ∧ o.guard = none := by
  intro l
  induction l with
  | nil => intro i0 _ j o h; simp at h
  | cons x l ih =>
    intro i0 h j o ho
    simp only [restOk, Bool.and_eq_true, Bool.or_eq_true] at h
    cases j with
    | zero =>
      simp at ho
      subst ho
      refine h.1.imp id fun h1 => ?_
      obtain ⟨h2, h3⟩ := h1
      refine ⟨?_, by simpa using h3⟩
      split at h2
      · rename_i x hop; exact ⟨x, hop⟩
      · cases h2
    | succ j =>
      have := ih (i0 + 1) h.2 j o (by simpa using ho)
      rw [show i0 + 1 + j = i0 + (j + 1) by omega] at this
      exact this

theorem forget_getD (l : List Oper) (env : Env) (t : Tmp) : (l.foldl (fun env o => match o.dst with | some d => env.set d (.undef, .no) | none => env) env).length = env.length ∧
    ((l.foldl (fun env o => match o.dst with | some d => env.set d (.undef, .no) | none => env) env).getD t (.undef, .no) = (.undef, .no) ∨
      (∀ o ∈ l, o.dst ≠ some t) ∧ (l.foldl (fun env o => match o.dst with | some d => env.set d (.undef, .no) | none => env) env).getD t (.undef, .no) = env.getD t (.undef, .no)) := by
  induction l generalizing env with
  | nil => exact ⟨rfl, .inr ⟨fun _ h => (by cases h), rfl⟩⟩
  | cons o l ih =>
    simp only [List.foldl_cons]
    cases hd : o.dst with
    | none =>
      obtain ⟨h1, h2⟩ := ih env
      refine ⟨h1, h2.imp id fun h3 => ⟨fun x hx => ?_, h3.2⟩⟩
      rcases List.mem_cons.1 hx with rfl | hx
      · rw [hd]; simp
      · exact h3.1 x hx
    | some d =>
      obtain ⟨h1, h2⟩ := ih (env.set d (.undef, .no))
      refine ⟨by rw [h1]; simp, ?_⟩
      rcases h2 with h2 | ⟨h2, h3⟩
      · exact .inl h2
      · rw [getD_set] at h3
        by_cases e : d = t
        · refine .inl ?_
          rw [h3]
          split
          · rfl
          · rename_i hn
            rw [List.getD_eq_getElem?_getD, List.getElem?_eq_none]
            · rfl
            · exact Nat.le_of_not_lt fun h => hn ⟨e, h⟩
        · refine .inr ⟨fun x hx => ?_, by rw [h3, if_neg (fun h => e h.1)]⟩
          rcases List.mem_cons.1 hx with rfl | hx
          · rw [hd]; intro h; cases h; exact e rfl
          · exact h2 x hx

theorem draws_sound (he : e.c = c) (hm : c.P.follows .mixedOrders = true) (hcall : CallSound c e.call) : DrawSound c B w0 e := by
  intro id ops fr S r a w G Q h inv hfr hq
  refine wp_region_any hm ?_
  have inv1 := inv.drew (w.drawn + 1)
  unfold Env0.draws Env0.drawsAt at h
  obtain ⟨hok, h⟩ := Option.ite_none_right_eq_some.1 h
  obtain ⟨Gp, ip, gp, hφ, hold, hcells⟩ := prealloc_sound he ops.toList G S inv1
  have ok : ∀ (i : Nat) (o : Oper), ops[i]? = some o → OkAt c.P ops (CheckFast.beforeL ops.toList 0 []) i o := fun i o ho => by
    subst he; exact drawOkAt_spec (drawOk_at hok ho)
  -- how it begins
  have start : ∀ {N : Nat} {recs : List Rec} {st : List St} {env : Env} {al : Nat}, Plan c e ops (CheckFast.beforeL ops.toList 0 []) (e.prealloc ops.toList S) S.H.length fr.env N recs st env al →
      J c B w0 ops S.H.length fr.env fr.ds N recs st G Gp S.T (e.prealloc ops.toList S).T (Array.replicate ops.size false) a { w with drawn := w.drawn + 1 } Gp (e.prealloc ops.toList S) := by
    intro N recs st env al p
    have hd : ∀ i, done (Array.replicate ops.size false) i = false := by
      intro i
      unfold done
      rcases Nat.lt_or_ge i ops.size with hl | hl <;> simp [hl, Array.getElem?_replicate]
    refine ⟨by simp, fun i o hi hdn => ?_, fun i hi hdn => ?_, ?_, ip, .refl _ _, gp, ⟨hfr.env.len.symm, fun i o t ht ho htd hdn => ?_, fun t ht hms => ?_⟩, fun i o ho ha hdn => ?_, hfr.ds.mono gp.mono⟩
    · have hdn' : done (Array.replicate ops.size false) i = true := hdn
      rw [hd] at hdn'; cases hdn'
    · rw [hd] at hdn; cases hdn
    · have : cnt c.P ops (Array.replicate ops.size false) = 0 := by
        unfold cnt
        rw [List.countP_eq_zero]
        intro j _
        simp [hd]
      rw [this]; exact p.facts.zero
    · rw [hd] at hdn; cases hdn
    · have hlt : t < fr.env.length := by rw [hfr.env.len]; exact ht
      have := (hfr.env.at_ t hlt ht).later gp.later
      rw [List.getD_eq_getElem?_getD, List.getElem?_eq_getElem hlt]
      exact this
    · have hlt : i < ops.size := (Array.getElem?_eq_some_iff.1 ho).1
      have h1 := allocs_pos (ops := ops) c.P ho ha hlt
      rw [List.take_of_length_le (i := ops.size) (by simp)] at h1
      rw [hφ, List.getElem?_append_right (by rw [inv.lenφ]; omega), inv.lenφ, List.getElem?_replicate, if_pos (by omega)]
  have cell' : ∀ (i : Nat) (o : Oper) (t : TypeId), ops.toList[i]? = some o → allocs c.P o = true → o.op = .alloc t → ∃ cells z, (e.prealloc ops.toList S).H[S.H.length + nAl c.P (ops.toList.take i)]? = some cells ∧ (∀ w' : World, (zeroValue t).run c.P w' = .ok z w') ∧ RSs Gp (e.prealloc ops.toList S).T cells z.cells := hcells
  have hcount : ((List.range ops.size).countP fun j => !done (Array.replicate ops.size false) j) ≤ ops.size := by
    have := List.countP_le_length (p := fun j => !done (Array.replicate ops.size false) j) (l := List.range ops.size)
    simpa using this
  cases hl : e.lexD ops (e.prealloc ops.toList S) S.H.length ops.toList 0 fr.env [e.prealloc ops.toList S] [] with
  | none => rw [hl] at h; cases h
  | some dr =>
    have ht := lexD_trace ops.toList 0 0 fr.env [e.prealloc ops.toList S] [] dr (fun j => by simp) .nil hl
    rw [hl] at h
    cases dr with
    | ok env Ss recs =>
      simp only at h ht
      obtain ⟨hsame, h⟩ := Option.ite_none_right_eq_some.1 h
      cases h
      obtain ⟨al', htr⟩ := ht
      obtain ⟨f, hne⟩ := htr.facts
      have hN : 0 + ops.toList.length = ops.size := by simp
      rw [hN] at f
      have p : Plan c e ops (CheckFast.beforeL ops.toList 0 []) (e.prealloc ops.toList S) S.H.length fr.env ops.size recs.reverse Ss.reverse env al' := by
        refine ⟨he, rfl, ok, f, fun i rr hr => ?_, fun i o ho hi => ?_⟩
        · have := sameAll_at _ _ hsame i rr hr
          rw [Nat.zero_add, he] at this
          exact this
        · have := (Array.getElem?_eq_some_iff.1 ho).1; omega
      refine J.run p hcall (by rw [inv.lenφ]; exact Nat.le_refl _) cell' (fun listed a' w' G' S' hj hall => ?_) (fun listed a' w' G' S' hj hi => ?_) ops.size _ _ _ _ _ (start p) hcount
      · have hcnt : cnt c.P ops listed = mvc c.P ops ops.size := by
          unfold cnt mvc
          refine List.countP_congr fun j hjm => ?_
          rw [hall j (List.mem_range.1 hjm)]; simp
        have hS : Ss.headD S = S' := by
          have h1 := hj.at_
          have h2 := f.mvl
          rw [he] at h2
          cases Ss with
          | nil => exact absurd rfl hne
          | cons X Ss =>
            rw [hcnt, List.getElem?_reverse (by simp at h2 ⊢; omega)] at h1
            have : (X :: Ss).length - 1 - mvc c.P ops ops.size = 0 := by simp at h2 ⊢; omega
            rw [this] at h1
            simpa using h1
        rw [hS] at hq
        refine hq G' .normal a' w' trivial hj.inv hj.grows ⟨⟨by rw [f.env.len, hj.env.len], fun t h1 h2 => ?_⟩, hj.ds⟩
        have hlt : t < fr.env.length := by rw [← hj.env.len]; exact h2
        have e1 : env[t] = env.getD t (.undef, .no) := by rw [List.getD_eq_getElem?_getD, List.getElem?_eq_getElem h1]; rfl
        rw [e1]
        by_cases hx : ∃ (j : Nat) (rr : Rec), recs.reverse[j]? = some rr ∧ rr.o.dst = some t
        · obtain ⟨j, rr, hr, hd⟩ := hx
          have ho := (f.step j rr hr).op
          rw [f.env.hit j rr t hr hd (fun j' r' hr' hd' => p.uniq (f.step j' r' hr').op ho hd' hd) hlt]
          have := hj.env.hit j rr.o t h2 ho hd (hall j (Array.getElem?_eq_some_iff.1 ho).1)
          simpa [valAt, hr] using this
        · rw [f.env.miss t fun j rr hr hd => hx ⟨j, rr, hr, hd⟩]
          refine hj.env.miss t h2 fun j oj hoj hd => ?_
          exfalso
          have hjl : j < recs.reverse.length := by rw [f.len]; exact (Array.getElem?_eq_some_iff.1 hoj).1
          have h3 : recs.reverse[j]? = some recs.reverse[j] := List.getElem?_eq_getElem hjl
          have h4 := (f.step j _ h3).op
          rw [hoj] at h4
          refine hx ⟨j, recs.reverse[j], h3, ?_⟩
          rw [← Option.some.inj h4]; exact hd
      · exfalso
        obtain ⟨_, o, ho, _⟩ := mem_ready.1 hi
        have := (Array.getElem?_eq_some_iff.1 ho).1; omega
    | panic v S' Ss recs rest =>
      simp only at h ht
      obtain ⟨hsame, h⟩ := Option.ite_none_right_eq_some.1 h
      cases h
      rw [Bool.and_eq_true] at hsame
      obtain ⟨hsame, hrest⟩ := hsame
      obtain ⟨pp, env', al', recs1, o, S1, htr, rfl, ho, hrest', hmv, hw, hhead, hact⟩ := ht
      obtain ⟨f, hne⟩ := htr.facts
      have hlen1 : recs1.length = pp := by have := f.len; simpa using this
      have p : Plan c e ops (CheckFast.beforeL ops.toList 0 []) (e.prealloc ops.toList S) S.H.length fr.env pp recs1.reverse Ss.reverse env' al' := by
        refine ⟨he, rfl, ok, f, fun i rr hr => ?_, fun i oi hoi hi => ?_⟩
        · have hr' : (⟨o, env', (.undef, .no), al'⟩ :: recs1 : List Rec).reverse[i]? = some rr := by
            rw [List.reverse_cons, List.getElem?_append_left (lt_of_some hr)]; exact hr
          have := sameAll_at _ _ hsame i rr hr'
          rw [Nat.zero_add, he] at this
          exact this
        · simp only [List.length_cons, Nat.add_sub_cancel, hlen1] at hrest
          have h1 := hrest' (i - (pp + 1))
          rw [show pp + 1 + (i - (pp + 1)) = i by omega, hoi] at h1
          have := restOk_at rest (pp + 1) hrest _ oi h1
          rw [show pp + 1 + (i - (pp + 1)) = i by omega] at this
          exact this
      refine J.run p hcall (by rw [inv.lenφ]; exact Nat.le_refl _) cell' (fun listed a' w' G' S'' hj hall => ?_) (fun listed a' w' G' S'' hj hi K => ?_) ops.size _ _ _ _ _ (start p) hcount
      · exfalso
        have := hj.late pp (Nat.le_refl _) (hall pp (Array.getElem?_eq_some_iff.1 ho).1)
        omega
      · subst he
        have hsee := hj.sees p hi ho (env1 := env') (by rw [List.take_of_length_le (by simp [hlen1])]; exact f.env) (Nat.le_refl _)
        have hlen : env'.length = a'.tmps.size := by rw [f.env.len, hj.env.len]
        have hcnt := hj.cnt_mv p hi ho hmv
        have hS : S1 = S'' := by
          have h1 := hj.at_
          have h2 := f.mvl
          cases Ss with
          | nil => exact absurd rfl hne
          | cons X Ss =>
            rw [hcnt, List.getElem?_reverse (by simp at h2 ⊢; omega)] at h1
            have : (X :: Ss).length - 1 - mvc e.c.P ops pp = 0 := by simp at h2 ⊢; omega
            rw [this] at h1
            simp at h1 hhead
            rw [← hhead, h1]
        subst hS
        have hρ : ∀ x, RS G' S1.T (e.c.evalR env' (readsTmp ops o) x) (a'.eval x) := fun x => by
          rw [evalR_seen hlen]; exact eval_sound hj.inv hsee x
        rw [wanted_seen hlen] at hw
        refine wpOp_wp ho (wanted_sound hsee hw) (act_sound rfl hcall hj.inv hρ hact (fun x S2 hx => by cases hx) (fun x S2 hx G2 w2 v2 i2 g2 hv2 => ?_))
        cases hx
        refine hq G2 _ a' w2 ⟨v2, rfl, hv2⟩ i2 (hj.grows.trans g2) ⟨⟨?_, fun t h1 h2 => ?_⟩, hj.ds.mono g2.mono⟩
        · rw [hj.env.len]; exact (forget_getD ops.toList fr.env 0).1
        · have hfg := forget_getD ops.toList fr.env t
          have e1 : (forget ops.toList fr).env[t] = (forget ops.toList fr).env.getD t (.undef, .no) := by rw [List.getD_eq_getElem?_getD, List.getElem?_eq_getElem h1]; rfl
          rw [e1]
          rcases hfg.2 with h3 | ⟨h3, h4⟩
          · have : (forget ops.toList fr).env.getD t (.undef, .no) = (.undef, .no) := h3
            rw [this]; exact .no (.undef _)
          · have : (forget ops.toList fr).env.getD t (.undef, .no) = fr.env.getD t (.undef, .no) := h4
            rw [this]
            exact (hj.env.miss t h2 fun j oj hoj hd => absurd hd (h3 oj (by
              have : ops.toList[j]? = some oj := by simpa using hoj
              exact List.mem_of_getElem? this))).later g2.later
end

/-- A CALL OF THE PURE RUN IS THE MACHINE'S: where orders are the model's any. -/
theorem run_sound {c : Ctx} {pre : TypeId → Bool} {ext : FuncId → Option (List SV → St → Option (COut × St))} (hm : c.P.follows .mixedOrders = true) (hname : ∀ (f : FuncId) (fn : Func), c.P.funcs[f]? = some fn → (fn.name == "runtime.NumGoroutine") = false)
    (hext : ∀ f g, ext f = some g → ∀ args S out S', g args S = some (out, S') → Steps1 S.H.length S S' ∧
      ∀ (B : Bd) (w0 : World) (G : Gh) (w : World) (vs : Array Value), Inv c B w0 G S w → RArgs G S.T args vs → CallTo c.P f vs w fun en w' => ∃ G', Inv c B w0 G' S' w' ∧ Grows G S.T G' S'.T ∧ OutR G' S'.T out en) :
    ∀ n, CallSound c (Ctx.call c pre ext n) :=
  call_sound hname (fun _ hs _ _ _ _ _ => draws_sound rfl hm hs) hext
end Go.Ab
