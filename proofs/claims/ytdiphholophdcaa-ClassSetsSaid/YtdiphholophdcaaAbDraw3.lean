import Derived.Test.YtdiphholophdcaaAbDraw2
set_option linter.unusedVariables false
set_option linter.unusedSimpArgs false
/- A REGION WHOSE ORDER IS OPEN: the steps, the whole. -/
namespace Go.Ab
open Go.RowKit

theorem quietAt_cases {e : Env0} {ops : Array Oper} {S0 S : St} {base al : Nat} {o : Oper} {env : Env} {v : SV} (h : e.quietAt ops S0 base al o env S = some v) :
    (wantedA ops env o = some false ∧ v = (.tup [], .no)) ∨ (wantedA ops env o = some true ∧
      ((∃ t, o.op = .alloc t ∧ allocs e.c.P o = true ∧ Env0.fresh (base + al) S0 S = true ∧ v = (.ptr (base + al) 0, .no)) ∨
        ((∀ t, o.op ≠ .alloc t) ∧ (e.c.pure o.op (e.c.evalR env (readsTmp ops o)) = some v ∨ (e.c.pure o.op (e.c.evalR env (readsTmp ops o)) = none ∧ e.c.read o.op (e.c.evalR env (readsTmp ops o)) S = some v))))) := by
  unfold Env0.quietAt at h
  split at h
  · cases h
  · rename_i hw; cases h; exact .inl ⟨hw, rfl⟩
  · rename_i hw
    refine .inr ⟨hw, ?_⟩
    split at h
    · rename_i t hop
      obtain ⟨h1, h2⟩ := Option.ite_none_right_eq_some.1 h
      cases h2
      simp only [Bool.and_eq_true] at h1
      exact .inl ⟨t, hop, h1.1, h1.2, rfl⟩
    · rename_i hop
      refine .inr ⟨fun t => by exact hop t, ?_⟩
      split at h
      · rename_i hp; cases h; exact .inl hp
      · rename_i hp; exact .inr ⟨hp, h⟩
theorem quietAt_pure {e : Env0} {ops : Array Oper} {S0 S S1 : St} {base al : Nat} {o : Oper} {env : Env} {v : SV} (hp : (e.c.pure o.op (e.c.evalR env (readsTmp ops o))).isSome = true) (h : e.quietAt ops S0 base al o env S1 = some v) :
    e.quietAt ops S0 base al o env S = some v := by
  unfold Env0.quietAt at h ⊢
  split at h
  · cases h
  · exact h
  · split at h
    · rename_i t hop
      rw [hop] at hp
      simp [Ctx.pure] at hp
    · split at h
      · exact h
      · rename_i hn; rw [hn] at hp; cases hp

section
variable {c : Ctx} {B : Bd} {w0 : World}
variable {e : Env0} {ops : Array Oper} {b : List Nat} {Sp : St} {base : Nat} {env0 : Env} {N : Nat} {recs : List Rec} {st : List St} {env : Env} {al : Nat}
variable {ds : List (FuncId × List SV)} {Ge Gp : Gh} {Te Tp : List Nat} {listed : Array Bool} {a : Act} {w : World} {G : Gh} {S : St}

theorem J.next (p : Plan c e ops b Sp base env0 N recs st env al) (h : J c B w0 ops base env0 ds N recs st Ge Gp Te Tp listed a w G S) {i : Nat} (hi : i ∈ Region.ready .any ops listed) {o : Oper} (ho : ops[i]? = some o) {G' : Gh} {S' : St} {w' : World} {v : Value}
    (hlate : N ≤ i → N < i) (hat : st[cnt c.P ops listed + if moves c.P o then 1 else 0]? = some S') (inv' : Inv c B w0 G' S' w') (hl : Later G S.T G' S'.T) (hg : Grows Ge Te G' S'.T)
    (hp : ∀ (j : Nat) (o' : Oper), ops[j]? = some o' → allocs c.P o' = true → done listed j = false → j ≠ i → G'.φ[base + nAl c.P (ops.toList.take j)]? = some none) (hv : RS G' S'.T (valAt recs i) v) :
    J c B w0 ops base env0 ds N recs st Ge Gp Te Tp (listed.setIfInBounds i true) (a.put o.dst v) w' G' S' := by
  have hlt : i < listed.size := by rw [h.size]; exact (Array.getElem?_eq_some_iff.1 ho).1
  refine ⟨by simp [h.size], fun j oj hj hd e' he hb => ?_, fun j hj hd => ?_, ?_, inv', h.later.trans hl, hg, ?_, fun j oj hj haj hd => ?_, ?_⟩
  · have hd : done (listed.setIfInBounds i true) j = true := hd
    show done (listed.setIfInBounds i true) e'.on = true
    rw [done_set hlt] at hd ⊢
    simp only [Bool.or_eq_true, decide_eq_true_eq] at hd ⊢
    rcases hd with rfl | hd
    · obtain ⟨_, o', ho', hall⟩ := mem_ready.1 hi
      rw [hj] at ho'
      cases ho'
      exact .inr (hall e' he hb)
    · exact .inr (h.closed j oj hj hd e' he hb)
  · rw [done_set hlt] at hd
    simp only [Bool.or_eq_true, decide_eq_true_eq] at hd
    rcases hd with rfl | hd
    · exact hlate hj
    · exact h.late j hj hd
  · rw [cnt_set h.size ho (not_done hi)]; exact hat
  · exact (h.env.later hl).put p h.size ho hv
  · rw [done_set hlt] at hd
    simp only [Bool.or_eq_false_iff, decide_eq_false_iff_not] at hd
    exact hp j oj hj haj hd.2 hd.1
  · have := h.ds.mono hl.mono
    cases hdst : o.dst <;> simpa [Act.put, hdst] using this

theorem J.pend_grow (h : J c B w0 ops base env0 ds N recs st Ge Gp Te Tp listed a w G S) {G' : Gh} {T' : List Nat} (g : Grows G S.T G' T') (j : Nat) (o' : Oper) (hj : ops[j]? = some o') (ha : allocs c.P o' = true) (hd : done listed j = false) :
    G'.φ[base + nAl c.P (ops.toList.take j)]? = some none := by
  have := h.pend j o' hj ha hd
  rw [g.φ _ (lt_of_some this)]; exact this

/-- a step that leaves the plan's states -/
theorem wpOp_wp {P : Program} {Q : Exit → Act → World → Prop} {i : Nat} {o : Oper} {K : Act → World → Prop} (ho : ops[i]? = some o) (hw : Region.wanted o (yielded ops a.tmps) = true) (h : o.wp P a w K Q) : wpOp P ops Q i K a w := by
  unfold wpOp
  simp only [ho, hw, if_true]
  exact .inl h
theorem wpOp_off {P : Program} {Q : Exit → Act → World → Prop} {i : Nat} {o : Oper} {K : Act → World → Prop} (ho : ops[i]? = some o) (hw : Region.wanted o (yielded ops a.tmps) = false) (h : K (a.put o.dst undef) w) : wpOp P ops Q i K a w := by
  unfold wpOp
  simp only [ho, hw]
  exact h

theorem allocs_pos {i j : Nat} {o : Oper} (P : Program) (hi : ops[i]? = some o) (ha : allocs P o = true) (hij : i < j) : nAl P (ops.toList.take i) < nAl P (ops.toList.take j) := by
  have h1 := nAl_succ (P := P) hi
  rw [if_pos ha] at h1
  have : nAl P (ops.toList.take (i + 1)) ≤ nAl P (ops.toList.take j) := by
    unfold nAl
    have e : ops.toList.take (i + 1) = (ops.toList.take j).take (i + 1) := by rw [List.take_take]; congr 1; omega
    rw [e]
    exact List.Sublist.countP_le (List.take_sublist _ _)
  omega

/-- an operation that leaves the state -/
theorem J.quiet (p : Plan c e ops b Sp base env0 N recs st env al) (h : J c B w0 ops base env0 ds N recs st Ge Gp Te Tp listed a w G S) (hbase : Ge.φ.length ≤ base)
    (hcells : ∀ (i : Nat) (o : Oper) (t : TypeId), ops.toList[i]? = some o → allocs c.P o = true → o.op = .alloc t → ∃ cells z, Sp.H[base + nAl c.P (ops.toList.take i)]? = some cells ∧ (∀ w' : World, (zeroValue t).run c.P w' = .ok z w') ∧ RSs Gp Tp cells z.cells)
    {i : Nat} (hi : i ∈ Region.ready .any ops listed) {r : Rec} (hr : recs[i]? = some r) (hm : moves c.P r.o = false) {K : Act → World → Prop} {Q : Exit → Act → World → Prop}
    (hK : ∀ a' w' G' S', J c B w0 ops base env0 ds N recs st Ge Gp Te Tp (listed.setIfInBounds i true) a' w' G' S' → K a' w') : wpOp c.P ops Q i K a w := by
  have hce := p.ce
  subst hce
  have sa := p.facts.step i r hr
  have ho := sa.op
  have hiN : i < N := by rw [← p.facts.len]; exact lt_of_some hr
  have hval : valAt recs i = r.v := by simp [valAt, hr]
  have hsee := h.sees p hi ho sa.env (by omega)
  have hlen : r.env.length = a.tmps.size := by rw [sa.env.len, h.env.len]
  obtain ⟨hlo, hhi⟩ := h.cnt_low p hi ho hm
  have hq : e.quietAt ops Sp base r.al r.o r.env S = some r.v := by
    rcases p.same i r hr with h1 | h1 | h1
    · rw [hm] at h1; cases h1
    · obtain ⟨S1, _, h2⟩ := sa.quiet hm
      exact quietAt_pure h1 h2
    · exact h1 _ S hhi hlo h.at_
  have hat : st[cnt e.c.P ops listed + if moves e.c.P r.o then 1 else 0]? = some S := by simpa [hm] using h.at_
  have hρ : ∀ x, RS G S.T (e.c.evalR r.env (readsTmp ops r.o) x) (a.eval x) := fun x => by
    rw [evalR_seen hlen]; exact eval_sound h.inv hsee x
  rcases quietAt_cases hq with ⟨hw, hv⟩ | ⟨hw, hv⟩
  · rw [wanted_seen hlen] at hw
    refine wpOp_off ho (wanted_sound hsee hw) (hK _ _ _ _ (h.next p hi ho (by omega) hat h.inv (.refl _ _) h.grows (fun j o' hj ha hd _ => h.pend j o' hj ha hd) ?_))
    rw [hval, hv]; exact tup_undef
  · rw [wanted_seen hlen] at hw
    have hwt := wanted_sound hsee hw
    refine wpOp_wp ho hwt ?_
    have fin : ∀ {x : SV}, x = r.v → Does e.c B w0 G S w a.eval r.o x S → r.o.wp e.c.P a w K Q := by
      intro x hx hd
      subst hx
      refine upon_of_does hd fun G' v w' i' g' hv' => hK _ _ _ _ (h.next p hi ho (by omega) hat i' g'.later (h.grows.trans g') (fun j o' hj ha hd _ => h.pend_grow g' j o' hj ha hd) ?_)
      rw [hval]; exact hv'
    rcases hv with ⟨t, hop, hal, hfr, hv⟩ | ⟨_, hv | ⟨_, hv⟩⟩
    · -- a new variable
      obtain ⟨cells, z, hc1, hz, hrs⟩ := hcells i r.o t (by simpa using ho) hal hop
      rw [← sa.al] at hc1
      have hnd := not_done hi
      have hφ := h.pend i r.o ho hal hnd
      rw [← sa.al] at hφ
      have hcS : S.H[base + r.al]? = some cells := by
        unfold Env0.fresh at hfr
        rw [hc1] at hfr
        cases hs : S.H[base + r.al]? with
        | none => rw [hs] at hfr; cases hfr
        | some y => rw [hs] at hfr; rw [SV.beqs_eq hfr]
      have hrs' := hrs.later h.later
      obtain ⟨i', m'⟩ := h.inv.activate hcS hφ z.cells t (by rw [hrs'.1]; exact Nat.le_refl _) hrs'.2
      have hl' : Later G S.T { G with φ := G.φ.set (base + r.al) (some w.heap.size) } S.T := ⟨m', fun _ n hn => ⟨n, hn, Nat.le_refl n, fun _ => rfl⟩⟩
      have hg' : Grows Ge Te { G with φ := G.φ.set (base + r.al) (some w.heap.size) } S.T := by
        refine ⟨h.grows.mono.trans m', fun q hq => ?_, h.grows.T⟩
        show (G.φ.set _ _)[q]? = _
        rw [List.getElem?_set_ne (by omega)]
        exact h.grows.φ q hq
      have run : (execOp a.eval r.o).run e.c.P w = .ok (.value (.pointer (some ⟨w.heap.size, 0, none⟩))) (w.alloc (.cells z.cells t)) := by
        simp [execOp, hop, Instr.alloc, hz w, newVar, newRow]
      unfold Oper.wp
      rw [run]
      refine hK _ _ _ _ (h.next p hi ho (by omega) hat i' hl' hg' (fun j o' hj ha hd hne => ?_) ?_)
      · have h1 := h.pend j o' hj ha hd
        show (G.φ.set _ _)[_]? = _
        rw [List.getElem?_set_ne]
        · exact h1
        · rw [sa.al]
          intro heq
          rcases Nat.lt_trichotomy i j with hl | hl | hl
          · have := allocs_pos e.c.P ho hal hl; omega
          · exact hne hl.symm
          · have := allocs_pos e.c.P hj ha hl; omega
      · rw [hval, hv]
        refine RS.no (.ptr _ _ _ ?_)
        show (G.φ.set _ _)[_]? = _
        have := lt_of_some hφ
        simp [this]
    · exact fin rfl (pure_sound h.inv hρ hv)
    · exact fin rfl ((read_sound h.inv hρ hv).does h.inv)

/-- an operation that moves the state -/
theorem J.mv (p : Plan c e ops b Sp base env0 N recs st env al) (hcall : CallSound c e.call) (h : J c B w0 ops base env0 ds N recs st Ge Gp Te Tp listed a w G S)
    {i : Nat} (hi : i ∈ Region.ready .any ops listed) {r : Rec} (hr : recs[i]? = some r) (hm : moves c.P r.o = true) {K : Act → World → Prop} {Q : Exit → Act → World → Prop}
    (hK : ∀ a' w' G' S', J c B w0 ops base env0 ds N recs st Ge Gp Te Tp (listed.setIfInBounds i true) a' w' G' S' → K a' w') : wpOp c.P ops Q i K a w := by
  have hce := p.ce
  subst hce
  have sa := p.facts.step i r hr
  have ho := sa.op
  have hiN : i < N := by rw [← p.facts.len]; exact lt_of_some hr
  have hval : valAt recs i = r.v := by simp [valAt, hr]
  have hsee := h.sees p hi ho sa.env (by omega)
  have hlen : r.env.length = a.tmps.size := by rw [sa.env.len, h.env.len]
  have hcnt := h.cnt_mv p hi ho hm
  obtain ⟨S1, S2, h1, h2, h3⟩ := sa.mv hm
  have hS : S1 = S := by
    have := h.at_
    rw [hcnt, h1] at this
    exact Option.some.inj this
  subst hS
  have hat : st[cnt e.c.P ops listed + if moves e.c.P r.o then 1 else 0]? = some S2 := by simpa [hm, hcnt] using h2
  have hρ : ∀ x, RS G S1.T (e.c.evalR r.env (readsTmp ops r.o) x) (a.eval x) := fun x => by
    rw [evalR_seen hlen]; exact eval_sound h.inv hsee x
  rcases h3 with ⟨hw, rfl, hv⟩ | ⟨hw, hact⟩
  · rw [wanted_seen hlen] at hw
    refine wpOp_off ho (wanted_sound hsee hw) (hK _ _ _ _ (h.next p hi ho (by omega) hat h.inv (.refl _ _) h.grows (fun j o' hj ha hd _ => h.pend j o' hj ha hd) ?_))
    rw [hval, hv]; exact tup_undef
  · rw [wanted_seen hlen] at hw
    refine wpOp_wp ho (wanted_sound hsee hw) (act_sound rfl hcall h.inv hρ hact (fun x S' hx G' v w' i' g' hv' => ?_) (fun x S' hx => by cases hx))
    cases hx
    refine hK _ _ _ _ (h.next p hi ho (by omega) hat i' g'.later (h.grows.trans g') (fun j o' hj ha hd _ => h.pend_grow g' j o' hj ha hd) ?_)
    rw [hval]; exact hv'

/-- a mere move behind the panic -/
theorem J.move (p : Plan c e ops b Sp base env0 N recs st env al) (h : J c B w0 ops base env0 ds N recs st Ge Gp Te Tp listed a w G S)
    {i : Nat} (hi : i ∈ Region.ready .any ops listed) {o : Oper} (ho : ops[i]? = some o) (hN : N < i) {K : Act → World → Prop} {Q : Exit → Act → World → Prop}
    (hK : ∀ a' w' G' S', J c B w0 ops base env0 ds N recs st Ge Gp Te Tp (listed.setIfInBounds i true) a' w' G' S' → K a' w') : wpOp c.P ops Q i K a w := by
  rcases p.late i o ho hN with hah | ⟨⟨x, hop⟩, hg⟩
  · exfalso
    rcases h.front p hi hah with h1 | h1
    · have := h.late N (Nat.le_refl _) h1; omega
    · omega
  · have hm : moves c.P o = false := by simp [moves, hop, isAct]
    have hat : st[cnt c.P ops listed + if moves c.P o then 1 else 0]? = some S := by simpa [hm] using h.at_
    have hwt : Region.wanted o (yielded ops a.tmps) = true := by simp [Region.wanted, hg]
    refine wpOp_wp ho hwt ?_
    have run : (execOp a.eval o).run c.P w = .ok (.value (a.eval x)) w := by simp [execOp, hop]
    unfold Oper.wp
    rw [run]
    refine hK _ _ _ _ (h.next p hi ho (by omega) hat h.inv (.refl _ _) h.grows (fun j o' hj ha hd _ => h.pend j o' hj ha hd) ?_)
    have : valAt recs i = (.undef, .no) := by
      unfold valAt
      rw [List.getElem?_eq_none (by rw [p.facts.len]; omega)]
    rw [this]
    exact .no (.undef _)

/-- while something is not listed, something is ready -/
theorem ready_of {i : Nat} (ok : ∀ (i : Nat) (o : Oper), ops[i]? = some o → OkAt c.P ops b i o) (hsz : listed.size = ops.size) (hi : i < ops.size) (hnd : done listed i = false) : Region.ready .any ops listed ≠ [] := by
  induction i using Nat.strongRecOn with
  | _ i ih =>
    obtain ⟨o, ho⟩ : ∃ o, ops[i]? = some o := ⟨ops[i], by simp [hi]⟩
    by_cases hx : ∃ e ∈ o.after, Region.binds .any e = true ∧ done listed e.on = false
    · obtain ⟨e, he, hb, hd⟩ := hx
      have := (ok i o ho).after e he hb
      exact ih e.on this (by omega) hd
    · intro hnil
      have : i ∈ Region.ready .any ops listed := mem_ready.2 ⟨?_, o, ho, fun e he hb => ?_⟩
      · rw [hnil] at this; cases this
      · unfold done at hnd
        have hl : i < listed.size := by omega
        simpa [hl] using hnd
      · cases hd : done listed e.on with
        | true => exact hd
        | false => exact absurd ⟨e, he, hb, hd⟩ hx
end
end Go.Ab
