import Derived.Test.YtdiphholophdcaaAbPure2
import Derived.ChangeKeysEq
set_option linter.unusedVariables false
set_option linter.unusedSimpArgs false
namespace Go.Ab
section
variable {c : Ctx} {G : Gh} {T : List Nat} {w : World}

/-- values of cells, each known and standing for the machine's -/
def RL (G : Gh) (xs : List AV) (vs : Array Value) : Prop := xs.length = vs.size ∧ ∀ i (h : i < xs.length) (h' : i < vs.size), R G xs[i] vs[i]

theorem RL.sub {xs : List AV} {vs : Array Value} (h : RL G xs vs) (a n : Nat) : RL G ((xs.drop a).take n) (vs.extract a (a + n)) := by
  obtain ⟨h1, h2⟩ := h
  refine ⟨by simp; omega, fun i hi hi' => ?_⟩
  simp only [List.getElem_take, List.getElem_drop, Array.getElem_extract]
  exact h2 _ _ _

theorem beq_mk (a b : List UInt8) : ((⟨⟨a⟩⟩ : ByteArray) == ⟨⟨b⟩⟩) = (a == b) := by
  rw [beq_toListBytes, toList_mk, toList_mk]

theorem names_of_tk {P : Program} {t : TypeId} {fs : List (Nat × TypeId)} (h : tk P t = .struct fs) :
    ∃ gs : Array Field, P.underlying t = some (.struct gs) ∧ fs = gs.toList.map (fun f => (f.offset, f.type)) ∧ ∀ f ∈ gs.toList, f.name ≠ "_" ∧ ∃ d, P.info? f.type = some d := by
  unfold tk at h
  split at h <;> first | (cases h; done) | skip
  rename_i gs hu
  split at h
  · cases h
  · rename_i hn
    refine ⟨gs, hu, by cases h; rfl, fun f hf => ⟨fun e => hn ?_, ?_⟩⟩
    · rw [Array.any_eq_true']
      exact ⟨f, by simpa using hf, by simp [e]⟩
    · cases hd : P.info? f.type with
      | some d => exact ⟨d, rfl⟩
      | none =>
        refine absurd ?_ hn
        rw [Array.any_eq_true']
        exact ⟨f, by simpa using hf, by simp [hd]⟩

/-- one value of a type out of its cells -/
def valOf (P : Program) (t : TypeId) (vs : Array Value) : Value := if (tk P t).isAgg then .agg vs else vs.getD 0 undef

theorem part_valOf {t : TypeId} {vs : Array Value} {off : Nat} (hk : tk c.P t ≠ .other) (h1 : (tk c.P t).isAgg = false → off < vs.size ∧ 1 ≤ tsz c.P t) :
    (part t vs off).run c.P w = .ok (valOf c.P t (vs.extract off (off + tsz c.P t))) w := by
  obtain ⟨d, hd⟩ := underlying_of_tk rfl hk
  obtain ⟨i, hi⟩ := info_of_underlying hd
  have hsz : tsz c.P t = i.size := by simp [tsz, hi]
  simp only [part, Sem.run_bind, run_isAgg c.P w hd hk, Result.andThen_ok, run_sizeOf c.P w hi, Sem.run_ite, Sem.run_pure, valOf, hsz]
  cases ha : (tk c.P t).isAgg with
  | true => simp
  | false =>
    obtain ⟨ho, h2⟩ := h1 ha
    have e : (vs.extract off (off + i.size)).getD 0 undef = vs[off] := by
      have : 0 < (vs.extract off (off + i.size)).size := by simp; omega
      rw [Array.getD_eq_getD_getElem?, Array.getElem?_eq_getElem this]
      simp
    simp only [Bool.false_eq_true, if_false]
    rw [e, Array.getElem?_eq_getElem ho]
    rfl

theorem eqAt_array {d n : Nat} {t e : TypeId} (hk : tk c.P t = .array n e) (xs ys : List AV) :
    c.eqAt (d + 1) t xs ys = if (c.P.info? e).isNone then none else aEqs (c.eqAt d e) (tsz c.P e) n xs ys := by
  simp only [Ctx.eqAt, hk]
theorem eqAt_scalar {d : Nat} {t : TypeId} {xs ys : List AV} {b : Bool} (h : c.eqAt d t xs ys = some b) (ha : (tk c.P t).isAgg = false) : xs.length = 1 ∧ ys.length = 1 := by
  cases d with
  | zero => simp [Ctx.eqAt] at h
  | succ d =>
    unfold Ctx.eqAt at h
    split at h <;> first
      | exact ⟨rfl, rfl⟩
      | (rename_i hk; rw [hk] at ha; simp [TK.isAgg] at ha; done)
      | (rename_i hk _ _; rw [hk] at ha; simp [TK.isAgg] at ha; done)
      | (cases h; done)
theorem eqAt_other {d : Nat} {t : TypeId} {xs ys : List AV} {b : Bool} (h : c.eqAt d t xs ys = some b) : tk c.P t ≠ .other := by
  cases d with
  | zero => simp [Ctx.eqAt] at h
  | succ d =>
    intro hk
    unfold Ctx.eqAt at h
    rw [hk] at h
    simp at h
theorem sub_bounds {xs : List AV} {vs : Array Value} (h : RL G xs vs) {off n : Nat} (hl : ((xs.drop off).take n).length = 1) : off < vs.size ∧ 1 ≤ n := by
  have := h.1
  simp at hl
  omega
theorem RL.one {x : AV} {vs : Array Value} (h : RL G [x] vs) : R G x (vs.getD 0 undef) := by
  have h0 : 0 < vs.size := by have := h.1; simp at this; omega
  have := h.2 0 (by simp) h0
  rw [Array.getD_eq_getD_getElem?, Array.getElem?_eq_getElem h0]
  simpa using this

theorem eqAt_sound (k : Nat) : ∀ (d : Nat) (t : TypeId) (xs ys : List AV) (vx vy : Array Value) (b : Bool), c.eqAt d t xs ys = some b → RL G xs vx → RL G ys vy →
    (Op.equalIn (d + k) t (valOf c.P t vx) (valOf c.P t vy)).run c.P w = .ok b w := by
  intro d
  induction d with
  | zero => intro t xs ys vx vy b h; simp [Ctx.eqAt] at h
  | succ d ih =>
    intro t xs ys vx vy b h hx hy
    have step : ∀ (t' : TypeId) (off : Nat) (r : Bool), c.eqAt d t' ((xs.drop off).take (tsz c.P t')) ((ys.drop off).take (tsz c.P t')) = some r →
        (part t' vx off).run c.P w = .ok (valOf c.P t' (vx.extract off (off + tsz c.P t'))) w ∧ (part t' vy off).run c.P w = .ok (valOf c.P t' (vy.extract off (off + tsz c.P t'))) w ∧
        (Op.equalIn (d + k) t' (valOf c.P t' (vx.extract off (off + tsz c.P t'))) (valOf c.P t' (vy.extract off (off + tsz c.P t')))).run c.P w = .ok r w := by
      intro t' off r hr
      have ho := eqAt_other hr
      exact ⟨part_valOf ho fun ha => sub_bounds hx (eqAt_scalar hr ha).1, part_valOf ho fun ha => sub_bounds hy (eqAt_scalar hr ha).2,
        ih t' _ _ _ _ r hr (hx.sub _ _) (hy.sub _ _)⟩
    rw [Nat.add_right_comm]
    by_cases hka : ∃ n e, tk c.P t = .array n e
    · obtain ⟨n, e, hk⟩ := hka
      rw [eqAt_array hk] at h
      have hu := tk_array hk
      simp only [valOf, hk, TK.isAgg, if_true]
      split at h
      · cases h
      · rename_i hni
        obtain ⟨i, hi⟩ : ∃ i, c.P.info? e = some i := by
          cases hi : c.P.info? e with
          | none => simp [hi] at hni
          | some i => exact ⟨i, rfl⟩
        rw [run_equalIn_array w _ vx vy hu hi, List.range_eq_range']
        have hcs : c.P.cellsOf e = tsz c.P e := by simp [Program.cellsOf, tsz, hi]
        rw [hcs]
        have key : ∀ (m j : Nat) (b : Bool), aEqs (c.eqAt d e) (tsz c.P e) m (xs.drop (j * tsz c.P e)) (ys.drop (j * tsz c.P e)) = some b →
            (Op.eqItems (d + k) e (tsz c.P e) vx vy (List.range' j m)).run c.P w = .ok b w := by
          intro m
          induction m with
          | zero => intro j b h; simp [aEqs] at h; subst h; simp [Op.eqItems]
          | succ m ihm =>
            intro j b h
            simp only [aEqs] at h
            split at h
            · rename_i r r' h1 h2
              cases h
              obtain ⟨p1, p2, p3⟩ := step e (j * tsz c.P e) r h1
              simp only [List.range'_succ, Op.eqItems, Sem.run_bind, p1, p2, p3, Result.andThen_ok]
              rw [List.drop_drop, List.drop_drop, show j * tsz c.P e + tsz c.P e = (j + 1) * tsz c.P e by rw [Nat.add_mul]; omega] at h2
              cases r with
              | false => simp
              | true => simp; exact ihm _ _ h2
            · cases h
        exact key n 0 b (by simpa using h)
    unfold Ctx.eqAt at h
    split at h
    · rename_i kk j a k' b' hk
      have hu := tk_int hk
      split at h
      · rename_i hjk
        cases h
        have h1 := hx.one
        have h2 := hy.one
        simp only [valOf, hk, TK.isAgg, Bool.false_eq_true, if_false]
        generalize vx.getD 0 undef = u at *
        generalize vy.getD 0 undef = v at *
        cases h1; cases h2
        subst hjk
        exact run_equalIn_int w _ t _ _ _ _ hu
      · cases h
    · rename_i a b' hk
      have hu := tk_bool hk
      cases h
      have h1 := hx.one
      have h2 := hy.one
      simp only [valOf, hk, TK.isAgg, Bool.false_eq_true, if_false]
      generalize vx.getD 0 undef = u at *
      generalize vy.getD 0 undef = v at *
      cases h1; cases h2
      exact run_equalIn_bool' w _ t _ _ hu
    · rename_i a b' hk
      have hu := tk_string hk
      cases h
      have h1 := hx.one
      have h2 := hy.one
      simp only [valOf, hk, TK.isAgg, Bool.false_eq_true, if_false]
      generalize vx.getD 0 undef = u at *
      generalize vy.getD 0 undef = v at *
      cases h1; cases h2
      rw [run_equalIn_string w _ t _ _ hu, toList_mk, toList_mk]
    · rename_i hk; exact absurd ⟨_, _, hk⟩ hka
    · rename_i fs hk
      obtain ⟨gs, hu, rfl, hn⟩ := names_of_tk hk
      split at h
      · cases h
      · rename_i hst
        have hf : c.P.fieldsOf t = gs := by simp [Program.fieldsOf, hu]
        simp only [valOf, hk, TK.isAgg, if_true]
        rw [run_equalIn_struct w _ t vx vy (by rw [hf]; exact hu) (by simpa using hst), hf]
        clear hu hk hf
        generalize gs.toList = l at h hn
        induction l generalizing b with
        | nil => simp [eqFs] at h; subst h; simp [Op.eqFields]
        | cons f fs ihf =>
          simp only [List.map_cons, eqFs] at h
          split at h
          · rename_i r r' h1 h2
            cases h
            obtain ⟨p1, p2, p3⟩ := step f.type f.offset r h1
            simp only [Op.eqFields, (hn f (by simp)).1, ne_eq, not_false_eq_true, if_true, Sem.run_bind, p1, p2, p3, Result.andThen_ok]
            cases r with
            | false => simp
            | true => simp; exact ihf _ h2 (fun g hg => hn g (by simp [hg]))
          · cases h
    · cases h
end
end Go.Ab
