import Derived.Test.YtdiphholophdcaaAbPure6
set_option linter.unusedVariables false
set_option linter.unusedSimpArgs false
namespace Go.Ab
section
variable {c : Ctx} {G : Gh} {T : List Nat} {w : World} {ρ : Operand → SV} {σ : Operand → Value}

theorem y_move {o : Oper} {a : Operand} {x : SV} (hop : o.op = .move a ∨ o.op = .assign a) (hρ : ∀ x, RS G T (ρ x) (σ x)) (h : some (ρ a) = some x) : Yields c G T w σ o x := by
  cases h
  rcases hop with hop | hop <;> exact ⟨σ a, by simp [execOp, hop], hρ a⟩
theorem y_pick {o : Oper} {k a b : Operand} {x : SV} (hop : o.op = .pick k a b) (hρ : ∀ x, RS G T (ρ x) (σ x)) (h : c.pure (.pick k a b) ρ = some x) : Yields c G T w σ o x := by
  simp only [Ctx.pure] at h
  split at h <;> first | (cases h; done) | skip
  rename_i t hk
  cases h
  have hr := (hρ k).1
  rw [hk] at hr
  generalize hv : σ k = v at hr
  cases hr
  cases t
  · exact ⟨σ b, by simp [execOp, hop, hv, asBool], hρ b⟩
  · exact ⟨σ a, by simp [execOp, hop, hv, asBool], hρ a⟩
theorem y_nilCheck {o : Oper} {a : Operand} {x : SV} (hop : o.op = .nilCheck a) (hρ : ∀ x, RS G T (ρ x) (σ x)) (h : c.pure (.nilCheck a) ρ = some x) : Yields c G T w σ o x := by
  simp only [Ctx.pure] at h
  have hr := (hρ a)
  split at h <;> first | (cases h; done) | skip
  all_goals
    rename_i hk
    cases h
    refine ⟨σ a, ?_, hr⟩
    have hr1 := hr.1
    rw [hk] at hr1
    generalize hv : σ a = v at hr1
    cases hr1
    simp [execOp, hop, hv]
theorem y_unOp {o : Oper} {op : UnOp} {t : TypeId} {a : Operand} {x : SV} (hop : o.op = .unOp op t a) (hρ : ∀ x, RS G T (ρ x) (σ x)) (h : c.pure (.unOp op t a) ρ = some x) : Yields c G T w σ o x := by
  refine .of_sem (s := Op.unary op (σ a)) (by simp only [execOp, hop]) ?_
  simp only [Ctx.pure, Option.map_eq_some_iff] at h
  obtain ⟨z, hz, rfl⟩ := h
  have hr := (hρ a).1
  generalize (ρ a).1 = y at *
  generalize σ a = v at *
  unfold aUn at hz
  split at hz <;> first | (cases hz; done) | skip
  · cases hz; cases hr; exact ⟨_, rfl, RS.no (.bool _)⟩
  · cases hr
    rename_i k n
    simp [aInt] at hz
    subst hz
    exact ⟨_, by simp [Op.unary, Op.intArith], RS.no (.int _ _)⟩
  · cases hr
    obtain ⟨v, h1, h2⟩ := aBits_sound (c := c) (G := G) (w := w) hz
    exact ⟨v, by simpa [Op.unary] using h1, RS.no h2⟩
theorem y_makeInterface {o : Oper} {t : TypeId} {a : Operand} {x : SV} (hop : o.op = .makeInterface t a) (hρ : ∀ x, RS G T (ρ x) (σ x)) (h : c.pure (.makeInterface t a) ρ = some x) : Yields c G T w σ o x := by
  refine .of_sem (s := Instr.makeInterface t (σ a)) (by simp only [execOp, hop]) ?_
  simp only [Ctx.pure] at h
  have hi : ∀ ms, c.P.underlying t ≠ some (.interface ms) := by
    intro ms hu
    have : tk c.P t = .iface := by unfold tk; rw [hu]
    rw [this] at h
    cases h
  obtain ⟨d, hd⟩ : ∃ d, c.P.underlying t = some d := by
    cases hk : tk c.P t with
    | other => rw [hk] at h; cases h
    | _ => exact underlying_of_tk hk (by simp)
  have hx : x = (.iface t (ρ a).1, .no) := by
    split at h <;> first | (cases h; done) | (cases h; rfl)
  subst hx
  refine ⟨.iface t (σ a), ?_, RS.no (.iface _ _ _ (hρ a).1)⟩
  simp only [Instr.makeInterface, Sem.run_bind, run_underlying c.P w hd, Result.andThen_ok]
  cases d <;> first | rfl | exact absurd hd (hi _)
theorem y_makeFunc {o : Oper} {f : FuncId} {a b : Array Operand} {x : SV} (hop : o.op = .makeFunc (.func f) a b) (hρ : ∀ x, RS G T (ρ x) (σ x)) (h : c.pure (.makeFunc (.func f) a b) ρ = some x) : Yields c G T w σ o x := by
  refine .of_sem (s := Instr.makeFunc (.func f) (a.map σ) (b.map σ)) (by simp only [execOp, hop]) ?_
  simp only [Ctx.pure] at h
  cases h
  refine ⟨.func (.func f) (a.map σ) (b.map σ), rfl, RS.no (.fn _ _ _ _ _ (by simp) (by simp) (fun i h h' => ?_) (fun i h h' => ?_))⟩
  · simp; exact (hρ _).1
  · simp; exact (hρ _).1
theorem y_extract {o : Oper} {a : Operand} {i : Nat} {x : SV} (hop : o.op = .extract a i) (hρ : ∀ x, RS G T (ρ x) (σ x)) (h : c.pure (.extract a i) ρ = some x) : Yields c G T w σ o x := by
  refine .of_sem (s := Instr.extract (σ a) i) (by simp only [execOp, hop]) ?_
  simp only [Ctx.pure] at h
  split at h <;> first | (cases h; done) | skip
  rename_i vs tg hk
  simp only [Option.map_eq_some_iff] at h
  obtain ⟨v, hv, rfl⟩ := h
  obtain ⟨hlt, rfl⟩ := List.getElem?_eq_some_iff.1 hv
  have hr := hρ a
  rw [hk] at hr
  obtain ⟨hr1, hr2⟩ := hr
  simp only at hr1 hr2
  generalize σ a = u at *
  cases hr1 with
  | tup _ us hl hR =>
    have hlt' : i < us.size := by omega
    refine ⟨us[i], by simp [Instr.extract, Array.getElem?_eq_getElem hlt'], hR i hlt hlt', ?_⟩
    cases tg with
    | agg ts => exact RT.flat (hr2.2 i hlt hlt')
    | _ => exact RT.no
theorem y_typeAssert {o : Oper} {a : Operand} {t' t : TypeId} {ok : Bool} {x : SV} (hop : o.op = .typeAssert a t' t ok) (hρ : ∀ x, RS G T (ρ x) (σ x)) (h : c.pure (.typeAssert a t' t ok) ρ = some x) : Yields c G T w σ o x := by
  refine .of_sem (s := Instr.typeAssert (σ a) t' t ok) (by simp only [execOp, hop]) ?_
  simp only [Ctx.pure] at h
  split at h
  · cases h
  rename_i hhz
  obtain ⟨i, z, hi, hz⟩ := of_hasZero (by simpa using hhz)
  have hzero : (zeroValue t).run c.P w = .ok z w := by simp [zeroValue, typeInfo, hi, hz]
  have hif : ∀ ms, c.P.underlying t ≠ some (.interface ms) := by
    intro ms hu
    have : tk c.P t = .iface := by unfold tk; rw [hu]
    rw [this] at h
    simp at h
  obtain ⟨d, hd⟩ : ∃ d, c.P.underlying t = some d := by
    cases hk : tk c.P t with
    | other => rw [hk] at h; simp at h
    | _ => exact underlying_of_tk hk (by simp)
  have hra := (hρ a).1
  split at h <;> first | (cases h; done) | skip
  · rename_i u v hy hk1 hk2
    rw [hy] at hra
    generalize hva : σ a = va at *
    cases hra with
    | iface _ _ vv hv =>
      split at h
      · rename_i hut
        subst hut
        cases h
        cases ok
        · refine ⟨vv, ?_, RS.no hv⟩
          cases d <;> first
            | (simp [Instr.typeAssert, run_underlying c.P w hd]; done)
            | exact absurd hd (hif _)
        · refine ⟨.tuple #[vv, .bool true], ?_, RS.no (.tup _ _ rfl fun j h1 h2 => ?_)⟩
          · cases d <;> first
              | (simp [Instr.typeAssert, run_underlying c.P w hd]; done)
              | exact absurd hd (hif _)
          · have : j = 0 ∨ j = 1 := by simp at h1; omega
            rcases this with rfl | rfl
            · exact hv
            · exact .bool _
      · rename_i hut
        obtain ⟨rfl, h9⟩ := Option.ite_none_right_eq_some.1 h
        cases h9
        refine ⟨.tuple #[z, .bool false], ?_, RS.no (.tup _ _ rfl fun j h1 h2 => ?_)⟩
        · cases d <;> first
            | (simp [Instr.typeAssert, run_underlying c.P w hd, hut, hzero]; done)
            | exact absurd hd (hif _)
        · have : j = 0 ∨ j = 1 := by simp at h1; omega
          rcases this with rfl | rfl
          · exact .undef _
          · exact .bool _
  · rename_i hy hk1 hk2
    rw [hy] at hra
    generalize hva : σ a = va at *
    cases hra
    obtain ⟨rfl, h9⟩ := Option.ite_none_right_eq_some.1 h
    cases h9
    refine ⟨.tuple #[z, .bool false], ?_, RS.no (.tup _ _ rfl fun j h1 h2 => ?_)⟩
    · cases d <;> first
        | (simp [Instr.typeAssert, run_underlying c.P w hd, hzero]; done)
        | exact absurd hd (hif _)
    · have : j = 0 ∨ j = 1 := by simp at h1; omega
      rcases this with rfl | rfl
      · exact .undef _
      · exact .bool _
theorem y_min {o : Oper} {ops : Array Operand} {ts : Array TypeId} {x : SV} (hop : o.op = .call { callee := .builtin .min, args := ops, argTypes := ts }) (hρ : ∀ x, RS G T (ρ x) (σ x))
    (h : c.pure (.call { callee := .builtin .min, args := ops, argTypes := ts }) ρ = some x) : Yields c G T w σ o x := by
  simp only [Ctx.pure] at h
  split at h <;> first | (cases h; done) | skip
  rename_i a b hl
  split at h <;> first | (cases h; done) | skip
  rename_i k n k' m ha hb
  obtain ⟨hkk, h9⟩ := Option.ite_none_right_eq_some.1 h
  subst hkk
  cases h9
  have hra := (hρ a).1
  have hrb := (hρ b).1
  rw [ha] at hra
  rw [hb] at hrb
  generalize hva : σ a = va at *
  generalize hvb : σ b = vb at *
  cases hra; cases hrb
  refine ⟨.int k (if m < n then m else n), ?_, RS.no (.int _ _)⟩
  have e : ops = #[a, b] := by rw [← hl]
  simp [execOp, hop, resolve, invoke, builtin, Builtin.min_, Builtin.min2, e, hva, hvb]
theorem y_max {o : Oper} {ops : Array Operand} {ts : Array TypeId} {x : SV} (hop : o.op = .call { callee := .builtin .max, args := ops, argTypes := ts }) (hρ : ∀ x, RS G T (ρ x) (σ x))
    (h : c.pure (.call { callee := .builtin .max, args := ops, argTypes := ts }) ρ = some x) : Yields c G T w σ o x := by
  simp only [Ctx.pure] at h
  split at h <;> first | (cases h; done) | skip
  rename_i a b hl
  split at h <;> first | (cases h; done) | skip
  rename_i k n k' m ha hb
  obtain ⟨hkk, h9⟩ := Option.ite_none_right_eq_some.1 h
  subst hkk
  cases h9
  have hra := (hρ a).1
  have hrb := (hρ b).1
  rw [ha] at hra
  rw [hb] at hrb
  generalize hva : σ a = va at *
  generalize hvb : σ b = vb at *
  cases hra; cases hrb
  refine ⟨.int k (if m > n then m else n), ?_, RS.no (.int _ _)⟩
  have e : ops = #[a, b] := by rw [← hl]
  simp [execOp, hop, resolve, invoke, builtin, Builtin.max_, Builtin.max2, e, hva, hvb]
theorem y_len {o : Oper} {ops : Array Operand} {ts : Array TypeId} {x : SV} (hop : o.op = .call { callee := .builtin .len, args := ops, argTypes := ts }) (hρ : ∀ x, RS G T (ρ x) (σ x))
    (h : c.pure (.call { callee := .builtin .len, args := ops, argTypes := ts }) ρ = some x) : Yields c G T w σ o x := by
  simp only [Ctx.pure] at h
  split at h <;> first | (cases h; done) | skip
  rename_i a t hl ht
  have e : ops = #[a] := by rw [← hl]
  have e' : ts = #[t] := by rw [← ht]
  have hra := (hρ a).1
  have go : ∀ n : Nat, x = (.int .i64 n, .no) → (Builtin.len_ ts o.type #[σ a]).run c.P w = .ok (goInt n) w → Yields c G T w σ o x := by
    intro n hx hrun
    subst hx
    refine ⟨goInt n, ?_, RS.no (.int _ _)⟩
    simp [execOp, hop, resolve, invoke, builtin, e, hrun]
  split at h <;> first | (cases h; done) | skip
  · rename_i hk
    split at h <;> first | (cases h; done) | skip
    rename_i s hy
    rw [hy] at hra
    generalize hva : σ a = va at *
    cases hra
    cases h
    exact go _ rfl (by simp [Builtin.len_, e', run_underlying c.P w (tk_string hk), size_mk])
  · rename_i ee hk
    split at h <;> first | (cases h; done) | skip
    · rename_i xs hy
      rw [hy] at hra
      generalize hva : σ a = va at *
      cases h
      cases hra
      · exact go 0 rfl (by simp [Builtin.len_, e', run_underlying c.P w (tk_slice hk)])
      · exact go _ rfl (by simp [Builtin.len_, e', run_underlying c.P w (tk_slice hk)])
    · rename_i b oo n hy
      rw [hy] at hra
      generalize hva : σ a = va at *
      cases hra
      cases h
      exact go _ rfl (by simp [Builtin.len_, e', run_underlying c.P w (tk_slice hk)])
  · rename_i n ee hk
    cases h
    exact go _ rfl (by simp [Builtin.len_, e', run_underlying c.P w (tk_array hk)])
end
end Go.Ab
