import Derived.Test.YtdiphholophdcaaAbRel
import Derived.Laws.Cells
set_option linter.unusedVariables false
set_option linter.unusedSimpArgs false
/- THE PURE OPERATIONS, HELD AGAINST THE MODEL'S. -/
namespace Go.Ab

theorem R.absS (G : Gh) (v : Value) : R G (absS v) v := by
  unfold Ab.absS
  split <;> first
    | exact .undef _
    | exact .int _ _
    | exact .bool _
    | (rename_i s; cases s with | mk d => cases d with | mk l => exact .str l)
    | exact .nilptr
    | exact .nils
    | exact .nilfn
    | exact .nili
theorem R.absV (G : Gh) (v : Value) : R G (absV v) v := by
  unfold Ab.absV
  split
  · refine .agg _ _ (by simp) fun i h h' => ?_
    simp only [List.getElem_map, Array.getElem_toList]
    exact R.absS G _
  · exact R.absS G v

theorem absS_sl {v : Value} {xs : List AV} (h : absS v = .sl xs) : xs = [] ∧ v = .slice none 0 0 := by
  unfold Ab.absS at h
  split at h <;> first
    | (cases h; exact ⟨rfl, rfl⟩)
    | (cases h; done)
theorem RT.tagS {G : Gh} {T : List Nat} {x : AV} {v : Value} (h : ∀ xs, x = .sl xs → v = .slice none 0 0) : RT G T x (tagZ x) v := by
  unfold tagZ
  split
  · rename_i xs
    rw [h xs rfl]
    exact ⟨fun b l c hv => by cases hv; rfl, trivial⟩
  · exact RT.no
theorem RS.absS (G : Gh) (T : List Nat) (v : Value) : RS G T (absS v, tagZ (absS v)) v := ⟨R.absS G v, RT.tagS fun xs h => (absS_sl h).2⟩
theorem RS.absV (G : Gh) (T : List Nat) (v : Value) : RS G T (absV v, tagZ (absV v)) v := by
  refine ⟨R.absV G v, RT.tagS fun xs h => ?_⟩
  unfold Ab.absV at h
  split at h
  · cases h
  · exact (absS_sl h).2

/-- what an act holds, and what it stands for -/
structure EnvR (G : Gh) (T : List Nat) (env : Env) (a : Act) : Prop where
  len : env.length = a.tmps.size
  at_ : ∀ i (h : i < env.length) (h' : i < a.tmps.size), RS G T env[i] a.tmps[i]

theorem eval_sound {c : Ctx} {B : Bd} {w0 : World} {G : Gh} {S : St} {w : World} (inv : Inv c B w0 G S w) {env : Env} {a : Act}
    (h : EnvR G S.T env a) (x : Operand) : RS G S.T (c.eval env x) (a.eval x) := by
  cases x with
  | tmp t =>
    simp only [Ctx.eval, Act.eval]
    by_cases ht : t < env.length
    · have h1 : env.getD t (AV.undef, Tag.no) = env[t] := by simp [List.getD, List.getElem?_eq_getElem ht]
      have h2 : a.tmps.getD t undef = a.tmps[t]'(h.len ▸ ht) := by simp [Array.getD, h.len ▸ ht]
      rw [h1, h2]
      exact h.at_ t ht _
    · have h1 : env.getD t (AV.undef, Tag.no) = (.undef, .no) := by simp [List.getD, List.getElem?_eq_none (Nat.le_of_not_lt ht)]
      rw [h1]
      exact RS.no (.undef _)
  | const v => exact RS.absV G S.T v
  | global g =>
    simp only [Ctx.eval, Act.eval]
    cases hg : c.glob g with
    | none => exact RS.no (.undef _)
    | some cs => exact RS.no (inv.glob g cs hg).1
  | func f => exact RS.no (.fn f [] [] #[] #[] rfl rfl (fun i h => absurd h (by simp)) (fun i h => absurd h (by simp)))

section
variable {c : Ctx} {B : Bd} {w0 : World} {G : Gh} {S : St} {w : World}

/-- an operation that hands back a value and leaves the world -/
def Keeps (c : Ctx) (G : Gh) (T : List Nat) (w : World) (s : Sem Value) (x : SV) : Prop := ∃ v, s.run c.P w = .ok v w ∧ RS G T x v

theorem underlying_of_tk {P : Program} {t : TypeId} {k : TK} (h : tk P t = k) (hk : k ≠ .other) : ∃ d, P.underlying t = some d := by
  unfold tk at h
  cases hu : P.underlying t with
  | none => rw [hu] at h; exact absurd h.symm hk
  | some d => exact ⟨d, rfl⟩
theorem tk_int {P : Program} {t : TypeId} {k : IntKind} (h : tk P t = .int k) : P.underlying t = some (.int k) := by
  unfold tk at h
  split at h <;> first | (cases h; done) | (split at h <;> cases h; done) | simp_all
theorem tk_bool {P : Program} {t : TypeId} (h : tk P t = .bool) : P.underlying t = some .bool := by
  unfold tk at h
  split at h <;> first | (cases h; done) | (split at h <;> cases h; done) | simp_all
theorem tk_string {P : Program} {t : TypeId} (h : tk P t = .string) : P.underlying t = some .string := by
  unfold tk at h
  split at h <;> first | (cases h; done) | (split at h <;> cases h; done) | simp_all
theorem tk_slice {P : Program} {t e : TypeId} (h : tk P t = .slice e) : P.underlying t = some (.slice e) := by
  unfold tk at h
  split at h <;> first | (cases h; done) | (split at h <;> cases h; done) | simp_all
theorem tk_array {P : Program} {t e : TypeId} {n : Nat} (h : tk P t = .array n e) : P.underlying t = some (.array n e) := by
  unfold tk at h
  split at h <;> first | (cases h; done) | (split at h <;> cases h; done) | simp_all
theorem tk_struct {P : Program} {t : TypeId} {fs : List (Nat × TypeId)} (h : tk P t = .struct fs) :
    ∃ gs : Array Field, P.underlying t = some (.struct gs) ∧ fs = gs.toList.map fun f => (f.offset, f.type) := by
  unfold tk at h
  split at h <;> first | (cases h; done) | skip
  rename_i gs hu
  split at h
  · cases h
  · exact ⟨gs, hu, by cases h; rfl⟩
theorem tk_iface {P : Program} {t : TypeId} (h : tk P t = .iface) : ∃ ms, P.underlying t = some (.interface ms) := by
  unfold tk at h
  split at h <;> first | (cases h; done) | (split at h <;> cases h; done) | simp_all

theorem run_underlying (P : Program) (w : World) {t : TypeId} {d : TypeDesc} (h : P.underlying t = some d) : (underlying t).run P w = .ok d w := by
  simp [underlying, h]
theorem run_sizeOf (P : Program) (w : World) {t : TypeId} {i : TypeInfo} (h : P.info? t = some i) : (sizeOf t).run P w = .ok i.size w := by
  simp [sizeOf, typeInfo, h]
theorem info_of_underlying {P : Program} {t : TypeId} {d : TypeDesc} (h : P.underlying t = some d) : ∃ i, P.info? t = some i := by
  unfold Program.underlying at h
  cases hi : P.info? t with
  | none => simp [hi] at h
  | some i => exact ⟨i, rfl⟩
theorem run_isAgg (P : Program) (w : World) {t : TypeId} {d : TypeDesc} (h : P.underlying t = some d) (hk : tk P t ≠ .other) : (isAgg t).run P w = .ok (tk P t).isAgg w := by
  simp only [isAgg, Sem.run_bind, run_underlying P w h, Result.andThen_ok]
  unfold tk at hk ⊢
  rw [h] at hk ⊢
  cases d <;> first
    | (simp only at hk ⊢; split <;> first | (simp_all; done) | simp [TK.isAgg])
    | simp [TK.isAgg]

theorem RS.mk1 {T : List Nat} {x : AV} {v : Value} (h : R G x v) : RS G T (x, .no) v := RS.no h

theorem R.notAgg {x : AV} {v : Value} (h : R G x v) (hk : x.known = true) (hn : ∀ cs, x ≠ .agg cs) : v.cells = #[v] ∧ x.cells = [x] := by
  cases h <;> first
    | exact ⟨rfl, rfl⟩
    | (simp [AV.known] at hk; done)
    | exact absurd rfl (hn _)

theorem Tag.at_RT1 {T : List Nat} {x : AV} {t : Tag} {v : Value} (h : RT1 G T x t v) : RT1 G T x t.flat v := by
  cases t <;> first | exact h | trivial

theorem RT.flat {T : List Nat} {x : AV} {t : Tag} {v : Value} (h : RT1 G T x t v) : RT G T x t.flat v := by
  refine ⟨Tag.at_RT1 h, ?_⟩
  cases t <;> simp only [Tag.flat] <;> (split <;> first | trivial | simp_all)

/-- cells in a row -/
def RSs (G : Gh) (T : List Nat) (cs : List SV) (vs : Array Value) : Prop :=
  cs.length = vs.size ∧ ∀ i (h : i < cs.length) (h' : i < vs.size), RS G T cs[i] vs[i]

theorem expand_sound {T : List Nat} {x : SV} {v : Value} (h : RS G T x v) (hk : x.1.known = true) : RSs G T (expand x) v.cells := by
  obtain ⟨x, tg⟩ := x
  obtain ⟨hr, ht⟩ := h
  by_cases hx : ∃ cs, x = .agg cs
  · obtain ⟨cs, rfl⟩ := hx
    cases hr with
    | agg _ vs hl hrs =>
      simp only [expand, Value.cells]
      refine ⟨by simpa using hl, fun i h h' => ?_⟩
      simp only [List.getElem_map, List.getElem_zipIdx, Nat.zero_add]
      have hi : i < cs.length := by simpa using h
      refine ⟨hrs i hi h', ?_⟩
      cases tg with
      | agg ts => exact RT.flat (ht.2 i hi h')
      | _ => exact RT.no
  · have hn : ∀ cs, x ≠ .agg cs := fun cs e => hx ⟨cs, e⟩
    obtain ⟨h1, _⟩ := hr.notAgg hk hn
    have h2 : expand (x, tg) = [(x, tg.flat)] := by
      unfold expand
      split
      · rename_i cs h; exact absurd h (hn cs)
      · rfl
    rw [h1, h2]
    refine ⟨rfl, fun i h h' => ?_⟩
    have : i = 0 := by simp at h; omega
    subst this
    exact ⟨hr, RT.flat ht.1⟩

theorem Tag.flat_flat (t : Tag) : t.flat.flat = t.flat := by cases t <;> rfl
theorem Tag.at_flat (t : Tag) (i : Nat) : (t.at i).flat = t.at i := by
  cases t with
  | agg ts => exact Tag.flat_flat _
  | _ => rfl
theorem expand_flat (x : SV) : ∀ y ∈ expand x, y.2.flat = y.2 := by
  intro y hy
  unfold expand at hy
  split at hy
  · obtain ⟨q, _, rfl⟩ := List.mem_map.1 hy
    exact Tag.at_flat _ _
  · rw [List.mem_singleton] at hy
    subst hy
    exact Tag.flat_flat _

theorem collect_sound {T : List Nat} {cs : List SV} {vs : Array Value} (h : RSs G T cs vs) : RS G T (collect cs) (.agg vs) := by
  refine ⟨.agg _ _ (by simpa using h.1) fun i hi h' => ?_, trivial, fun i hi h' => ?_⟩
  · have hi' : i < cs.length := by simpa using hi
    simpa using (h.2 i hi' h').1
  · have hi' : i < cs.length := by simpa using hi
    have := (h.2 i hi' h').2.1
    simp only [List.getElem_map]
    have e : (cs.map (·.2)).getD i Tag.no = cs[i].2 := by simp [List.getD, List.getElem?_eq_getElem hi']
    rw [e]; exact this

theorem part_sound {T : List Nat} {t : TypeId} {cs : List SV} {vs : Array Value} {off : Nat} {x : SV} (hs : cs.length ≤ vs.size)
    (h : ∀ i (h : i < cs.length) (h' : i < vs.size), RS G T cs[i] vs[i]) (hp : c.part t cs off = some x) :
    ∃ v, (part t vs off).run c.P w = .ok v w ∧ RS G T x v := by
  unfold Ctx.part at hp
  cases hk : tk c.P t with
  | other => simp [hk] at hp
  | struct fs =>
    simp only [hk] at hp
    obtain ⟨d, hd⟩ := underlying_of_tk hk (by simp)
    obtain ⟨i, hi⟩ := info_of_underlying hd
    have hsz : tsz c.P t = i.size := by simp [tsz, hi]
    split at hp <;> first | (cases hp; done) | skip
    rename_i hle
    cases hp
    refine ⟨.agg (vs.extract off (off + i.size)), ?_, collect_sound ⟨?_, fun j hj hj' => ?_⟩⟩
    · simp only [part, Sem.run_bind, run_isAgg c.P w hd (by rw [hk]; simp), hk, TK.isAgg, Result.andThen_ok, if_true, run_sizeOf c.P w hi, Sem.run_ite, Sem.run_pure]
    · simp; omega
    · simp only [List.getElem_take, List.getElem_drop, Array.getElem_extract]
      exact h _ _ _
  | array n e =>
    simp only [hk] at hp
    obtain ⟨d, hd⟩ := underlying_of_tk hk (by simp)
    obtain ⟨i, hi⟩ := info_of_underlying hd
    have hsz : tsz c.P t = i.size := by simp [tsz, hi]
    split at hp <;> first | (cases hp; done) | skip
    rename_i hle
    cases hp
    refine ⟨.agg (vs.extract off (off + i.size)), ?_, collect_sound ⟨?_, fun j hj hj' => ?_⟩⟩
    · simp only [part, Sem.run_bind, run_isAgg c.P w hd (by rw [hk]; simp), hk, TK.isAgg, Result.andThen_ok, if_true, run_sizeOf c.P w hi, Sem.run_ite, Sem.run_pure]
    · simp; omega
    · simp only [List.getElem_take, List.getElem_drop, Array.getElem_extract]
      exact h _ _ _
  | _ =>
    simp only [hk] at hp
    obtain ⟨d, hd⟩ := underlying_of_tk hk (by simp)
    obtain ⟨hlt, rfl⟩ := List.getElem?_eq_some_iff.1 hp
    refine ⟨vs[off]'(by omega), ?_, h off hlt (by omega)⟩
    simp only [part, Sem.run_bind, run_isAgg c.P w hd (by rw [hk]; simp), hk, TK.isAgg, Result.andThen_ok, Sem.run_ite, Bool.false_eq_true, if_false]
    simp [Array.getElem?_eq_getElem (show off < vs.size by omega)]
end

end Go.Ab
