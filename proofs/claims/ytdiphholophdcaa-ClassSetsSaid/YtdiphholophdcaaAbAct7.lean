import Derived.Test.YtdiphholophdcaaAbAct6
set_option linter.unusedVariables false
set_option linter.unusedSimpArgs false
namespace Go.Ab
open Go.RowKit
section
variable {c : Ctx} {B : Bd} {w0 : World} {G : Gh} {S : St} {w : World} {ρ : Operand → SV} {σ : Operand → Value}

theorem y_readLoad {o : Oper} {t : TypeId} {a : Operand} {x : SV} (hop : o.op = .load t a) (inv : Inv c B w0 G S w) (hρ : ∀ x, RS G S.T (ρ x) (σ x)) (h : c.read (.load t a) ρ S = some x) : Yields c G S.T w σ o x := by
  refine .of_sem (s := Instr.loadAt t (σ a)) (by simp only [execOp, hop]) ?_
  simp only [Ctx.read] at h
  split at h <;> first | (cases h; done) | skip
  rename_i b oo hy
  split at h <;> first | (cases h; done) | skip
  rename_i cells hb
  have hra := (hρ a).1
  rw [hy] at hra
  generalize hva : σ a = va at *
  cases hra with
  | ptr _ _ d hφ =>
    obtain ⟨hB, us, u, fr, hu, hus, hfr, hR⟩ := inv.blk b d cells hb hφ
    obtain ⟨v, h1, h2⟩ := loadVar_sound (T := S.T) (w := w) (d := d) (o := 0) (fun i => us.getD i undef) (fun i hi => by
      rw [cell_of_heap hu, Nat.zero_add, Array.getElem?_eq_getElem (by omega)]
      simp [Array.getD, show i < us.size by omega]) (fun i hi => by
      have := hR i hi (by omega)
      simpa [Array.getD, show i < us.size by omega] using this) h
    rw [Nat.zero_add] at h1
    exact ⟨v, by simpa [Instr.loadAt, Instr.sureAddr] using h1, h2⟩

theorem y_readConvert {o : Oper} {src dst : TypeId} {a : Operand} {x : SV} (hop : o.op = .convert src dst a) (inv : Inv c B w0 G S w) (hρ : ∀ x, RS G S.T (ρ x) (σ x)) (h : c.read (.convert src dst a) ρ S = some x) : Yields c G S.T w σ o x := by
  refine .of_sem (s := convert src dst (σ a)) (by simp only [execOp, hop]) ?_
  simp only [Ctx.read] at h
  split at h <;> first | (cases h; done) | skip
  rename_i b oo n e hk hy hks
  split at h <;> first | (cases h; done) | skip
  rename_i cells hke hb
  obtain ⟨hle, h⟩ := Option.ite_none_right_eq_some.1 h
  simp only [Option.map_eq_some_iff] at h
  obtain ⟨s, hs, rfl⟩ := h
  obtain ⟨ns, hns, rfl⟩ := bytesOf_map hs
  have hra := (hρ a).1
  rw [hy] at hra
  generalize hva : σ a = va at *
  cases hra with
  | slr _ _ _ d cap hφ hc =>
    obtain ⟨hB, us, u, fr, hu, hus, hfr, hR⟩ := inv.blk b d cells hb hφ
    have hnl : ns.length = n := by
      have := congrArg List.length hns
      simp at this; omega
    refine ⟨_, ?_, RS.no (.str _)⟩
    have hb := bytes_read (c := c) (w := w) (d := d) (o := oo) (len := n) (cap := cap) (ns := ns) hnl (fun i hi => by
      have h1 := (hR (oo + i) (by omega) (by omega)).1
      have e1 : cells[oo + i].1 = .int .u8 ns[i] := by
        have h3 : (((cells.drop oo).take n).map (·.1))[i]'(by simp; omega) = (ns.map (AV.int .u8))[i]'(by simpa using hi) := by simp only [hns]
        simpa using h3
      rw [e1] at h1
      rw [cell_of_heap hu, Array.getElem?_eq_getElem (by omega)]
      generalize us[oo + i] = v at *
      cases h1
      rfl)
    simp [convert, run_underlying c.P w (tk_slice hks), run_underlying c.P w (tk_string hk), run_underlying c.P w (tk_int hke)]
    simpa using hb

theorem read_sound {o : Oper} {x : SV} (inv : Inv c B w0 G S w) (hρ : ∀ x, RS G S.T (ρ x) (σ x)) (h : c.read o.op ρ S = some x) : Yields c G S.T w σ o x := by
  cases hop : o.op <;> rw [hop] at h <;> first
    | (cases h; done)
    | (exact y_readLoad hop inv hρ h)
    | (exact y_readConvert hop inv hρ h)
    | (simp [Ctx.read] at h; done)

/-- THE PURE OPERATIONS ARE SOUND. -/
theorem pure_sound {o : Oper} {x : SV} (inv : Inv c B w0 G S w) (hρ : ∀ x, RS G S.T (ρ x) (σ x)) (h : c.pure o.op ρ = some x) : Does c B w0 G S w σ o x S := by
  have himm : ∀ d o v, G.I d o = some v → w.cell? ⟨d, o, none⟩ = some v := fun d o v hv => (inv.imm d o v hv).1
  cases hop : o.op <;> rw [hop] at h <;> first
    | (cases h; done)
    | (exact (y_move (.inl hop) hρ h).does inv)
    | (exact (y_move (.inr hop) hρ h).does inv)
    | (exact (y_pick hop hρ h).does inv)
    | (exact (y_build hop hρ h).does inv)
    | (exact d_buildSlice hop inv hρ h)
    | (exact (y_nilCheck hop hρ h).does inv)
    | (exact (y_binOp hop hρ h).does inv)
    | (exact (y_unOp hop hρ h).does inv)
    | (exact (y_convert hop hρ himm h).does inv)
    | (exact (y_makeInterface hop hρ h).does inv)
    | (exact (y_slice hop hρ h).does inv)
    | (exact (y_fieldAddr hop hρ h).does inv)
    | (exact (y_field hop hρ h).does inv)
    | (exact (y_indexAddr hop hρ h).does inv)
    | (exact (y_index hop hρ h).does inv)
    | (exact (y_extract hop hρ h).does inv)
    | (exact (y_typeAssert hop hρ h).does inv)
    | (exact (y_load hop hρ himm h).does inv)
    | skip
  · rename_i fn a b
    cases fn <;> first
      | (exact (y_makeFunc hop hρ h).does inv)
      | (simp [Ctx.pure] at h; done)
  · rename_i cl
    obtain ⟨callee, args, ts⟩ := cl
    cases callee <;> first
      | (simp [Ctx.pure] at h; done)
      | skip
    rename_i bi
    cases bi <;> first
      | (exact (y_len hop hρ h).does inv)
      | (exact (y_min hop hρ h).does inv)
      | (exact (y_max hop hρ h).does inv)
      | (simp [Ctx.pure] at h; done)
end
end Go.Ab
