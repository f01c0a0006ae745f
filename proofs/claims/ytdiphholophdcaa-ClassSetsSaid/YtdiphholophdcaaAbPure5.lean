import Derived.Test.YtdiphholophdcaaAbPure4
set_option linter.unusedVariables false
set_option linter.unusedSimpArgs false
namespace Go.Ab
section
variable {c : Ctx} {G : Gh} {T : List Nat} {w : World} {ρ : Operand → SV} {σ : Operand → Value}

/-- an operation that yields a value and leaves the world -/
def Yields (c : Ctx) (G : Gh) (T : List Nat) (w : World) (σ : Operand → Value) (o : Oper) (x : SV) : Prop :=
  ∃ v, (execOp σ o).run c.P w = .ok (.value v) w ∧ RS G T x v

theorem Yields.of_sem {o : Oper} {x : SV} {s : Sem Value} (h : execOp σ o = (do pure (.value (← s)))) (hs : ∃ v, s.run c.P w = .ok v w ∧ RS G T x v) : Yields c G T w σ o x := by
  obtain ⟨v, h1, h2⟩ := hs
  exact ⟨v, by rw [h]; simp [h1], h2⟩

theorem info_of_tsz {e : TypeId} (he : 1 ≤ tsz c.P e) : ∃ d, c.P.info? e = some d ∧ tsz c.P e = d.size := by
  cases hd : c.P.info? e with
  | none => simp [tsz, hd] at he
  | some d => exact ⟨d, rfl, by simp [tsz, hd]⟩

theorem y_fieldAddr {o : Oper} {t : TypeId} {a : Operand} {f : Nat} {x : SV} (hop : o.op = .fieldAddr t a f) (hρ : ∀ x, RS G T (ρ x) (σ x)) (h : c.pure (.fieldAddr t a f) ρ = some x) : Yields c G T w σ o x := by
  refine .of_sem (s := Instr.fieldAt t (σ a) f) (by simp only [execOp, hop]) ?_
  simp only [Ctx.pure] at h
  split at h <;> first | (cases h; done) | skip
  rename_i fs hk
  obtain ⟨gs, hu, rfl⟩ := tk_struct hk
  split at h <;> first | (cases h; done) | skip
  rename_i off ty hf
  simp only [List.getElem?_map, Option.map_eq_some_iff] at hf
  obtain ⟨g, hg, hge⟩ := hf
  cases hge
  split at h
  · cases h
  rename_i hne
  obtain ⟨i, hi⟩ : ∃ i, c.P.info? g.type = some i := by
    cases hi : c.P.info? g.type with
    | none => simp [tsz, hi] at hne
    | some i => exact ⟨i, rfl⟩
  have hsz : i.size ≠ 0 := by simpa [tsz, hi] using hne
  have hr := (hρ a).1
  have hgs : gs[f]? = some g := by simpa using hg
  have run : ∀ ad : Addr, (Instr.fieldAt t (.pointer (some ad)) f).run c.P w = .ok (.pointer (some (ad.add g.offset))) w := by
    intro ad
    simp [Instr.fieldAt, run_underlying c.P w hu, hgs, Instr.sureAddr, fieldPlace, run_sizeOf c.P w hi, hsz]
  generalize ρ a = y at *
  obtain ⟨y, tg⟩ := y
  split at h <;> first | (cases h; done) | skip
  · rename_i b oo hy
    simp only at hy hr
    subst hy
    cases h
    generalize hv : σ a = v at hr
    cases hr with
    | ptr _ _ cc hφ =>
      refine ⟨_, run _, ?_⟩
      have : (⟨cc, oo, none⟩ : Addr).add g.offset = ⟨cc, oo + g.offset, none⟩ := by unfold Addr.add; split <;> simp_all
      rw [this]
      exact RS.ptrTag (Tag.ptrTag_cases _) (.ptr _ _ _ hφ)
  · rename_i cs hy
    simp only at hy hr
    subst hy
    cases h
    generalize hv : σ a = v at hr
    cases hr with
    | iptr _ cc oo ff hI hR =>
      refine ⟨_, run _, ?_⟩
      have : (⟨cc, oo, none⟩ : Addr).add g.offset = ⟨cc, oo + g.offset, none⟩ := by unfold Addr.add; split <;> simp_all
      rw [this]
      refine RS.ptrTag (Tag.ptrTag_cases _) (.iptr _ _ _ (fun i => ff (g.offset + i)) (fun i hi => ?_) (fun i hi => ?_))
      · rw [Nat.add_assoc]; exact hI _ (by simp at hi; omega)
      · have h2 := hR (g.offset + i) (by simp at hi; omega)
        simpa using h2

theorem y_field {o : Oper} {t : TypeId} {a : Operand} {f : Nat} {x : SV} (hop : o.op = .field t a f) (hρ : ∀ x, RS G T (ρ x) (σ x)) (h : c.pure (.field t a f) ρ = some x) : Yields c G T w σ o x := by
  refine .of_sem (s := Instr.field t (σ a) f) (by simp only [execOp, hop]) ?_
  simp only [Ctx.pure] at h
  split at h <;> first | (cases h; done) | skip
  rename_i fs hk
  obtain ⟨gs, hu, rfl⟩ := tk_struct hk
  split at h <;> first | (cases h; done) | skip
  rename_i off ty cs hf hy
  simp only [List.getElem?_map, Option.map_eq_some_iff] at hf
  obtain ⟨g, hg, hge⟩ := hf
  cases hge
  have hgs : gs[f]? = some g := by simpa using hg
  have hs := expand_sound (hρ a) (by rw [hy]; rfl)
  have hr := (hρ a).1
  rw [hy] at hr
  generalize hv : σ a = v at *
  cases hr with
  | agg _ vs hl hR =>
    obtain ⟨v, h1, h2⟩ := part_sound (w := w) (vs := vs) (by rw [hs.1]; exact Nat.le_refl _) hs.2 h
    exact ⟨v, by simp [Instr.field, run_underlying c.P w hu, hgs, asAgg, h1], h2⟩

theorem y_index {o : Oper} {t : TypeId} {a i : Operand} {x : SV} (hop : o.op = .index t a i) (hρ : ∀ x, RS G T (ρ x) (σ x)) (h : c.pure (.index t a i) ρ = some x) : Yields c G T w σ o x := by
  refine .of_sem (s := Instr.index t (σ a) (σ i)) (by simp only [execOp, hop]) ?_
  simp only [Ctx.pure] at h
  split at h <;> first | (cases h; done) | skip
  rename_i k n hi
  have hri := (hρ i).1
  rw [hi] at hri
  generalize hiv : σ i = vi at *
  cases hri
  split at h <;> first | (cases h; done) | skip
  · rename_i m e cs hk hy
    have hu := tk_array hk
    obtain ⟨hn, h⟩ := Option.ite_none_right_eq_some.1 h
    have hs := expand_sound (hρ a) (by rw [hy]; rfl)
    have hr := (hρ a).1
    rw [hy] at hr
    generalize hv : σ a = v at *
    cases hr with
    | agg _ vs hl hR =>
      obtain ⟨d, hd⟩ : ∃ ii, c.P.info? e = some ii := by
        unfold Ctx.part at h
        cases hke : tk c.P e with
        | other => simp [hke] at h
        | _ => obtain ⟨d, hd⟩ := underlying_of_tk hke (by simp); exact info_of_underlying hd
      have hsz : tsz c.P e = d.size := by simp [tsz, hd]
      obtain ⟨v, h1, h2⟩ := part_sound (w := w) (vs := vs) (by rw [hs.1]; exact Nat.le_refl _) hs.2 h
      refine ⟨v, ?_, h2⟩
      rw [hsz] at h1
      simp [Instr.index, asIntOf, run_underlying c.P w hu, hn, run_sizeOf c.P w hd, h1]
  · rename_i s hk hy
    have hu := tk_string hk
    obtain ⟨hn, h⟩ := Option.ite_none_right_eq_some.1 h
    simp only [Option.map_eq_some_iff] at h
    obtain ⟨b, hb, rfl⟩ := h
    have hr := (hρ a).1
    rw [hy] at hr
    generalize hv : σ a = v at *
    cases hr with
    | str =>
      refine ⟨.int .u8 b.toNat, ?_, RS.no (.int _ _)⟩
      have : (⟨⟨s⟩⟩ : ByteArray)[n.toNat]? = some b := by
        obtain ⟨hlt, rfl⟩ := List.getElem?_eq_some_iff.1 hb
        have : n.toNat < (⟨⟨s⟩⟩ : ByteArray).size := hlt
        rw [getElem?_pos (⟨⟨s⟩⟩ : ByteArray) n.toNat this]
        rfl
      simp [Instr.index, asIntOf, run_underlying c.P w hu, hn, this]

theorem y_indexAddr {o : Oper} {t : TypeId} {a i : Operand} {x : SV} (hop : o.op = .indexAddr t a i) (hρ : ∀ x, RS G T (ρ x) (σ x)) (h : c.pure (.indexAddr t a i) ρ = some x) : Yields c G T w σ o x := by
  refine .of_sem (s := Instr.indexAt t (σ a) (σ i)) (by simp only [execOp, hop]) ?_
  simp only [Ctx.pure] at h
  split at h <;> first | (cases h; done) | skip
  rename_i k n hi
  have hri := (hρ i).1
  rw [hi] at hri
  generalize hiv : σ i = vi at *
  cases hri
  have hr := (hρ a).1
  have info : ∀ e, 1 ≤ tsz c.P e → ∃ d, c.P.info? e = some d ∧ tsz c.P e = d.size := by
    intro e he
    cases hd : c.P.info? e with
    | none => simp [tsz, hd] at he
    | some d => exact ⟨d, rfl, by simp [tsz, hd]⟩
  split at h <;> first | (cases h; done) | skip
  · rename_i e xs hk hy
    have hu := tk_slice hk
    rw [hy] at hr
    obtain ⟨⟨h0, hn, h1⟩, h⟩ := Option.ite_none_right_eq_some.1 h
    simp only [Option.bind_eq_some_iff] at h
    obtain ⟨v, hv, h⟩ := h
    obtain ⟨hx0, h⟩ := Option.ite_none_right_eq_some.1 h
    cases h
    obtain ⟨hlt, rfl⟩ := List.getElem?_eq_some_iff.1 hv
    obtain ⟨d, hd, hds⟩ := info e h1
    generalize hav : σ a = av at *
    cases hr with
    | nils => simp at hlt
    | sl sz0 _ cc oo cap f hs hc hI hR h1c =>
      generalize hz : tsz c.P e = sz at *
      obtain rfl : sz0 = sz := by rw [← hs _ (List.getElem_mem hlt), hx0]
      refine ⟨.pointer (some ((⟨cc, oo, none⟩ : Addr).add (n.toNat * d.size))), ?_, ?_⟩
      · have : 0 ≤ n ∧ n < (xs.length : Int) := ⟨h0, hn⟩
        simp [Instr.indexAt, asIntOf, run_underlying c.P w hu, this, run_sizeOf c.P w hd]
      · have : (⟨cc, oo, none⟩ : Addr).add (n.toNat * d.size) = ⟨cc, oo + n.toNat * d.size, none⟩ := by unfold Addr.add; split <;> simp_all
        rw [this, ← hds]
        have hx := hx0
        have hfl := fl_length hs
        have hb : n.toNat * sz0 + sz0 ≤ (fl xs).length := by
          rw [hfl, ← Nat.succ_mul]; exact Nat.mul_le_mul_right _ hlt
        refine RS.no (.iptr _ _ _ (fun j => f (n.toNat * sz0 + j)) (fun j hj => ?_) (fun j hj => ?_))
        · rw [Nat.add_assoc]; exact hI _ (by omega)
        · have hj' : j < sz0 := by omega
          have h2 := hR (n.toNat * sz0 + j) (by omega)
          have e2 : (fl xs)[n.toNat * sz0 + j]'(by omega) = xs[n.toNat].cells[j] := by
            have h3 : fl (xs.drop n.toNat) = (fl xs).drop (n.toNat * sz0) := fl_drop hs _
            rw [List.drop_eq_getElem_cons hlt, fl_cons] at h3
            have h4 : ((fl xs).drop (n.toNat * sz0))[j]? = (xs[n.toNat].cells ++ fl (xs.drop (n.toNat + 1)))[j]? := by rw [h3]
            rw [List.getElem?_drop, List.getElem?_append_left hj, List.getElem?_eq_getElem (by omega), List.getElem?_eq_getElem hj] at h4
            exact Option.some.inj h4
          rw [e2] at h2; exact h2
  · rename_i e b oo m hk hy
    have hu := tk_slice hk
    rw [hy] at hr
    obtain ⟨⟨h0, hn, h1⟩, h⟩ := Option.ite_none_right_eq_some.1 h
    cases h
    obtain ⟨d, hd, hds⟩ := info e h1
    generalize hav : σ a = av at *
    cases hr with
    | slr _ _ _ cc cap hφ hc =>
      refine ⟨.pointer (some ((⟨cc, oo, none⟩ : Addr).add (n.toNat * d.size))), ?_, ?_⟩
      · have : 0 ≤ n ∧ n < (m : Int) := ⟨h0, hn⟩
        simp [Instr.indexAt, asIntOf, run_underlying c.P w hu, this, run_sizeOf c.P w hd]
      · have : (⟨cc, oo, none⟩ : Addr).add (n.toNat * d.size) = ⟨cc, oo + n.toNat * d.size, none⟩ := by unfold Addr.add; split <;> simp_all
        rw [this, ← hds]
        exact RS.ptrTag (.inr (.inr rfl)) (.ptr _ _ _ hφ)
  · rename_i m e b oo hk hy
    have hu := tk_array hk
    rw [hy] at hr
    obtain ⟨⟨h0, hn, h1⟩, h⟩ := Option.ite_none_right_eq_some.1 h
    cases h
    obtain ⟨d, hd, hds⟩ := info e h1
    generalize hav : σ a = av at *
    cases hr with
    | ptr _ _ cc hφ =>
      refine ⟨.pointer (some ((⟨cc, oo, none⟩ : Addr).add (n.toNat * d.size))), ?_, ?_⟩
      · have : 0 ≤ n ∧ n < (m : Int) := ⟨h0, hn⟩
        simp [Instr.indexAt, asIntOf, run_underlying c.P w hu, this, run_sizeOf c.P w hd, Instr.sureAddr]
      · have : (⟨cc, oo, none⟩ : Addr).add (n.toNat * d.size) = ⟨cc, oo + n.toNat * d.size, none⟩ := by unfold Addr.add; split <;> simp_all
        rw [this, ← hds]
        exact RS.ptrTag (symTag_ptr _ _) (.ptr _ _ _ hφ)
  · rename_i m e cs hk hy
    have hu := tk_array hk
    rw [hy] at hr
    obtain ⟨⟨h0, hn, h1⟩, h⟩ := Option.ite_none_right_eq_some.1 h
    cases h
    obtain ⟨d, hd, hds⟩ := info e h1
    generalize hav : σ a = av at *
    cases hr with
    | iptr _ cc oo ff hI hR =>
      refine ⟨.pointer (some ((⟨cc, oo, none⟩ : Addr).add (n.toNat * d.size))), ?_, ?_⟩
      · have : 0 ≤ n ∧ n < (m : Int) := ⟨h0, hn⟩
        simp [Instr.indexAt, asIntOf, run_underlying c.P w hu, this, run_sizeOf c.P w hd, Instr.sureAddr]
      · have : (⟨cc, oo, none⟩ : Addr).add (n.toNat * d.size) = ⟨cc, oo + n.toNat * d.size, none⟩ := by unfold Addr.add; split <;> simp_all
        rw [this, ← hds]
        refine RS.ptrTag (symTag_ptr _ _) (.iptr _ _ _ (fun i => ff (n.toNat * tsz c.P e + i)) (fun i hi => ?_) (fun i hi => ?_))
        · rw [Nat.add_assoc]; exact hI _ (by simp at hi; omega)
        · have h2 := hR (n.toNat * tsz c.P e + i) (by simp at hi; omega)
          simpa using h2

theorem y_slice {o : Oper} {t : TypeId} {a : Operand} {lo hi mx : Option Operand} {x : SV} (hop : o.op = .slice t a lo hi mx) (hρ : ∀ x, RS G T (ρ x) (σ x)) (h : c.pure (.slice t a lo hi mx) ρ = some x) : Yields c G T w σ o x := by
  refine .of_sem (s := Instr.sliceAt t (σ a) (lo.map σ) (hi.map σ) (mx.map σ)) (by simp only [execOp, hop]) ?_
  simp only [Ctx.pure] at h
  have hr := (hρ a).1
  split at h <;> first | (cases h; done) | skip
  · rename_i s hk hy
    have hu := tk_string hk
    rw [hy] at hr
    simp only [Option.map_eq_some_iff] at h
    obtain ⟨⟨l, hh⟩, hb, rfl⟩ := h
    generalize hav : σ a = av at *
    cases hr with
    | str =>
      obtain ⟨h1, h2, h3⟩ := bounds_sound (c := c) (w := w) (cap := s.length) (isSl := false) (Nat.le_refl _) hρ hb
      refine ⟨.string ((⟨⟨s⟩⟩ : ByteArray).extract l hh), ?_, ?_⟩
      · have h1' := h1
        simp only [← size_mk] at h1'
        simp [Instr.sliceAt, Instr.slice, run_underlying c.P w hu, h1']
      · have : (⟨⟨s⟩⟩ : ByteArray).extract l hh = ⟨⟨(s.take hh).drop l⟩⟩ := by
          apply ByteArray.ext
          apply Array.ext'
          rw [ByteArray.data_extract, Array.toList_extract, List.extract_eq_take_drop, List.drop_take]
        rw [this]
        exact RS.no (.str _)
  · rename_i e xs hk hy
    have hu := tk_slice hk
    rw [hy] at hr
    obtain ⟨⟨h1z, hz⟩, h⟩ := Option.ite_none_right_eq_some.1 h
    simp only [Option.map_eq_some_iff] at h
    obtain ⟨⟨l, hh⟩, hb, hx⟩ := h
    obtain ⟨d, hd, hds⟩ := info_of_tsz h1z
    generalize hav : σ a = av at *
    have hr0 := hr
    cases hr with
    | nils =>
      obtain ⟨h1, h2, h3⟩ := bounds_sound (c := c) (w := w) (cap := 0) (isSl := true) (Nat.le_refl _) hρ hb
      subst hx
      obtain rfl : hh = 0 := by simpa using h3
      obtain rfl : l = 0 := by omega
      refine ⟨.slice none 0 0, ?_, RS.no .nils⟩
      simp [Instr.sliceAt, Instr.slice, run_underlying c.P w hu, h1, run_sizeOf c.P w hd]
    | sl sz _ cc oo cap f hs hc hI hR h1c =>
      obtain ⟨h1, h2, h3⟩ := bounds_sound (c := c) (w := w) (cap := cap) (isSl := true) hc hρ hb
      subst hx
      refine ⟨.slice (if cap = l then some ⟨cc, oo, none⟩ else (some (⟨cc, oo, none⟩ : Addr)).map (·.add (l * d.size))) (hh - l) (cap - l), ?_, ?_⟩
      · simp [Instr.sliceAt, Instr.slice, run_underlying c.P w hu, h1, run_sizeOf c.P w hd]
      · refine RS.no ?_
        have hsub := R.sub hr0 hz h2 h3 (cap' := cap - l) (by omega)
        by_cases hcl : cap = l
        · rw [if_pos hcl]
          have he : (xs.take hh).drop l = [] := by simp; omega
          have hz0 : hh - l = 0 := by omega
          rw [he, hz0]
          exact .slEmpty _ _ _
        · rw [if_neg hcl, Option.map_some]
          have : (⟨cc, oo, none⟩ : Addr).add (l * d.size) = ⟨cc, oo + l * tsz c.P e, none⟩ := by
            rw [hds]; unfold Addr.add; split <;> simp_all
          rw [this]; exact hsub
  · rename_i e xs m hk hy
    have hu := tk_slice hk
    rw [hy] at hr
    split at h <;> first | (cases h; done) | skip
    rename_i h' k m0 hm
    split at h <;> first | (cases h; done) | skip
    rename_i k' h0 hh
    obtain ⟨⟨h1z, hm0, hh0⟩, h9⟩ := Option.ite_none_right_eq_some.1 h
    subst hm0
    subst hh0
    cases h9
    obtain ⟨d, hd, hds⟩ := info_of_tsz h1z
    have hrm := (hρ m).1
    have hrh := (hρ h').1
    rw [hm] at hrm
    rw [hh] at hrh
    generalize hmv : σ m = mv at *
    generalize hhv : σ h' = hv at *
    generalize hav : σ a = av at *
    cases hrm; cases hrh
    cases hr with
    | nils =>
      refine ⟨.slice none 0 0, ?_, .nils, ?_, ?_⟩
      · simp [Instr.sliceAt, Instr.slice, Instr.sliceBounds, Instr.sliceBound, asIntOf, run_underlying c.P w hu, hmv, hhv, run_sizeOf c.P w hd]
      · intro b l c h; cases h; rfl
      · trivial
    | sl _ _ cc oo cap f hs hc hI hR h1c =>
      refine ⟨.slice (some ⟨cc, oo, none⟩) 0 0, ?_, .slEmpty _ _ _, ?_, ?_⟩
      · simp [Instr.sliceAt, Instr.slice, Instr.sliceBounds, Instr.sliceBound, asIntOf, run_underlying c.P w hu, hmv, hhv, run_sizeOf c.P w hd]
      · intro b l c h; cases h; rfl
      · trivial
  · rename_i e b oo n hk hy
    have hu := tk_slice hk
    rw [hy] at hr
    obtain ⟨h1z, h⟩ := Option.ite_none_right_eq_some.1 h
    simp only [Option.bind_eq_some_iff] at h
    obtain ⟨⟨l, hh⟩, hb, hx⟩ := h
    obtain ⟨hl0, hx⟩ := Option.ite_none_right_eq_some.1 hx
    cases hx
    obtain ⟨d, hd, hds⟩ := info_of_tsz h1z
    generalize hav : σ a = av at *
    cases hr with
    | slr _ _ _ cc cap hφ hc =>
      obtain ⟨h1, h2, h3⟩ := bounds_sound (c := c) (w := w) (cap := cap) (isSl := true) hc hρ hb
      refine ⟨.slice (if cap = l then some ⟨cc, oo, none⟩ else (some (⟨cc, oo, none⟩ : Addr)).map (·.add (l * d.size))) (hh - l) (cap - l), ?_, ?_⟩
      · simp [Instr.sliceAt, Instr.slice, run_underlying c.P w hu, h1, run_sizeOf c.P w hd]
      · refine RS.no ?_
        have hadd : (⟨cc, oo, none⟩ : Addr).add (l * d.size) = ⟨cc, oo + l * tsz c.P e, none⟩ := by
          rw [hds]; unfold Addr.add; split <;> simp_all
        by_cases hcl : cap = l
        · have : l = 0 := by omega
          subst this
          rw [if_pos hcl]
          simp only [Nat.zero_mul, Nat.add_zero]
          exact .slr _ _ _ _ _ hφ (by omega)
        · rw [if_neg hcl, Option.map_some, hadd]
          exact .slr _ _ _ _ _ hφ (by omega)
  · rename_i n e b oo hk hy
    have hu := tk_array hk
    rw [hy] at hr
    split at h <;> first | (cases h; done) | skip
    obtain ⟨h1z, h⟩ := Option.ite_none_right_eq_some.1 h
    cases h
    obtain ⟨d, hd, hds⟩ := info_of_tsz h1z
    generalize hav : σ a = av at *
    cases hr with
    | ptr _ _ cc hφ =>
      refine ⟨.slice (some ⟨cc, oo, none⟩) n n, ?_, RS.no (.slr _ _ _ _ _ hφ (Nat.le_refl _))⟩
      simp [Instr.sliceAt, Instr.sureAddr, Instr.sliceBounds, run_underlying c.P w hu, run_sizeOf c.P w hd, Addr.add]
end
end Go.Ab
