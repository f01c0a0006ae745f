import Derived.Test.YtdiphholophdcaaAbAct5
set_option linter.unusedVariables false
set_option linter.unusedSimpArgs false
namespace Go.Ab
open Go.RowKit
section
variable {c : Ctx} {B : Bd} {w0 : World} {G : Gh} {S : St} {w : World} {ρ : Operand → SV} {σ : Operand → Value}

theorem fill_row {sz : Nat} : ∀ (xs : List SV) (k : Nat) (cells : List SV), (∀ x ∈ xs, (expand x).length = sz ∧ x.1.known = true) → cells.length = (k + xs.length) * sz →
    fillA (fun i => some (i * sz, sz)) cells ((xs.zipIdx k).map fun p => (p.2, p.1)) = some (cells.take (k * sz) ++ xs.flatMap expand) := by
  intro xs
  induction xs with
  | nil => intro k cells _ hl; simp [fillA]; simp at hl; rw [List.take_of_length_le (by omega)]
  | cons x xs ih =>
    intro k cells hx hl
    obtain ⟨h1, h2⟩ := hx x (by simp)
    simp only [List.length_cons] at hl
    have e1 : (k + (xs.length + 1)) * sz = k * sz + sz + xs.length * sz := by simp [Nat.add_mul]; omega
    simp only [List.zipIdx_cons, List.map_cons, fillA]
    rw [if_pos ⟨h2, h1, by omega⟩, ih (k + 1) _ (fun y hy => hx y (by simp [hy])) (by rw [replaceAt_length (by omega), hl]; congr 1; omega)]
    congr 1
    rw [List.flatMap_cons, ← List.append_assoc]
    congr 1
    unfold replaceAt
    have ht : (cells.take (k * sz)).length = k * sz := by simp; omega
    rw [List.take_append_of_le_length (by simp [h1, Nat.add_mul]; omega), List.take_of_length_le (by simp [h1, Nat.add_mul]; omega)]

theorem expand_fst (x : SV) : (expand x).map (·.1) = x.1.cells := by
  obtain ⟨x, tg⟩ := x
  unfold expand
  split
  · rename_i cs h
    simp only at h
    subst h
    simp only [AV.cells, List.map_map]
    show List.map Prod.fst cs.zipIdx = cs
    exact List.zipIdx_map_fst _ _
  · rename_i v hv
    cases x <;> first | rfl | (exact absurd rfl (hv _))
theorem flatMap_fst (xs : List SV) : (xs.flatMap expand).map (·.1) = fl (xs.map (·.1)) := by
  induction xs with
  | nil => rfl
  | cons x xs ih => rw [List.flatMap_cons, List.map_append, ih, expand_fst, List.map_cons, fl_cons]

theorem d_buildSlice {o : Oper} {t : TypeId} {len : Nat} {parts : Array (Nat × Operand)} {x : SV} (hop : o.op = .buildSlice t len parts) (inv : Inv c B w0 G S w) (hρ : ∀ x, RS G S.T (ρ x) (σ x))
    (h : c.pure (.buildSlice t len parts) ρ = some x) : Does c B w0 G S w σ o x S := by
  simp only [Ctx.pure] at h
  split at h <;> first | (cases h; done) | skip
  rename_i e hk
  obtain ⟨⟨hidx, hlen, h256, h1z, hhz, hall⟩, h⟩ := Option.ite_none_right_eq_some.1 h
  cases h
  obtain ⟨i, z, hi, hz⟩ := of_hasZero hhz
  have hsz : tsz c.P e = i.size := by simp [tsz, hi]
  have hu := tk_slice hk
  rw [List.all_eq_true] at hall
  generalize hxs : parts.toList.map (fun p => ρ p.2) = xs at *
  have hpl : parts.toList.length = len := by
    have := congrArg List.length hidx
    simpa using this
  have hxl : xs.length = len := by rw [← hxs]; simpa using hpl
  have hx : ∀ x ∈ xs, (expand x).length = tsz c.P e ∧ x.1.known = true := by
    intro x hx
    rw [← hxs] at hx
    obtain ⟨p, hp, rfl⟩ := List.mem_map.1 hx
    have h1 := hall p hp
    simp only [Bool.and_eq_true, decide_eq_true_eq] at h1
    refine ⟨by rw [← h1.1, ← expand_fst, List.length_map], ?_⟩
    cases hy : (ρ p.2).1 <;> first | rfl | skip
    rw [hy] at h1
    simp [AV.cells, AV.isCell] at h1
  have hparts : (parts.toList.map fun p => (p.1, ρ p.2)) = (xs.zipIdx 0).map fun p => (p.2, p.1) := by
    apply List.ext_getElem
    · simp [hxl, hpl]
    · intro j h1 h2
      have hj : j < parts.toList.length := by simpa using h1
      have h3 : (parts.toList.map (·.1))[j]'(by simpa using hj) = (List.range len)[j]'(by simp; omega) := by simp only [hidx]
      simp only [List.getElem_map, List.getElem_range] at h3
      simp only [List.getElem_map, List.getElem_zipIdx, Nat.zero_add, h3]
      have : xs[j]'(by omega) = ρ parts.toList[j].2 := by simp only [← hxs, List.getElem_map]
      rw [this]
  have hf := fill_row (sz := tsz c.P e) xs 0 (List.replicate (len * tsz c.P e) (.undef, .no)) hx (by simp [hxl])
  rw [← hparts] at hf
  simp only [Nat.zero_mul, List.take_zero, List.nil_append] at hf
  generalize hinit : (Array.range (len * i.size)).map (fun j => (if len * i.size = 0 then #[] else z.cells)[j % (if len * i.size = 0 then #[] else z.cells).size]!) = init
  have hinitsz : init.size = len * tsz c.P e := by rw [← hinit]; simp [hsz]
  obtain ⟨vs, h1, h2⟩ := fill_sound (G := G) (T := S.T) parts.toList _ _ init ⟨by simp [hinitsz], fun j a b => by simp; exact RS.no (.undef _)⟩ hρ hf
  have hfl : (xs.flatMap expand).length = (fl (xs.map (·.1))).length := by rw [← flatMap_fst, List.length_map]
  have hvs : vs.size = (fl (xs.map (·.1))).length := by rw [← h2.1, hfl]
  have inv' := inv.newRow vs e (fl (xs.map (·.1))).length (fun j => vs.getD j undef) (fun j hj => by
    rw [Array.getD_eq_getD_getElem?, Array.getElem?_eq_getElem (by omega)]; rfl)
  have gr := grows_row inv (fl (xs.map (·.1))).length (fun j => vs.getD j undef)
  have hmap : (parts.toList.map fun p => (ρ p.2).1) = xs.map (·.1) := by rw [← hxs]; simp
  rw [hmap]
  have hget : ∀ j (hj : j < vs.size), vs.getD j undef = vs[j] := fun j hj => by simp [Array.getD, hj]
  have hRj : ∀ j (hj : j < (fl (xs.map (·.1))).length), R G (fl (xs.map (·.1)))[j] (vs.getD j undef) := by
    intro j hj
    rw [hget j (by omega)]
    have h3 := (h2.2 j (by omega) (by omega)).1
    have e3 : (fl (xs.map (·.1)))[j] = ((xs.flatMap expand)[j]'(by omega)).1 := by
      simp only [← flatMap_fst, List.getElem_map]
    rw [e3]; exact h3
  have hcell : ∀ x ∈ fl (xs.map (·.1)), x.isCell = true := by
    intro y hy
    unfold fl at hy
    obtain ⟨a, ha, hya⟩ := List.mem_flatMap.1 hy
    obtain ⟨b, hb, rfl⟩ := List.mem_map.1 ha
    rw [← hxs] at hb
    obtain ⟨p, hp, rfl⟩ := List.mem_map.1 hb
    have h1 := hall p hp
    simp only [Bool.and_eq_true, List.all_eq_true] at h1
    exact h1.2 y hya
  refine ⟨w.alloc (.cells vs e), _, .value (.slice (some ⟨w.heap.size, 0, none⟩) len len), .slice (some ⟨w.heap.size, 0, none⟩) len len, ?_, .inl rfl, inv', gr, ?_, ?_⟩
  · have hle : ¬ (len * i.size > 2 ^ 24) := by
      have := Nat.mul_le_mul hlen (hsz ▸ h256)
      omega
    have hplace : (fun j => some (j * tsz c.P e, tsz c.P e)) = (fun j : Nat => some (j * i.size, i.size)) := by rw [hsz]
    rw [hplace] at h1
    simp only [execOp, hop, Instr.buildSlice, Sem.run_bind, run_underlying c.P w hu, Result.andThen_ok, run_sizeOf c.P w hi, if_neg hle, Sem.run_ite, Array.toList_map]
    by_cases h0 : len * i.size = 0
    · simp only [h0, if_true, Sem.run_pure, Result.andThen_ok] at hinit ⊢
      rw [hinit, h1]
      rfl
    · simp only [h0, if_false, zeroValue, typeInfo, Sem.run_bind, Sem.run_pure, Result.andThen_ok, run_program, hi, hz] at hinit ⊢
      rw [hinit, h1]
      rfl
  · have hl2 : (xs.map (·.1)).length = len := by simp [hxl]
    have : R (G.row w.heap.size (fl (xs.map (·.1))).length (fun j => vs.getD j undef)) (.sl (xs.map (·.1))) (.slice (some ⟨w.heap.size, 0, none⟩) (xs.map (·.1)).length (xs.map (·.1)).length) := by
      refine .sl (tsz c.P e) _ _ _ _ (fun j => vs.getD j undef) (fun y hy => ?_) (Nat.le_refl _) (fun j hj => ?_) (fun j hj => (hRj j hj).mono gr.mono) (fun j hj => oneCell_of (hRj j hj) (hcell _ (List.getElem_mem hj)))
      · obtain ⟨a, ha, rfl⟩ := List.mem_map.1 hy
        rw [← (hx a ha).1, ← expand_fst, List.length_map]
      · simp [Gh.row, hj]
    rw [hl2] at this
    exact this
  · refine ⟨fun b l cc h => by cases h; rfl, ?_⟩
    trivial
end
end Go.Ab
