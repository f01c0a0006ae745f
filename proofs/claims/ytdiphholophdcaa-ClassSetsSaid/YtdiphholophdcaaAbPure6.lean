import Derived.Test.YtdiphholophdcaaAbPure5
set_option linter.unusedVariables false
set_option linter.unusedSimpArgs false
namespace Go.Ab
/-- what 'fill' writes -/
def putRow (cs : Array Value) (off : Nat) (vs : Array Value) : Array Value := vs.zipIdx.foldl (fun cs (c, j) => cs.setIfInBounds (off + j) c) cs
theorem putRow_list (off : Nat) : ∀ (l : List Value) (k : Nat) (cs : Array Value),
    ((l.zipIdx k).foldl (fun cs (c, j) => cs.setIfInBounds (off + j) c) cs).size = cs.size ∧
    ∀ i, ((l.zipIdx k).foldl (fun (cs : Array Value) (p : Value × Nat) => cs.setIfInBounds (off + p.2) p.1) cs)[i]? =
      if off + k ≤ i ∧ i < off + k + l.length ∧ i < cs.size then l[i - (off + k)]? else cs[i]? := by
  intro l
  induction l with
  | nil => intro k cs; simp; intro i h1 h2; omega
  | cons v l ih =>
    intro k cs
    simp only [List.zipIdx_cons, List.foldl_cons]
    obtain ⟨h1, h2⟩ := ih (k + 1) (cs.setIfInBounds (off + k) v)
    refine ⟨by rw [h1]; simp, fun i => ?_⟩
    rw [h2 i]
    simp only [Array.size_setIfInBounds, List.length_cons]
    by_cases h : off + (k + 1) ≤ i ∧ i < off + (k + 1) + l.length ∧ i < cs.size
    · rw [if_pos h, if_pos (by omega), show i - (off + k) = (i - (off + (k + 1))) + 1 by omega]
      simp
    · rw [if_neg h]
      by_cases hi : i = off + k
      · subst hi
        by_cases hs : off + k < cs.size
        · rw [if_pos (by omega)]
          simp [hs]
        · rw [if_neg (by omega)]
          simp [hs]
      · rw [Array.getElem?_setIfInBounds_ne (by omega), if_neg (by omega)]
theorem putRow_size (cs : Array Value) (off : Nat) (vs : Array Value) : (putRow cs off vs).size = cs.size := by
  unfold putRow
  rw [← Array.foldl_toList]
  simpa using (putRow_list off vs.toList 0 cs).1
theorem putRow_get (cs : Array Value) (off : Nat) (vs : Array Value) (i : Nat) :
    (putRow cs off vs)[i]? = if off ≤ i ∧ i < off + vs.size ∧ i < cs.size then vs[i - off]? else cs[i]? := by
  unfold putRow
  rw [← Array.foldl_toList]
  have := (putRow_list off vs.toList 0 cs).2 i
  simpa using this

section
variable {c : Ctx} {G : Gh} {T : List Nat} {w : World} {ρ : Operand → SV} {σ : Operand → Value}

theorem replaceAt_length {α : Type} {l new : List α} {off : Nat} (h : off + new.length ≤ l.length) : (replaceAt l off new).length = l.length := by
  simp [replaceAt]; omega
theorem replaceAt_get {α : Type} {l new : List α} {off : Nat} (h : off + new.length ≤ l.length) (i : Nat) :
    (replaceAt l off new)[i]? = if off ≤ i ∧ i < off + new.length then new[i - off]? else l[i]? := by
  unfold replaceAt
  have ht : (l.take off).length = off := by simp; omega
  by_cases h1 : i < off
  · rw [if_neg (by omega), List.append_assoc, List.getElem?_append_left (by omega), List.getElem?_take, if_pos h1]
  · by_cases h2 : i < off + new.length
    · rw [if_pos (by omega), List.append_assoc, List.getElem?_append_right (by omega), ht, List.getElem?_append_left (by omega)]
    · rw [if_neg (by omega), List.getElem?_append_right (by simp; omega), List.getElem?_drop]
      congr 1
      simp; omega

theorem RSs.put {cs new : List SV} {vs nv : Array Value} {off : Nat} (h : RSs G T cs vs) (hn : RSs G T new nv) (ho : off + new.length ≤ cs.length) :
    RSs G T (replaceAt cs off new) (putRow vs off nv) := by
  refine ⟨by rw [replaceAt_length ho, putRow_size]; exact h.1, fun i hi hi' => ?_⟩
  have e1 := replaceAt_get ho i
  have e2 := putRow_get vs off nv i
  rw [List.getElem?_eq_getElem hi] at e1
  rw [Array.getElem?_eq_getElem hi'] at e2
  have hl := h.1
  have hnl := hn.1
  rw [replaceAt_length ho] at hi
  by_cases hc : off ≤ i ∧ i < off + new.length
  · rw [if_pos hc] at e1
    rw [if_pos (by omega)] at e2
    rw [List.getElem?_eq_getElem (by omega)] at e1
    rw [Array.getElem?_eq_getElem (by omega)] at e2
    rw [Option.some.inj e1, Option.some.inj e2]
    exact hn.2 _ _ _
  · rw [if_neg hc] at e1
    rw [if_neg (by omega)] at e2
    rw [List.getElem?_eq_getElem (by omega)] at e1
    rw [Array.getElem?_eq_getElem (by omega)] at e2
    rw [Option.some.inj e1, Option.some.inj e2]
    exact h.2 _ _ _

theorem fill_sound {place : Nat → Option (Nat × Nat)} : ∀ (parts : List (Nat × Operand)) (cells cells' : List SV) (vs : Array Value), RSs G T cells vs → (∀ x, RS G T (ρ x) (σ x)) →
    fillA place cells (parts.map fun p => (p.1, ρ p.2)) = some cells' → ∃ vs', Instr.fill place vs (parts.map fun p => (p.1, σ p.2)) = some vs' ∧ RSs G T cells' vs' := by
  intro parts
  induction parts with
  | nil => intro cells cells' vs h _ hf; simp [fillA] at hf; subst hf; exact ⟨vs, rfl, h⟩
  | cons p r ih =>
    intro cells cells' vs h hρ hf
    simp only [List.map_cons, fillA] at hf
    cases hp : place p.1 with
    | none => simp [hp] at hf
    | some os =>
      obtain ⟨off, size⟩ := os
      simp only [hp] at hf
      obtain ⟨⟨hk, hs, ho⟩, hf⟩ := Option.ite_none_right_eq_some.1 hf
      have he := expand_sound (hρ p.2) hk
      obtain ⟨vs', h1, h2⟩ := ih _ cells' _ (RSs.put h he (off := off) (by omega)) hρ hf
      refine ⟨vs', ?_, h2⟩
      have hsz : (σ p.2).cells.size = size := by rw [← he.1]; exact hs
      simp only [List.map_cons, Instr.fill, hp]
      rw [if_neg (by simp [hsz]; have := h.1; omega)]
      exact h1

theorem zero_sound {t : TypeId} {i : TypeInfo} {z : Value} (hi : c.P.info? t = some i) (hz : i.zero = some z) : RSs G T (tzs c.P t) z.cells := by
  simp only [tzs, tz, hi, hz]
  refine ⟨by simp, fun j hj hj' => ?_⟩
  simp only [List.getElem_map, Array.getElem_toList]
  exact RS.absS G T _

theorem mapM_places {gs : List Field} {w : World} (h : ∀ g ∈ gs, ∃ d, c.P.info? g.type = some d) :
    (gs.mapM (fun f => do pure (f.offset, ← sizeOf f.type)) : Sem (List (Nat × Nat))).run c.P w = .ok (gs.map fun f => (f.offset, tsz c.P f.type)) w := by
  induction gs with
  | nil => rfl
  | cons g gs ih =>
    obtain ⟨d, hd⟩ := h g (by simp)
    have e : tsz c.P g.type = d.size := by simp [tsz, hd]
    simp only [List.mapM_cons, Sem.run_bind, run_sizeOf c.P w hd, Result.andThen_ok, ih (fun x hx => h x (by simp [hx])), Sem.run_pure, List.map_cons, e]

theorem of_hasZero {P : Program} {t : TypeId} (h : hasZero P t = true) : ∃ i z, P.info? t = some i ∧ i.zero = some z := by
  unfold hasZero at h
  split at h
  · rename_i i hi
    cases hz : i.zero with
    | none => simp [hz] at h
    | some z => exact ⟨i, z, hi, hz⟩
  · cases h
theorem y_build {o : Oper} {t : TypeId} {parts : Array (Nat × Operand)} {x : SV} (hop : o.op = .build t parts) (hρ : ∀ x, RS G T (ρ x) (σ x)) (h : c.pure (.build t parts) ρ = some x) : Yields c G T w σ o x := by
  refine .of_sem (s := Instr.build t (parts.map fun (i, x) => (i, σ x))) (by simp only [execOp, hop]) ?_
  simp only [Ctx.pure] at h
  split at h
  · cases h
  rename_i hhz
  obtain ⟨i, z, hi, hz⟩ := of_hasZero (by simpa using hhz)
  have hzero : (zeroValue t).run c.P w = .ok z w := by simp [zeroValue, typeInfo, hi, hz]
  have hz0 := zero_sound (G := G) (T := T) hi hz
  split at h <;> first | (cases h; done) | skip
  · rename_i fs hk
    obtain ⟨gs, hu, rfl, hn⟩ := names_of_tk hk
    split at h <;> first | (cases h; done) | skip
    rename_i cells hf
    cases h
    obtain ⟨vs', h1, h2⟩ := fill_sound parts.toList _ _ z.cells hz0 hρ hf
    refine ⟨.agg vs', ?_, collect_sound h2⟩
    have hpl := mapM_places (c := c) (w := w) (gs := gs.toList) (fun g hg => (hn g hg).2)
    have e : (fun x : Nat => (gs.toList.map fun f => (f.offset, tsz c.P f.type)).toArray[x]?) = (fun i : Nat => ((gs.toList.map fun f => (f.offset, f.type))[i]?).map fun (f : Nat × TypeId) => (f.1, tsz c.P f.2)) := by
      funext j; simp [Function.comp_def]
    simp only [Instr.build, Sem.run_bind, hzero, Result.andThen_ok, run_underlying c.P w hu, Array.mapM_eq_mapM_toList, Sem.run_map, hpl]
    rw [e]
    simp only [Array.toList_map]
    rw [h1]
    rfl
  · rename_i n e hk
    have hu := tk_array hk
    split at h
    · cases h
    rename_i hni
    obtain ⟨d, hd⟩ : ∃ d, c.P.info? e = some d := by
      cases hd : c.P.info? e with
      | none => simp [hd] at hni
      | some d => exact ⟨d, rfl⟩
    have hds : tsz c.P e = d.size := by simp [tsz, hd]
    split at h <;> first | (cases h; done) | skip
    rename_i cells hf
    cases h
    obtain ⟨vs', h1, h2⟩ := fill_sound parts.toList _ _ z.cells hz0 hρ hf
    refine ⟨.agg vs', ?_, collect_sound h2⟩
    simp only [Instr.build, Sem.run_bind, hzero, Result.andThen_ok, run_underlying c.P w hu, run_sizeOf c.P w hd, Array.toList_map]
    rw [hds] at h1
    rw [h1]
    rfl
end
end Go.Ab
