import Derived.Test.YtdiphholophdcaaAbPure3
set_option linter.unusedVariables false
set_option linter.unusedSimpArgs false
namespace Go.Ab
section
variable {c : Ctx} {G : Gh} {T : List Nat} {w : World} {ρ : Operand → SV} {σ : Operand → Value}

theorem bounds_sound {len cap : Nat} (hl : len ≤ cap) {isSl : Bool} {lo hi : Option Operand} {l h : Nat} (hρ : ∀ x, RS G T (ρ x) (σ x))
    (hb : bounds len (lo.map ρ) (hi.map ρ) = some (l, h)) :
    (Instr.sliceBounds isSl len cap (lo.map σ) (hi.map σ) none).run c.P w = .ok (l, h, cap) w ∧ l ≤ h ∧ h ≤ len := by
  unfold bounds at hb
  simp only [Option.bind_eq_some_iff] at hb
  obtain ⟨h', hh, hl'⟩ := hb
  have hi' : ((hi = none ∧ h' = len) ∨ (∃ o, hi = some o ∧ ∀ code, (Instr.sliceBound (σ o) cap code).run c.P w = .ok h' w)) ∧ h' ≤ len := by
    cases hi with
    | none => simp at hh; subst hh; exact ⟨.inl ⟨rfl, rfl⟩, Nat.le_refl _⟩
    | some o =>
      have hr := (hρ o).1
      simp only [Option.map_some] at hh
      generalize ρ o = x at *
      obtain ⟨x, tg⟩ := x
      cases x <;> first
        | (rename_i k n
           simp only at hh hr
           obtain ⟨hn, hh⟩ := Option.ite_none_right_eq_some.1 hh
           cases hh
           generalize hu : σ o = u at hr
           cases hr
           refine ⟨.inr ⟨o, rfl, fun code => ?_⟩, by omega⟩
           rw [hu]
           have : 0 ≤ n ∧ n ≤ (cap : Int) := by omega
           simp [Instr.sliceBound, asIntOf, this])
        | (cases hh; done)
  obtain ⟨h1, h2⟩ := hi'
  have lo' : ((lo = none ∧ l = 0) ∨ (∃ o, lo = some o ∧ ∀ code, (Instr.sliceBound (σ o) h' code).run c.P w = .ok l w)) ∧ l ≤ h' ∧ h = h' := by
    cases lo with
    | none => simp at hl'; obtain ⟨rfl, rfl⟩ := hl'; exact ⟨.inl ⟨rfl, rfl⟩, Nat.zero_le _, rfl⟩
    | some o =>
      have hr := (hρ o).1
      simp only [Option.map_some] at hl'
      generalize ρ o = x at *
      obtain ⟨x, tg⟩ := x
      cases x <;> first
        | (rename_i k n
           simp only at hl' hr
           obtain ⟨hn, hl'⟩ := Option.ite_none_right_eq_some.1 hl'
           cases hl'
           generalize hu : σ o = u at hr
           cases hr
           refine ⟨.inr ⟨o, rfl, fun code => ?_⟩, by omega, rfl⟩
           rw [hu]
           simp [Instr.sliceBound, asIntOf, hn])
        | (cases hl'; done)
  obtain ⟨l1, l2, l3⟩ := lo'
  subst l3
  refine ⟨?_, l2, h2⟩
  unfold Instr.sliceBounds
  rcases h1 with ⟨rfl, rfl⟩ | ⟨o, rfl, h1⟩ <;> rcases l1 with ⟨rfl, rfl⟩ | ⟨o', rfl, l1⟩ <;>
    simp only [Option.map_none, Option.map_some, Sem.run_bind, Sem.run_pure, Result.andThen_ok, *]

theorem fl_append (a b : List AV) : fl (a ++ b) = fl a ++ fl b := by simp [fl]
theorem fl_cons (a : AV) (b : List AV) : fl (a :: b) = a.cells ++ fl b := by simp [fl]
theorem fl_length {sz : Nat} {xs : List AV} (h : ∀ x ∈ xs, x.cells.length = sz) : (fl xs).length = xs.length * sz := by
  induction xs with
  | nil => simp [fl]
  | cons x xs ih =>
    rw [fl_cons, List.length_append, ih (fun y hy => h y (by simp [hy])), h x (by simp), List.length_cons, Nat.succ_mul, Nat.add_comm]
theorem fl_drop {sz : Nat} {xs : List AV} (h : ∀ x ∈ xs, x.cells.length = sz) (l : Nat) : fl (xs.drop l) = (fl xs).drop (l * sz) := by
  induction l generalizing xs with
  | zero => simp
  | succ l ih =>
    cases xs with
    | nil => simp [fl]
    | cons x xs =>
      have hx := h x (by simp)
      rw [List.drop_succ_cons, ih (fun y hy => h y (by simp [hy])), fl_cons, Nat.succ_mul, Nat.add_comm, ← List.drop_drop, List.drop_left' hx]
theorem fl_take {sz : Nat} {xs : List AV} (h : ∀ x ∈ xs, x.cells.length = sz) (l : Nat) : fl (xs.take l) = (fl xs).take (l * sz) := by
  induction l generalizing xs with
  | zero => simp [fl]
  | succ l ih =>
    cases xs with
    | nil => simp [fl]
    | cons x xs =>
      have hx := h x (by simp)
      have h2 := List.take_length_add_append (l₁ := x.cells) (l₂ := fl xs) (l * sz)
      rw [hx] at h2
      rw [List.take_succ_cons, fl_cons, ih (fun y hy => h y (by simp [hy])), fl_cons, Nat.succ_mul, Nat.add_comm, h2]

theorem szOk_of {xs : List AV} {n sz : Nat} (hs : ∀ x ∈ xs, x.cells.length = sz) (h : szOk xs n = true) : xs = [] ∨ sz = n := by
  cases xs with
  | nil => exact .inl rfl
  | cons x xs =>
    simp only [szOk, beq_iff_eq] at h
    exact .inr (by rw [← hs x (by simp), h])
theorem szOk_all {xs : List AV} {n sz : Nat} (hs : ∀ x ∈ xs, x.cells.length = sz) (h : szOk xs n = true) : ∀ x ∈ xs, x.cells.length = n := by
  rcases szOk_of hs h with rfl | rfl
  · intro x hx; cases hx
  · exact hs
/-- a part of a list lies where the list's cells are -/
theorem R.sub {n : Nat} {xs : List AV} {cc o cap : Nat} {len : Nat} (h : R G (.sl xs) (.slice (some ⟨cc, o, none⟩) len cap)) (hn : szOk xs n = true) {l h' : Nat} (hlh : l ≤ h') (hh : h' ≤ xs.length) {cap' : Nat} (hc : h' - l ≤ cap') :
    R G (.sl ((xs.take h').drop l)) (.slice (some ⟨cc, o + l * n, none⟩) (h' - l) cap') := by
  cases h with
  | sl sz _ _ _ _ f hs hc' hI hr h1c =>
    have hs := szOk_all hs hn
    have hs' : ∀ x ∈ xs.take h', x.cells.length = n := fun x hx => hs x (List.mem_of_mem_take hx)
    have e : fl ((xs.take h').drop l) = ((fl xs).take (h' * n)).drop (l * n) := by rw [fl_drop hs', fl_take hs]
    have hlen : ((xs.take h').drop l).length = h' - l := by simp; omega
    rw [← hlen]
    refine .sl n _ _ _ _ (fun i => f (l * n + i)) (fun x hx => hs' x (List.mem_of_mem_drop hx)) (by omega) (fun i hi => ?_) (fun i hi => ?_) (fun i hi => by
      rw [e] at hi
      simp at hi
      exact h1c _ (by omega))
    · rw [e] at hi
      simp at hi
      rw [Nat.add_assoc]
      exact hI _ (by omega)
    · have hi' := hi
      rw [e] at hi'
      simp at hi'
      have := hr (l * n + i) (by omega)
      have e2 : (fl ((xs.take h').drop l))[i] = (fl xs)[l * n + i]'(by omega) := by
        simp [e]
      rw [e2]; exact this
theorem R.slEmpty (cc oo cap : Nat) : R G (.sl []) (.slice (some ⟨cc, oo, none⟩) 0 cap) := .sl 0 [] cc oo cap (fun _ => Go.undef) (by simp) (by simp) (by simp [fl]) (by simp [fl]) (by simp [fl])
end
end Go.Ab
