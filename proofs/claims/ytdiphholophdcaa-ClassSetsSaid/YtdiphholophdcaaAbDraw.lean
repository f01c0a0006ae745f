import Derived.Test.YtdiphholophdcaaAbCall2
set_option linter.unusedVariables false
set_option linter.unusedSimpArgs false
/- NEW VARIABLES THAT ARE LAID AHEAD. -/
namespace Go.Ab
open Go.RowKit

section
variable {c : Ctx} {B : Bd} {w0 : World} {G : Gh} {S : St} {w : World}

theorem φ_none {φ : List (Option Nat)} {b d : Nat} (h : (φ ++ [none])[b]? = some (some d)) : φ[b]? = some (some d) := by
  rcases φ_snoc h with h | ⟨_, h⟩
  · exact h
  · cases h

/-- a block that is not yet there -/
theorem Inv.pend (inv : Inv c B w0 G S w) (cells : List SV) (hlow : ∀ x ∈ cells, x.1.low (S.H.length + 1) = true) (htag : ∀ x ∈ cells, x.2.low S.T.length = true) :
    Inv c B w0 { G with φ := G.φ ++ [none] } ⟨S.H ++ [cells], S.T⟩ w ∧ Grows G S.T { G with φ := G.φ ++ [none] } S.T := by
  have mono : Mono G { G with φ := G.φ ++ [none] } := by
    refine ⟨fun b e h => ?_, fun _ _ _ h => h⟩
    show (G.φ ++ [none])[b]? = _
    rw [List.getElem?_append_left (φ_some h)]; exact h
  refine ⟨{
    below := inv.below
    base := inv.base
    iD := inv.iD
    lenφ := by simp [inv.lenφ]
    lenO := inv.lenO
    inj := fun i j d hi hj => inv.inj i j d (φ_none hi) (φ_none hj)
    low := fun b cs hb => by
      simp only at hb
      rcases Nat.lt_trichotomy b S.H.length with hl' | hl' | hl'
      · rw [List.getElem?_append_left hl'] at hb; exact inv.low b cs hb
      · subst hl'; simp at hb; subst hb; exact hlow
      · rw [List.getElem?_append_right (by omega), List.getElem?_eq_none (by simp; omega)] at hb; cases hb
    tag := fun b cs hb => by
      simp only at hb
      rcases Nat.lt_trichotomy b S.H.length with hl' | hl' | hl'
      · rw [List.getElem?_append_left hl'] at hb; exact inv.tag b cs hb
      · subst hl'; simp at hb; subst hb; exact htag
      · rw [List.getElem?_append_right (by omega), List.getElem?_eq_none (by simp; omega)] at hb; cases hb
    blk := fun b d cs hb hφ => by
      have h := φ_none hφ
      have hlt := inv.φ_lt h
      have hb' : S.H[b]? = some cs := by
        simp only at hb
        rw [List.getElem?_append_left hlt.2] at hb
        exact hb
      obtain ⟨h1, us, u, fr, h2, h3, h4, h5⟩ := inv.blk b d cs hb' h
      exact ⟨h1, us, u, fr, h2, h3, h4, fun i hi hi' => (h5 i hi hi').grow mono rfl⟩
    imm := fun d o v h => ⟨(inv.imm d o v h).1, fun b hb => (inv.imm d o v h).2 b (φ_none hb)⟩
    own := fun id ow h => by
      obtain ⟨h1, h2, h3⟩ := inv.own id ow h
      refine ⟨h1, h2, fun hlt => ?_⟩
      obtain ⟨d, o, k1, k2, k3, rest⟩ := h3 hlt
      exact ⟨d, o, k1, k2, fun b hb => k3 b (φ_none hb), rest⟩
    dis := inv.dis
    glob := fun g cs h => ⟨(inv.glob g cs h).1.mono mono, (inv.glob g cs h).2⟩ },
    ⟨mono, fun b hb => by show (G.φ ++ [none])[b]? = _; rw [List.getElem?_append_left hb], fun _ k h => ⟨k, h, Nat.le_refl k, fun _ => rfl⟩⟩⟩

theorem φ_set {φ : List (Option Nat)} {b b' d d' : Nat} (h : (φ.set b (some d))[b']? = some (some d')) : (b' = b ∧ d' = d) ∨ (b' ≠ b ∧ φ[b']? = some (some d')) := by
  by_cases e : b = b'
  · subst e
    rcases Nat.lt_or_ge b φ.length with hl | hl
    · simp [hl] at h; exact .inl ⟨rfl, h.symm⟩
    · rw [List.getElem?_eq_none (by simpa using hl)] at h; cases h
  · rw [List.getElem?_set_ne e] at h; exact .inr ⟨fun h => e h.symm, h⟩

/-- the block comes to be -/
theorem Inv.activate (inv : Inv c B w0 G S w) {b : Nat} {cells : List SV} (hb : S.H[b]? = some cells) (hφ : G.φ[b]? = some none) (vs : Array Value) (t : TypeId) (hl : cells.length ≤ vs.size)
    (hr : ∀ i (h : i < cells.length) (h' : i < vs.size), RS G S.T cells[i] vs[i]) :
    Inv c B w0 { G with φ := G.φ.set b (some w.heap.size) } S (w.alloc (.cells vs t)) ∧ Mono G { G with φ := G.φ.set b (some w.heap.size) } := by
  have mono : Mono G { G with φ := G.φ.set b (some w.heap.size) } := by
    refine ⟨fun b' e h => ?_, fun _ _ _ h => h⟩
    show (G.φ.set b _)[b']? = _
    have hne : b ≠ b' := fun e => by subst e; rw [hφ] at h; cases h
    rw [List.getElem?_set_ne hne]; exact h
  refine ⟨{
    below := inv.below.alloc inv.base _
    base := fun d hd => inv.base d (by rw [size_alloc] at hd; omega)
    iD := inv.iD
    lenφ := by simp [inv.lenφ]
    lenO := inv.lenO
    inj := fun i j d hi hj => by
      rcases φ_set hi with ⟨h1, h2⟩ | ⟨h1, h2⟩ <;> rcases φ_set hj with ⟨k1, k2⟩ | ⟨k1, k2⟩
      · omega
      · have := (inv.φ_lt k2).1; omega
      · have := (inv.φ_lt h2).1; omega
      · exact inv.inj i j d h2 k2
    low := inv.low
    tag := inv.tag
    blk := fun b' d cs hb' hφ' => by
      rcases φ_set hφ' with ⟨rfl, rfl⟩ | ⟨h1, h2⟩
      · rw [hb] at hb'
        cases hb'
        exact ⟨inv.base _ (Nat.le_refl _), vs, t, (0, 0), heap_alloc_new, hl, fun o _ h => by simp at h, fun i hi hi' => (hr i hi hi').grow mono rfl⟩
      · obtain ⟨h1, us, u, fr, h2', h3, h4, h5⟩ := inv.blk b' d cs hb' h2
        exact ⟨h1, us, u, fr, by rw [heap_alloc_lt (lt_of_heap h2')]; exact h2', h3, h4, fun i hi hi' => (h5 i hi hi').grow mono rfl⟩
    imm := fun d o v h => by
      obtain ⟨h1, h2⟩ := inv.imm d o v h
      refine ⟨by rw [cell_alloc_lt (lt_of_cell h1)]; exact h1, fun b' hb' => ?_⟩
      rcases φ_set hb' with ⟨_, h4⟩ | ⟨_, h3⟩
      · subst h4; exact absurd (lt_of_cell h1) (by omega)
      · exact h2 b' h3
    own := fun id ow h => by
      obtain ⟨h1, h2, h3⟩ := inv.own id ow h
      refine ⟨h1, h2, fun hlt => ?_⟩
      obtain ⟨d, o, k1, k2, k3, us, u, fr, k4, k5, k6⟩ := h3 hlt
      have := lt_of_heap k4
      refine ⟨d, o, k1, k2, fun b' hb' => ?_, us, u, fr, by rw [heap_alloc_lt this]; exact k4, k5, k6⟩
      rcases φ_set hb' with ⟨_, h4⟩ | ⟨_, h3⟩
      · subst h4; omega
      · exact k3 b' h3
    dis := inv.dis
    glob := fun g cs h => ⟨(inv.glob g cs h).1.mono mono, (inv.glob g cs h).2⟩ }, mono⟩

theorem RSs.later {G' : Gh} {T T' : List Nat} (l : Later G T G' T') {cs : List SV} {vs : Array Value} (h : RSs G T cs vs) : RSs G' T' cs vs := ⟨h.1, fun i a b => (h.2 i a b).later l⟩

/-- how many of these are new variables -/
def nAl (P : Program) (l : List Oper) : Nat := l.countP (allocs P)

theorem allocs_op {P : Program} {o : Oper} (h : allocs P o = true) : ∃ t, o.op = .alloc t ∧ o.guard = none ∧ hasZero P t = true := by
  unfold allocs at h
  split at h
  · rename_i t h1 h2; exact ⟨t, h1, h2, h⟩
  · cases h

/-- what is known of the variables laid ahead -/
theorem prealloc_sound {e : Env0} (he : e.c = c) : ∀ (l : List Oper) (G : Gh) (S : St), Inv c B w0 G S w → ∃ G', Inv c B w0 G' (e.prealloc l S) w ∧ Grows G S.T G' (e.prealloc l S).T ∧ G'.φ = G.φ ++ List.replicate (nAl c.P l) none ∧
    (∀ b, b < S.H.length → (e.prealloc l S).H[b]? = S.H[b]?) ∧
    ∀ (i : Nat) (o : Oper) (t : TypeId), l[i]? = some o → allocs c.P o = true → o.op = .alloc t → ∃ cells z, (e.prealloc l S).H[S.H.length + nAl c.P (l.take i)]? = some cells ∧ (∀ w' : World, (zeroValue t).run c.P w' = .ok z w') ∧
      RSs G' (e.prealloc l S).T cells z.cells := by
  subst he
  intro l
  induction l with
  | nil =>
    intro G S inv
    exact ⟨G, inv, .refl _ _, by simp [nAl], fun _ _ => rfl, fun i o t h => by simp at h⟩
  | cons o r ih =>
    intro G S inv
    by_cases ha : allocs e.c.P o = true
    · obtain ⟨t, hop, hg, hz⟩ := allocs_op ha
      obtain ⟨i0, z, hi, hz'⟩ := of_hasZero hz
      have hzero : ∀ w' : World, (zeroValue t).run e.c.P w' = .ok z w' := fun w' => by simp [zeroValue, typeInfo, hi, hz']
      have hrs0 := zero_sound (G := G) (T := S.T) hi hz'
      obtain ⟨m, h0, h1, h2, h3⟩ := newCells_spec inv (e.pre t) (tzs e.c.P t) z.cells.toList [] (by simp) (by simpa using hrs0.1) (fun i a b => by simpa using hrs0.2 i a (by simpa using b))
      simp only [List.length_nil, Nat.add_zero, List.nil_append] at h1 h2 h3
      obtain ⟨i1, g1⟩ := inv.toks m h0
      have hrs : RSs { G with own := G.own ++ m } (S.T ++ m.map Own.len) (newCells (e.pre t) (tzs e.c.P t) S.T.length).1 z.cells := by
        refine ⟨by rw [h2]; simp, fun i a b => ?_⟩
        have := h3 i a (by simpa using b)
        rw [Array.getElem_toList] at this
        exact this
      have hfl := newCells_flat (e.pre t) (tzs e.c.P t) S.T.length (fun x hx => by obtain ⟨q, _, hq⟩ := List.mem_map.1 hx; rw [← hq]; exact tagZ_flat q)
      obtain ⟨i2, g2⟩ := i1.pend (newCells (e.pre t) (tzs e.c.P t) S.T.length).1 (fun x hx => by
        obtain ⟨j, hj, rfl⟩ := List.getElem_of_mem hx
        have := R.low (hrs.2 j hj (by rw [← hrs.1]; exact hj)).1
        have hl : G.φ.length = S.H.length := inv.lenφ
        rw [show ({ G with own := G.own ++ m } : Gh).φ.length = S.H.length from hl] at this
        exact AV.low_mono (Nat.le_succ _) this) (fun x hx => by
        obtain ⟨j, hj, rfl⟩ := List.getElem_of_mem hx
        exact (hrs.2 j hj (by rw [← hrs.1]; exact hj)).tagLow (hfl _ hx))
      have he : e.prealloc (o :: r) S = e.prealloc r ⟨S.H ++ [(newCells (e.pre t) (tzs e.c.P t) S.T.length).1], S.T ++ m.map Own.len⟩ := by
        simp only [Env0.prealloc, ha, if_true, hop, Env0.zeroVar, h1]
      rw [he]
      obtain ⟨G', j1, j2, j3, j4, j5⟩ := ih _ _ i2
      refine ⟨G', j1, (g1.trans g2).trans j2, ?_, fun b hb => ?_, fun i o' t' hi' ha' hop' => ?_⟩
      · rw [j3]
        simp [nAl, ha, List.replicate_succ]
      · rw [j4 b (by simp; omega)]
        exact List.getElem?_append_left hb
      · cases i with
        | zero =>
          simp at hi'
          subst hi'
          rw [hop] at hop'
          cases hop'
          refine ⟨(newCells (e.pre t) (tzs e.c.P t) S.T.length).1, z, ?_, hzero, hrs.later (g2.trans j2).later⟩
          simp only [List.take_zero, nAl, List.countP_nil, Nat.add_zero]
          rw [j4 S.H.length (by simp)]
          simp
        | succ i =>
          obtain ⟨cells, z', k1, k2, k3⟩ := j5 i o' t' (by simpa using hi') ha' hop'
          refine ⟨cells, z', ?_, k2, k3⟩
          simp only [List.length_append, List.length_singleton] at k1
          simp only [List.take_succ_cons, nAl, List.countP_cons, ha, if_true] at k1 ⊢
          rw [show S.H.length + (List.countP (allocs e.c.P) (List.take i r) + 1) = S.H.length + 1 + List.countP (allocs e.c.P) (List.take i r) by omega]
          exact k1
    · have he : e.prealloc (o :: r) S = e.prealloc r S := by simp [Env0.prealloc, ha]
      rw [he]
      obtain ⟨G', j1, j2, j3, j4, j5⟩ := ih _ _ inv
      refine ⟨G', j1, j2, ?_, j4, fun i o' t' hi' ha' hop' => ?_⟩
      · rw [j3]; simp [nAl, ha]
      · cases i with
        | zero => simp at hi'; subst hi'; exact absurd ha' ha
        | succ i =>
          obtain ⟨cells, z', k1, k2, k3⟩ := j5 i o' t' (by simpa using hi') ha' hop'
          refine ⟨cells, z', ?_, k2, k3⟩
          simpa [nAl, List.countP_cons, ha] using k1
end
end Go.Ab
