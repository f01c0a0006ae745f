import Derived.Test.YtdiphholophdcaaAbPure8
set_option linter.unusedVariables false
set_option linter.unusedSimpArgs false
/- WHAT STAYS TRUE WHEN MEMORY IS MADE OR WRITTEN. -/
namespace Go.Ab
open Go.RowKit

mutual
theorem AV.low_mono {n m : Nat} (h : n ≤ m) : ∀ {x : AV}, x.low n = true → x.low m = true
  | .ptr b o, hx => by simp [AV.low] at hx ⊢; omega
  | .slr b o k, hx => by simp [AV.low] at hx ⊢; omega
  | .iptr cs, hx => AV.lows_mono h (by simpa [AV.low] using hx) |> (by simpa [AV.low] using ·)
  | .sl xs, hx => AV.lows_mono h (by simpa [AV.low] using hx) |> (by simpa [AV.low] using ·)
  | .fn f a b, hx => by
    simp only [AV.low, Bool.and_eq_true] at hx ⊢
    exact ⟨AV.lows_mono h hx.1, AV.lows_mono h hx.2⟩
  | .iface t v, hx => by
    simp only [AV.low] at hx ⊢
    exact AV.low_mono h hx
  | .agg cs, hx => by
    simp only [AV.low] at hx ⊢
    exact AV.lows_mono h hx
  | .tup cs, hx => by
    simp only [AV.low] at hx ⊢
    exact AV.lows_mono h hx
  | .undef, _ | .int _ _, _ | .bool _, _ | .str _, _ | .nilptr, _ | .nilfn, _ | .nili, _ => rfl
theorem AV.lows_mono {n m : Nat} (h : n ≤ m) : ∀ {xs : List AV}, AV.lows n xs = true → AV.lows m xs = true
  | [], _ => rfl
  | x :: xs, hx => by
    simp only [AV.lows, Bool.and_eq_true] at hx ⊢
    exact ⟨AV.low_mono h hx.1, AV.lows_mono h hx.2⟩
end
theorem lows_iff {n : Nat} {xs : List AV} : AV.lows n xs = true ↔ ∀ x ∈ xs, x.low n = true := by
  induction xs with
  | nil => simp [AV.lows]
  | cons x xs ih => simp [AV.lows, ih]
theorem cells_low {n : Nat} {x : AV} (h : ∀ y ∈ x.cells, y.low n = true) : x.low n = true := by
  cases x with
  | agg cs => simp only [AV.low, lows_iff]; exact h
  | _ => exact h _ (by simp [AV.cells])
theorem φ_some {φ : List (Option Nat)} {b d : Nat} (h : φ[b]? = some (some d)) : b < φ.length := by
  rcases Nat.lt_or_ge b φ.length with hl | hl
  · exact hl
  · rw [List.getElem?_eq_none hl] at h; cases h
/-- what stands for a value names only blocks that are there -/
theorem R.low {G : Gh} {x : AV} {v : Value} (h : R G x v) : x.low G.φ.length = true := by
  induction h with
  | ptr b o c h => simp [AV.low, φ_some h]
  | slr b o n c cap h hc => simp [AV.low, φ_some h]
  | iptr cs c o f h _ ih =>
    simp only [AV.low, lows_iff]
    intro x hx
    obtain ⟨j, hj, rfl⟩ := List.getElem_of_mem hx
    exact ih j hj
  | sl sz xs c o cap f hs hc h _ h1 ih =>
    simp only [AV.low, lows_iff]
    intro x hx
    refine cells_low fun y hy => ?_
    have : y ∈ fl xs := List.mem_flatMap.2 ⟨x, hx, hy⟩
    obtain ⟨j, hj, rfl⟩ := List.getElem_of_mem this
    exact ih j hj
  | fn f a b va vb ha hb _ _ iha ihb =>
    simp only [AV.low, Bool.and_eq_true, lows_iff]
    refine ⟨fun x hx => ?_, fun x hx => ?_⟩
    · obtain ⟨j, hj, rfl⟩ := List.getElem_of_mem hx
      exact iha j hj (by omega)
    · obtain ⟨j, hj, rfl⟩ := List.getElem_of_mem hx
      exact ihb j hj (by omega)
  | iface t x v _ ih => simpa [AV.low] using ih
  | agg cs vs hl _ ih =>
    simp only [AV.low, lows_iff]
    intro x hx
    obtain ⟨j, hj, rfl⟩ := List.getElem_of_mem hx
    exact ih j hj (by omega)
  | tup cs vs hl _ ih =>
    simp only [AV.low, lows_iff]
    intro x hx
    obtain ⟨j, hj, rfl⟩ := List.getElem_of_mem hx
    exact ih j hj (by omega)
  | _ => rfl

theorem lt_of_heap {w : World} {d : Nat} {o : Obj} (h : w.heap[d]? = some o) : d < w.heap.size := by
  rcases Nat.lt_or_ge d w.heap.size with hl | hl
  · exact hl
  · rw [Array.getElem?_eq_none hl] at h; cases h
theorem lt_of_cell {w : World} {d o : Nat} {v : Value} (h : w.cell? ⟨d, o, none⟩ = some v) : d < w.heap.size := by
  unfold World.cell? at h
  split at h
  · rename_i hh; exact lt_of_heap hh
  · cases h
theorem heap_alloc_lt {w : World} {o : Obj} {d : Nat} (h : d < w.heap.size) : (w.alloc o).heap[d]? = w.heap[d]? := by
  show (w.heap.push o)[d]? = _
  rw [Array.getElem?_push, if_neg (by omega)]
theorem heap_alloc_new {w : World} {o : Obj} : (w.alloc o).heap[w.heap.size]? = some o := by
  show (w.heap.push o)[w.heap.size]? = _
  simp
theorem size_alloc {w : World} {o : Obj} : (w.alloc o).heap.size = w.heap.size + 1 := by
  show (w.heap.push o).size = _
  simp
theorem cell_alloc_lt {w : World} {o : Obj} {d i : Nat} (h : d < w.heap.size) : (w.alloc o).cell? ⟨d, i, none⟩ = w.cell? ⟨d, i, none⟩ := by
  simp only [World.cell?, heap_alloc_lt h]
theorem cell_of_heap {w : World} {d o : Nat} {vs : Array Value} {t : TypeId} {fr : Nat × Nat} (h : w.heap[d]? = some (.cells vs t fr)) : w.cell? ⟨d, o, none⟩ = vs[o]? := by
  simp [World.cell?, h]

section
variable {c : Ctx} {B : Bd} {w0 : World} {G : Gh} {S : St} {w : World}

theorem Inv.φ_lt (inv : Inv c B w0 G S w) {b d : Nat} (h : G.φ[b]? = some (some d)) : d < w.heap.size ∧ b < S.H.length := by
  have hb : b < G.φ.length := by
    rcases Nat.lt_or_ge b G.φ.length with hl | hl
    · exact hl
    · rw [List.getElem?_eq_none hl] at h; cases h
  rw [inv.lenφ] at hb
  obtain ⟨_, vs, t, fr, hh, _⟩ := inv.blk b d _ (List.getElem?_eq_getElem hb) h
  exact ⟨lt_of_heap hh, hb⟩

theorem Tag.low1_mono {t : Tag} {m k : Nat} (hk : m ≤ k) (h : t.low1 m = true) : t.low1 k = true := by
  cases t with
  | tok id => simp only [Tag.low1, decide_eq_true_eq] at h ⊢; omega
  | _ => rfl
theorem Tag.low_mono {t : Tag} {m k : Nat} (hk : m ≤ k) (h : t.low m = true) : t.low k = true := by
  cases t with
  | agg ts => simp only [Tag.low, List.all_eq_true] at h ⊢; exact fun x hx => Tag.low1_mono hk (h x hx)
  | tok id => exact Tag.low1_mono (t := .tok id) hk h
  | _ => rfl
theorem RS.tagLow {T : List Nat} {x : SV} {v : Value} (h : RS G T x v) (hf : x.2.flat = x.2) : x.2.low T.length = true := by
  obtain ⟨x, tg⟩ := x
  cases tg with
  | tok id =>
    obtain ⟨⟨n, h1, _⟩, _⟩ := h.2
    rcases Nat.lt_or_ge id T.length with hl | hl
    · simpa [Tag.low, Tag.low1] using hl
    · rw [List.getElem?_eq_none hl] at h1; cases h1
  | agg ts => cases hf
  | _ => rfl
/-- a state's draws don't matter -/
theorem Inv.heapEq (inv : Inv c B w0 G S w) {w' : World} (hh : w'.heap = w.heap) (ho : w'.os = w.os) (ht : w'.tape = w.tape) (hu : w'.output = w.output) : Inv c B w0 G S w' where
  below := ⟨by rw [ho, inv.below.os], by rw [ht, inv.below.tape], by rw [hu, inv.below.output], by rw [hh]; exact inv.below.size, fun k hk => by rw [hh]; exact inv.below.block k hk⟩
  base := by rw [hh]; exact inv.base
  iD := inv.iD
  lenφ := inv.lenφ
  lenO := inv.lenO
  inj := inv.inj
  low := inv.low
  tag := inv.tag
  blk := by rw [hh]; exact inv.blk
  imm := fun d o v h => by
    have := inv.imm d o v h
    simpa only [World.cell?, hh] using this
  own := by rw [hh]; exact inv.own
  dis := inv.dis
  glob := inv.glob
theorem Inv.drew (inv : Inv c B w0 G S w) (n : Nat) : Inv c B w0 G S { w with drawn := n } := inv.heapEq rfl rfl rfl rfl

/-- the ghost with a new row of cells that stay as they are -/
def Gh.row (G : Gh) (d n : Nat) (f : Nat → Value) : Gh := { G with I := fun d' o => if d' = d ∧ o < n then some (f o) else G.I d' o }

theorem mono_row (inv : Inv c B w0 G S w) (n : Nat) (f : Nat → Value) : Mono G (G.row w.heap.size n f) := by
  refine ⟨fun _ _ h => h, fun d o v h => ?_⟩
  have := lt_of_cell (inv.imm d o v h).1
  simp only [Gh.row]
  rw [if_neg (by omega)]
  exact h
theorem grows_row (inv : Inv c B w0 G S w) (n : Nat) (f : Nat → Value) : Grows G S.T (G.row w.heap.size n f) S.T :=
  ⟨mono_row inv n f, fun _ _ => rfl, fun _ k h => ⟨k, h, Nat.le_refl k, fun _ => rfl⟩⟩

theorem RS.grow {G' : Gh} {T : List Nat} {x : SV} {v : Value} (m : Mono G G') (ho : G'.own = G.own) (h : RS G T x v) : RS G' T x v :=
  h.later ⟨m, fun _ n hn => ⟨n, hn, Nat.le_refl n, fun _ => by rw [ho]⟩⟩

/-- A NEW ROW, the first n cells of which stay as they are. -/
theorem Inv.newRow (inv : Inv c B w0 G S w) (vs : Array Value) (t : TypeId) (n : Nat) (f : Nat → Value) (hf : ∀ i, i < n → vs[i]? = some (f i)) :
    Inv c B w0 (G.row w.heap.size n f) S (w.alloc (.cells vs t)) where
  below := inv.below.alloc inv.base _
  base := fun d hd => inv.base d (by rw [size_alloc] at hd; omega)
  iD := fun d o hd => by
    have : d ≠ w.heap.size := fun e => inv.base d (Nat.le_of_eq e.symm) hd
    show (if d = w.heap.size ∧ o < n then some (f o) else G.I d o) = _
    rw [if_neg (fun h => this h.1)]
    exact inv.iD d o hd
  lenφ := inv.lenφ
  lenO := inv.lenO
  inj := inv.inj
  low := inv.low
  tag := inv.tag
  blk := fun b d cells hb hφ => by
    obtain ⟨h1, us, u, fr, h2, h3, h4, h5⟩ := inv.blk b d cells hb hφ
    exact ⟨h1, us, u, fr, by rw [heap_alloc_lt (lt_of_heap h2)]; exact h2, h3, h4, fun i hi hi' => (h5 i hi hi').grow (mono_row inv n f) rfl⟩
  imm := fun d o v h => by
    simp only [Gh.row] at h
    split at h
    · rename_i hd
      obtain ⟨rfl, ho⟩ := hd
      cases h
      refine ⟨?_, fun b hb => ?_⟩
      · rw [cell_of_heap heap_alloc_new]; exact hf o ho
      · have := (inv.φ_lt hb).1; omega
    · obtain ⟨h1, h2⟩ := inv.imm d o v h
      exact ⟨by rw [cell_alloc_lt (lt_of_cell h1)]; exact h1, h2⟩
  own := fun id ow h => by
    obtain ⟨h1, h2, h3⟩ := inv.own id ow h
    refine ⟨h1, h2, fun hlt => ?_⟩
    obtain ⟨d, o, k1, k2, k3, us, u, fr, k4, k5, k6⟩ := h3 hlt
    have := lt_of_heap k4
    refine ⟨d, o, k1, k2, k3, us, u, fr, by rw [heap_alloc_lt this]; exact k4, k5, fun i hi => ⟨(k6 i hi).1, ?_⟩⟩
    simp only [Gh.row]
    rw [if_neg (by omega)]
    exact (k6 i hi).2
  dis := inv.dis
  glob := fun g cs h => ⟨(inv.glob g cs h).1.mono (mono_row inv n f), (inv.glob g cs h).2⟩

/-- A NEW VARIABLE. -/
theorem mono_var (G : Gh) (d : Nat) : Mono G { G with φ := G.φ ++ [some d] } := by
  refine ⟨fun b e h => ?_, fun _ _ _ h => h⟩
  have hb : b < G.φ.length := by
    rcases Nat.lt_or_ge b G.φ.length with hl | hl
    · exact hl
    · rw [List.getElem?_eq_none hl] at h; cases h
  show (G.φ ++ [some d])[b]? = _
  rw [List.getElem?_append_left hb]
  exact h
theorem φ_snoc {φ : List (Option Nat)} {x : Option Nat} {b d : Nat} (h : (φ ++ [x])[b]? = some (some d)) : φ[b]? = some (some d) ∨ (b = φ.length ∧ x = some d) := by
  rcases Nat.lt_trichotomy b φ.length with hl | hl | hl
  · rw [List.getElem?_append_left hl] at h; exact .inl h
  · subst hl; simp at h; exact .inr ⟨rfl, h⟩
  · rw [List.getElem?_append_right (by omega), List.getElem?_eq_none (by simp; omega)] at h; cases h

theorem Inv.newVar (inv : Inv c B w0 G S w) (cells : List SV) (vs : Array Value) (t : TypeId) (hl : cells.length ≤ vs.size)
    (hr : ∀ i (h : i < cells.length) (h' : i < vs.size), RS G S.T cells[i] vs[i]) (hf : ∀ x ∈ cells, x.2.flat = x.2) :
    Inv c B w0 { G with φ := G.φ ++ [some w.heap.size] } ⟨S.H ++ [cells], S.T⟩ (w.alloc (.cells vs t)) where
  below := inv.below.alloc inv.base _
  base := fun d hd => inv.base d (by rw [size_alloc] at hd; omega)
  iD := inv.iD
  lenφ := by simp [inv.lenφ]
  lenO := inv.lenO
  inj := fun i j d hi hj => by
    rcases φ_snoc hi with h1 | ⟨h1, h2⟩ <;> rcases φ_snoc hj with k1 | ⟨k1, k2⟩
    · exact inv.inj i j d h1 k1
    · cases k2; have := (inv.φ_lt h1).1; omega
    · cases h2; have := (inv.φ_lt k1).1; omega
    · omega
  low := fun b cs hb => by
    simp only at hb
    rcases Nat.lt_trichotomy b S.H.length with hl' | hl' | hl'
    · rw [List.getElem?_append_left hl'] at hb; exact inv.low b cs hb
    · subst hl'
      simp at hb
      subst hb
      intro x hx
      obtain ⟨j, hj, rfl⟩ := List.getElem_of_mem hx
      have := R.low (hr j hj (by omega)).1
      rw [inv.lenφ] at this
      exact AV.low_mono (Nat.le_succ _) this
    · rw [List.getElem?_append_right (by omega), List.getElem?_eq_none (by simp; omega)] at hb; cases hb
  tag := fun b cs hb => by
    simp only at hb
    rcases Nat.lt_trichotomy b S.H.length with hl' | hl' | hl'
    · rw [List.getElem?_append_left hl'] at hb; exact inv.tag b cs hb
    · subst hl'
      simp at hb
      subst hb
      intro x hx
      obtain ⟨j, hj, rfl⟩ := List.getElem_of_mem hx
      exact (hr j hj (by omega)).tagLow (hf _ hx)
    · rw [List.getElem?_append_right (by omega), List.getElem?_eq_none (by simp; omega)] at hb; cases hb
  blk := fun b d cs hb hφ => by
    rcases φ_snoc hφ with h | ⟨h1, h2⟩
    · have hlt := inv.φ_lt h
      have hb' : S.H[b]? = some cs := by
        simp only at hb
        rw [List.getElem?_append_left hlt.2] at hb
        exact hb
      obtain ⟨h1, us, u, fr, h2, h3, h4, h5⟩ := inv.blk b d cs hb' h
      exact ⟨h1, us, u, fr, by rw [heap_alloc_lt (lt_of_heap h2)]; exact h2, h3, h4, fun i hi hi' => (h5 i hi hi').grow (mono_var G _) rfl⟩
    · cases h2
      rw [h1, inv.lenφ] at hb
      simp at hb
      subst hb
      exact ⟨inv.base _ (Nat.le_refl _), vs, t, (0, 0), heap_alloc_new, hl, fun o _ h => by simp at h, fun i hi hi' => (hr i hi hi').grow (mono_var G _) rfl⟩
  imm := fun d o v h => by
    obtain ⟨h1, h2⟩ := inv.imm d o v h
    refine ⟨by rw [cell_alloc_lt (lt_of_cell h1)]; exact h1, fun b hb => ?_⟩
    rcases φ_snoc hb with h3 | ⟨_, h4⟩
    · exact h2 b h3
    · cases h4; exact absurd (lt_of_cell h1) (by omega)
  own := fun id ow h => by
    obtain ⟨h1, h2, h3⟩ := inv.own id ow h
    refine ⟨h1, h2, fun hlt => ?_⟩
    obtain ⟨d, o, k1, k2, k3, us, u, fr, k4, k5, k6⟩ := h3 hlt
    have := lt_of_heap k4
    refine ⟨d, o, k1, k2, fun b hb => ?_, us, u, fr, by rw [heap_alloc_lt this]; exact k4, k5, k6⟩
    rcases φ_snoc hb with h3 | ⟨_, h4⟩
    · exact k3 b h3
    · cases h4; omega
  dis := inv.dis
  glob := fun g cs h => ⟨(inv.glob g cs h).1.mono (mono_var G _), (inv.glob g cs h).2⟩
theorem grows_var (G : Gh) (T : List Nat) (d : Nat) : Grows G T { G with φ := G.φ ++ [some d] } T :=
  ⟨mono_var G d, fun b hb => by show (G.φ ++ [some d])[b]? = _; rw [List.getElem?_append_left hb], fun _ k h => ⟨k, h, Nat.le_refl k, fun _ => rfl⟩⟩

/-- A WRITE INTO A BLOCK OF THE RUN'S OWN. -/
structure Writes (w w' : World) (d : Nat) (o : Obj) : Prop where
  at_ : w'.heap[d]? = some o
  other : ∀ k, k ≠ d → w'.heap[k]? = w.heap[k]?
  size : w'.heap.size = w.heap.size
  os : w'.os = w.os
  tape : w'.tape = w.tape
  output : w'.output = w.output
theorem Writes.cell {w w' : World} {d : Nat} {o : Obj} (h : Writes w w' d o) {k i : Nat} (hk : k ≠ d) : w'.cell? ⟨k, i, none⟩ = w.cell? ⟨k, i, none⟩ := by
  simp only [World.cell?, h.other k hk]
theorem Writes.below {w w' : World} {d : Nat} {o : Obj} (h : Writes w w' d o) (b : BelowD B w0 w) (hd : B.free d) : BelowD B w0 w' :=
  b.trans ⟨h.os, h.tape, h.output, by rw [h.size]; exact Nat.le_refl _, fun k hk => h.other k (fun e => hd (e ▸ hk))⟩

theorem Inv.blkSet' (inv : Inv c B w0 G S w) {w' : World} {b d : Nat} {cells cells' : List SV} {us vs : Array Value} {t : TypeId} {fr fr' : Nat × Nat} (hb : S.H[b]? = some cells) (hφ : G.φ[b]? = some (some d))
    (hu : w.heap[d]? = some (.cells us t fr)) (hw : Writes w w' d (.cells vs t fr')) (hfr' : ∀ o, o < cells.length → ¬ (fr'.1 ≤ o ∧ o < fr'.2)) (hsz : vs.size = us.size) (hlen : cells'.length = cells.length) (hlow : ∀ x ∈ cells', x.1.low (b + 1) = true) (htag : ∀ x ∈ cells', x.2.low S.T.length = true)
    (hr : ∀ i (h : i < cells'.length) (h' : i < vs.size), RS G S.T cells'[i] vs[i]) : Inv c B w0 G ⟨S.H.set b cells', S.T⟩ w' := by
  obtain ⟨p1, us', t', fr2, p2, p3, p4, p5⟩ := inv.blk b d cells hb hφ
  rw [hu] at p2
  cases p2
  exact {
    below := hw.below inv.below p1
    base := fun d hd => inv.base d (by rw [hw.size] at hd; exact hd)
    iD := inv.iD
    lenφ := by simp [inv.lenφ]
    lenO := inv.lenO
    inj := inv.inj
    low := fun b' cs hb' => by
      simp only at hb'
      by_cases e : b' = b
      · subst e
        have hlt := (inv.φ_lt hφ).2
        simp [hlt] at hb'
        subst hb'
        exact hlow
      · rw [List.getElem?_set_ne (fun h => e h.symm)] at hb'
        exact inv.low b' cs hb'
    tag := fun b' cs hb' => by
      simp only at hb'
      by_cases e : b' = b
      · subst e
        have hlt := (inv.φ_lt hφ).2
        simp [hlt] at hb'
        subst hb'
        exact htag
      · rw [List.getElem?_set_ne (fun h => e h.symm)] at hb'
        exact inv.tag b' cs hb'
    blk := fun b' d' cs hb' hφ' => by
      by_cases e : b' = b
      · subst e
        rw [hφ] at hφ'
        cases hφ'
        have hlt := (inv.φ_lt hφ).2
        simp [hlt] at hb'
        subst hb'
        exact ⟨p1, vs, t, fr', hw.at_, by omega, fun o ho => hfr' o (by omega), hr⟩
      · have hne : d' ≠ d := fun h => e (inv.inj b' b d (h ▸ hφ') hφ)
        simp only at hb'
        rw [List.getElem?_set_ne (fun h => e h.symm)] at hb'
        obtain ⟨h1, us', u, fr', h2, h3, h4, h5⟩ := inv.blk b' d' cs hb' hφ'
        exact ⟨h1, us', u, fr', by rw [hw.other d' hne]; exact h2, h3, h4, h5⟩
    imm := fun d' o v h => by
      obtain ⟨h1, h2⟩ := inv.imm d' o v h
      have hne : d' ≠ d := fun e => h2 b (e ▸ hφ)
      exact ⟨by rw [hw.cell hne]; exact h1, h2⟩
    own := fun id ow h => by
      obtain ⟨h1, h2, h3⟩ := inv.own id ow h
      refine ⟨h1, h2, fun hlt => ?_⟩
      obtain ⟨d', o, k1, k2, k3, us', u, fr', k4, k5, k6⟩ := h3 hlt
      have hne : d' ≠ d := fun e => k3 b (e ▸ hφ)
      exact ⟨d', o, k1, k2, k3, us', u, fr', by rw [hw.other d' hne]; exact k4, k5, k6⟩
    dis := inv.dis
    glob := inv.glob }

theorem Inv.blkSet (inv : Inv c B w0 G S w) {w' : World} {b d : Nat} {cells cells' : List SV} {us vs : Array Value} {t : TypeId} {fr : Nat × Nat} (hb : S.H[b]? = some cells) (hφ : G.φ[b]? = some (some d))
    (hu : w.heap[d]? = some (.cells us t fr)) (hw : Writes w w' d (.cells vs t fr)) (hsz : vs.size = us.size) (hlen : cells'.length = cells.length) (hlow : ∀ x ∈ cells', x.1.low (b + 1) = true) (htag : ∀ x ∈ cells', x.2.low S.T.length = true)
    (hr : ∀ i (h : i < cells'.length) (h' : i < vs.size), RS G S.T cells'[i] vs[i]) : Inv c B w0 G ⟨S.H.set b cells', S.T⟩ w' := by
  obtain ⟨p1, us', t', fr', p2, p3, p4, p5⟩ := inv.blk b d cells hb hφ
  rw [hu] at p2
  cases p2
  exact inv.blkSet' hb hφ hu hw p4 hsz hlen hlow htag hr

/-- tokens for slices without spare room -/
theorem Inv.toks (inv : Inv c B w0 G S w) (ows : List Own) (hows : ∀ ow ∈ ows, ow.len = ow.cap) : Inv c B w0 { G with own := G.own ++ ows } ⟨S.H, S.T ++ ows.map Own.len⟩ w ∧
    Grows G S.T { G with own := G.own ++ ows } (S.T ++ ows.map Own.len) := by
  have gr : Grows G S.T { G with own := G.own ++ ows } (S.T ++ ows.map Own.len) := by
    refine ⟨⟨fun _ _ h => h, fun _ _ _ h => h⟩, fun _ _ => rfl, fun id n hn => ⟨n, ?_, Nat.le_refl n, fun _ => ?_⟩⟩
    · have : id < S.T.length := by
        rcases Nat.lt_or_ge id S.T.length with hl | hl
        · exact hl
        · rw [List.getElem?_eq_none hl] at hn; cases hn
      rw [List.getElem?_append_left this]; exact hn
    · have : id < G.own.length := by
        rw [inv.lenO]
        rcases Nat.lt_or_ge id S.T.length with hl | hl
        · exact hl
        · rw [List.getElem?_eq_none hl] at hn; cases hn
      show (G.own ++ _)[id]? = _
      rw [List.getElem?_append_left this]
  have split : ∀ (i : Nat) (ow : Own), (G.own ++ ows)[i]? = some ow → G.own[i]? = some ow ∨ (G.own.length ≤ i ∧ ows[i - G.own.length]? = some ow) := by
    intro i ow h
    rcases Nat.lt_or_ge i G.own.length with hl | hl
    · rw [List.getElem?_append_left hl] at h; exact .inl h
    · rw [List.getElem?_append_right hl] at h
      exact .inr ⟨hl, h⟩
  refine ⟨{
    below := inv.below
    base := inv.base
    iD := inv.iD
    lenφ := inv.lenφ
    lenO := by simp [inv.lenO]
    inj := inv.inj
    low := inv.low
    tag := fun b cs hb x hx => Tag.low_mono (by simp) (inv.tag b cs hb x hx)
    blk := fun b d cells hb hφ => by
      obtain ⟨h1, us, u, fr, h2, h3, h4, h5⟩ := inv.blk b d cells hb hφ
      exact ⟨h1, us, u, fr, h2, h3, h4, fun i hi hi' => (h5 i hi hi').later gr.later⟩
    imm := inv.imm
    own := fun id ow h => by
      rcases split id ow h with h' | ⟨h1, h2⟩
      · obtain ⟨h1, h2, h3⟩ := inv.own id ow h'
        have : id < S.T.length := by
          rcases Nat.lt_or_ge id S.T.length with hl | hl
          · exact hl
          · rw [List.getElem?_eq_none hl] at h1; cases h1
        exact ⟨by show (S.T ++ _)[id]? = _; rw [List.getElem?_append_left this]; exact h1, h2, h3⟩
      · have hlc := hows ow (List.mem_of_getElem? h2)
        refine ⟨?_, ⟨Nat.le_of_eq hlc, fun e => by rw [← hlc, e]⟩, fun h => by omega⟩
        show (S.T ++ _)[id]? = _
        rw [inv.lenO] at h1 h2
        rw [List.getElem?_append_right h1, List.getElem?_map, h2]
        rfl
    dis := fun i j oi oj d o o' hne hi hj li lj hb => by
      rcases split i oi hi with h | ⟨_, h2⟩
      · rcases split j oj hj with h' | ⟨_, h2⟩
        · exact inv.dis i j oi oj d o o' hne h h' li lj hb
        · have := hows oj (List.mem_of_getElem? h2); omega
      · have := hows oi (List.mem_of_getElem? h2); omega
    glob := fun g cs h => ⟨(inv.glob g cs h).1.mono gr.mono, (inv.glob g cs h).2⟩ }, gr⟩
end
end Go.Ab
