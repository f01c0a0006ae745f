import Derived.Test.YtdiphholophdcaaAbAct3
set_option linter.unusedVariables false
set_option linter.unusedSimpArgs false
namespace Go.Ab
open Go.RowKit
section
variable {c : Ctx} {B : Bd} {w0 : World} {G : Gh} {S : St} {w : World} {ρ : Operand → SV} {σ : Operand → Value}

theorem fl_scalars {ys : List AV} (h : ∀ y ∈ ys, y.isCell = true) : fl ys = ys := by
  induction ys with
  | nil => rfl
  | cons y ys ih =>
    have hy := h y (by simp)
    have : y.cells = [y] := by cases y <;> first | rfl | (simp [AV.isCell] at hy; done)
    rw [fl_cons, this, ih (fun z hz => h z (by simp [hz]))]
    rfl
theorem isCell_cells {y : AV} (hy : y.isCell = true) : y.cells = [y] := by cases y <;> first | rfl | (simp [AV.isCell] at hy; done)

theorem added_sound {e : Env0} {elem tx : TypeId} {x : SV} {v : Value} {ys : List AV} (inv : Inv c B w0 G S w) (he : e.c = c) (h : e.added S elem (tk c.P tx) x.1 = some ys) (hr : RS G S.T x v) (h1z : 1 ≤ tsz c.P elem) :
    ∃ news : List Value, Src c.P (tsz c.P elem) tx v ys.length news w ∧ news.length = (fl ys).length ∧ (∀ i (h : i < (fl ys).length) (h' : i < news.length), R G (fl ys)[i] news[i]) ∧
      (∀ y ∈ ys, y.cells.length = tsz c.P elem) := by
  subst he
  unfold Env0.added at h
  have hr1 := hr.1
  split at h <;> first | (cases h; done) | skip
  · rename_i zs ek hx hk
    obtain ⟨hz, h⟩ := Option.ite_none_right_eq_some.1 h
    cases h
    rw [hx] at hr1
    cases hr1 with
    | nils => exact ⟨[], Src.ofNil w (tk_slice hk) 0, rfl, fun i h => absurd h (by simp [fl]), by simp⟩
    | sl sz0 _ cc oo cap f hs0 hc hI hR h1c =>
      have hs := szOk_all hs0 hz
      have hl := fl_length hs
      refine ⟨(List.range (fl ys).length).map f, ?_, by simp, fun i h h' => by simpa using hR i h, hs⟩
      refine Src.ofSlice w (tk_slice hk) ⟨cc, oo, none⟩ ys.length cap _ (by simp [hl]) (fun j u hu => ?_) (fun u hu => ?_)
      · simp only [List.getElem?_map, Option.map_eq_some_iff] at hu
        obtain ⟨i, hi, rfl⟩ := hu
        obtain ⟨hlt, rfl⟩ := List.getElem?_eq_some_iff.1 hi
        rw [addr_add]
        simp only [List.getElem_range]
        exact (inv.imm _ _ _ (hI j (by simpa using hlt))).1
      · obtain ⟨i, hi, rfl⟩ := List.mem_map.1 hu
        exact h1c i (by simpa using hi)
  · rename_i s hx hk
    split at h <;> first | (cases h; done) | skip
    rename_i hke
    obtain ⟨hz, h⟩ := Option.ite_none_right_eq_some.1 h
    cases h
    rw [hx] at hr1
    cases hr1
    have hcell : ∀ y ∈ toBytes s, y.isCell = true := by
      intro y hy
      obtain ⟨b, _, rfl⟩ := List.mem_map.1 hy
      rfl
    have hfl := fl_scalars hcell
    refine ⟨byteCells ⟨⟨s⟩⟩, ?_, by rw [hfl]; simp [toBytes, byteCells], fun i h h' => ?_, fun y hy => by rw [isCell_cells (hcell y hy), hz]; rfl⟩
    · have := Src.ofString (P := e.c.P) w (tk_string hk) ⟨⟨s⟩⟩
      rw [hz]
      have e2 : (toBytes s).length = (⟨⟨s⟩⟩ : ByteArray).size := by simp [toBytes, size_mk]
      rw [e2]
      exact this
    · have h2 : i < (toBytes s).length := by rw [hfl] at h; exact h
      have e1 : (fl (toBytes s))[i] = (toBytes s)[i] := by simp only [hfl]
      rw [e1]
      simp only [toBytes, List.getElem_map, byteCells]
      exact .int _ _
  · rename_i b oo n ek hx hk
    split at h <;> first | (cases h; done) | skip
    rename_i cells hb
    obtain ⟨⟨hz, hle, hall⟩, h⟩ := Option.ite_none_right_eq_some.1 h
    cases h
    rw [hx] at hr1
    cases hr1 with
    | slr _ _ _ d cap hφ hc =>
      obtain ⟨hB, us, u, fr, hu, hus, hfr, hR⟩ := inv.blk b d cells hb hφ
      have hcell : ∀ y ∈ ((cells.drop oo).take n).map (·.1), y.isCell = true := by
        rw [List.all_eq_true] at hall; exact hall
      have hfl := fl_scalars hcell
      have hlen : (((cells.drop oo).take n).map (·.1)).length = n := by simp; omega
      rw [hlen]
      refine ⟨(us.toList.drop oo).take n, ?_, by rw [hfl, hlen]; simp; omega, fun i h h' => ?_, fun y hy => by rw [isCell_cells (hcell y hy), hz]; rfl⟩
      · refine Src.ofSlice w (tk_slice hk) ⟨d, oo, none⟩ n cap _ (by rw [hz]; simp; omega) (fun j v hv => ?_) (fun v hv => ?_)
        · rw [addr_add, cell_of_heap hu]
          rw [List.getElem?_take] at hv
          split at hv
          · rw [List.getElem?_drop] at hv; simpa using hv
          · cases hv
        · obtain ⟨j, hj, rfl⟩ := List.getElem_of_mem hv
          have hj' : j < n := by simp at hj; omega
          have h1 := (hR (oo + j) (by omega) (by omega)).1
          have h2 := hcell (cells[oo + j].1) (by
            refine List.mem_map.2 ⟨cells[oo + j], ?_, rfl⟩
            refine List.mem_iff_getElem.2 ⟨j, by simp; omega, by simp⟩)
          simpa using oneCell_of h1 h2
      · have h2 : i < n := by rw [hfl, hlen] at h; exact h
        have e1 : (fl (((cells.drop oo).take n).map (·.1)))[i] = cells[oo + i].1 := by simp only [hfl]; simp
        rw [e1]
        simpa using (hR (oo + i) (by omega) (by omega)).1

/-- the cells of the slice that is appended to -/
theorem olds_sound {sz : Nat} {xs : List AV} {cc oo cap : Nat} {f : Nat → Value} (inv : Inv c B w0 G S w) (hs : ∀ x ∈ xs, x.cells.length = sz)
    (hI : ∀ i, i < (fl xs).length → G.I cc (oo + i) = some (f i)) (w' : World) (hw : w'.heap = w.heap) :
    (Builtin.firstCells sz xs.length (.slice (some ⟨cc, oo, none⟩) xs.length cap)).run c.P w' = .ok ((List.range (fl xs).length).map f).toArray w' := by
  have hl := fl_length hs
  have := run_loadCells (P := c.P) w' ⟨cc, oo, none⟩ (xs.length * sz) f (fun j hj => by
    rw [addr_add]
    have := (inv.imm _ _ _ (hI j (by omega))).1
    simpa only [World.cell?, hw] using this)
  rw [hl]
  simpa [Builtin.firstCells] using this

theorem I_none (inv : Inv c B w0 G S w) (i : Nat) : G.I w.heap.size i = none := by
  cases h : G.I w.heap.size i with
  | none => rfl
  | some v => exact absurd (lt_of_cell (inv.imm _ _ _ h).1) (by omega)
theorem zeroCells_size (z : Array Value) (n : Nat) : (Builtin.zeroCells z n).size = n * z.size := by simp [Builtin.zeroCells]

/-- A SLICE THAT OUTGROWS ITS ROW: the new row, and what is known of it. -/
theorem grown_row (inv : Inv c B w0 G S w) {sz : Nat} {xs ys : List AV} {olds news : List Value} (hxs : ∀ x ∈ xs, x.cells.length = sz) (hys : ∀ y ∈ ys, y.cells.length = sz)
    (ho : olds.length = (fl xs).length) (hoR : ∀ i (h : i < (fl xs).length) (h' : i < olds.length), R G (fl xs)[i] olds[i]) (ho1 : ∀ u ∈ olds, u.oneCell' = true)
    (hn : news.length = (fl ys).length) (hnR : ∀ i (h : i < (fl ys).length) (h' : i < news.length), R G (fl ys)[i] news[i]) (hn1 : ∀ u ∈ news, u.oneCell' = true)
    {cap : Nat} (hcap : xs.length + ys.length ≤ cap) (zc : Array Value) (hzc : zc.size = sz) (et : TypeId) :
    ∃ G1, Inv c B w0 G1 S (w.drew.alloc (.cells ((olds ++ news).toArray ++ Builtin.zeroCells zc (cap - (xs.length + ys.length))) et)) ∧ Grows G S.T G1 S.T ∧ G1.own = G.own ∧
      R G1 (.sl (xs ++ ys)) (.slice (some ⟨w.heap.size, 0, none⟩) (xs.length + ys.length) cap) ∧
      (xs.length + ys.length < cap → ∃ d o, some (⟨w.heap.size, 0, none⟩ : Addr) = some ⟨d, o, none⟩ ∧ B.free d ∧ (∀ b : Nat, G1.φ[b]? ≠ some (some d)) ∧
        ∃ vs t fr, (w.drew.alloc (.cells ((olds ++ news).toArray ++ Builtin.zeroCells zc (cap - (xs.length + ys.length))) et)).heap[d]? = some (.cells vs t fr) ∧ o + cap * sz ≤ vs.size ∧
          ∀ i, o + (xs.length + ys.length) * sz ≤ i → ¬ (fr.1 ≤ i ∧ i < fr.2) ∧ G1.I d i = none) := by
  have invd : Inv c B w0 G S w.drew := inv.drew _
  have hxy : ∀ x ∈ xs ++ ys, x.cells.length = sz := fun x hx => by
    rcases List.mem_append.1 hx with h | h
    · exact hxs x h
    · exact hys x h
  have hfl : (fl (xs ++ ys)).length = (xs.length + ys.length) * sz := by rw [fl_length hxy, List.length_append]
  have hlen : (olds ++ news).length = (fl (xs ++ ys)).length := by rw [List.length_append, ho, hn, fl_append, List.length_append]
  have hsz : w.drew.heap.size = w.heap.size := rfl
  have inv1 := invd.newRow ((olds ++ news).toArray ++ Builtin.zeroCells zc (cap - (xs.length + ys.length))) et (fl (xs ++ ys)).length (fun i => (olds ++ news).getD i undef) (fun i hi => by
    rw [Array.getElem?_append_left (by simp; rw [List.length_append] at hlen; omega)]
    rw [List.getElem?_toArray, List.getElem?_eq_getElem (by omega)]
    simp [List.getD, List.getElem?_eq_getElem (show i < (olds ++ news).length by omega)])
  have gr := grows_row invd (fl (xs ++ ys)).length (fun i => (olds ++ news).getD i undef)
  refine ⟨_, inv1, gr, rfl, ?_, fun hlt => ⟨w.heap.size, 0, rfl, inv.base _ (Nat.le_refl _), fun b hb => ?_, _, et, (0, 0), heap_alloc_new, ?_, fun i hi => ⟨by simp, ?_⟩⟩⟩
  · have hl2 : (xs ++ ys).length = xs.length + ys.length := by simp
    rw [← hl2]
    refine .sl sz _ _ _ _ (fun i => (olds ++ news).getD i undef) hxy (by omega) (fun i hi => ?_) (fun i hi => ?_) (fun i hi => ?_)
    · simp only [Gh.row, Nat.zero_add]
      rw [if_pos ⟨hsz.symm, hi⟩]
    · have hi2 : i < (olds ++ news).length := by omega
      have e : (olds ++ news).getD i undef = (olds ++ news)[i] := by simp [List.getD, List.getElem?_eq_getElem hi2]
      rw [e]
      refine R.mono gr.mono ?_
      have e2 : (fl (xs ++ ys))[i] = (fl xs ++ fl ys)[i]'(by rw [← fl_append]; exact hi) := by simp only [fl_append]
      rw [e2]
      by_cases h : i < (fl xs).length
      · rw [List.getElem_append_left h, List.getElem_append_left (by omega)]
        exact hoR i h _
      · rw [List.getElem_append_right (by omega), List.getElem_append_right (by omega)]
        have := hnR (i - (fl xs).length) (by rw [fl_append, List.length_append] at hi; omega) (by rw [List.length_append] at hi2; omega)
        simpa [ho] using this
    · have hi2 : i < (olds ++ news).length := by omega
      have e : (olds ++ news).getD i undef = (olds ++ news)[i] := by simp [List.getD, List.getElem?_eq_getElem hi2]
      rw [e]
      rcases List.mem_append.1 (List.getElem_mem hi2) with h | h
      · exact ho1 _ h
      · exact hn1 _ h
  · have := (inv.φ_lt hb).1; omega
  · rw [Array.size_append, zeroCells_size, hzc, List.size_toArray, hlen, hfl, Nat.sub_mul]
    have := Nat.mul_le_mul_right sz hcap
    omega
  · simp only [Gh.row]
    rw [if_neg (by rw [hfl]; omega)]
    exact I_none inv i
end
end Go.Ab
