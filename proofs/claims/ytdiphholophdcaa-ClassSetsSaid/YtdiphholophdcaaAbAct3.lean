import Derived.Test.YtdiphholophdcaaAbAct2
import Derived.Deep.Upon
import Derived.Lib.FrozenHead
import Derived.Room.Entries
set_option linter.unusedVariables false
set_option linter.unusedSimpArgs false
namespace Go.Ab
open Go.RowKit
section
variable {c : Ctx} {B : Bd} {w0 : World} {G : Gh} {S : St} {w : World} {ρ : Operand → SV} {σ : Operand → Value}

/-- what an operation does to state and world -/
def Does (c : Ctx) (B : Bd) (w0 : World) (G : Gh) (S : St) (w : World) (σ : Operand → Value) (o : Oper) (x : SV) (S' : St) : Prop :=
  ∃ w' G' nx v, (execOp σ o).run c.P w = .ok nx w' ∧ (nx = .value v ∨ (nx = .skip ∧ v = undef)) ∧ Inv c B w0 G' S' w' ∧ Grows G S.T G' S'.T ∧ RS G' S'.T x v

theorem Yields.does {o : Oper} {x : SV} (inv : Inv c B w0 G S w) (h : Yields c G S.T w σ o x) : Does c B w0 G S w σ o x S := by
  obtain ⟨v, h1, h2⟩ := h
  exact ⟨w, G, _, v, h1, .inl rfl, inv, .refl _ _, h2⟩

/-! ### writing cells in a row -/
theorem setCells_spec (d : Nat) (t : TypeId) (fr : Nat × Nat) : ∀ (vs : List Value) (o : Nat) (w : World) (us : Array Value), w.heap[d]? = some (.cells us t fr) →
    Writes w (w.setCells d o vs) d (.cells (putRow us o vs.toArray) t fr) := by
  intro vs
  induction vs with
  | nil =>
    intro o w us h
    have e : putRow us o (#[] : Array Value) = us := by
      apply Array.ext_getElem?
      intro i
      rw [putRow_get, if_neg (by simp; omega)]
    exact ⟨by rw [World.setCells]; simpa [e] using h, fun _ _ => rfl, rfl, rfl, rfl, rfl⟩
  | cons v vs ih =>
    intro o w us h
    have h1 : (w.setCell ⟨d, o, none⟩ v).heap[d]? = some (.cells (us.setIfInBounds o v) t fr) := by
      simp [World.setCell, Array.getElem?_modify, h]
    obtain ⟨a1, a2, a3, a4, a5, a6⟩ := ih (o + 1) (w.setCell ⟨d, o, none⟩ v) _ h1
    have e : putRow (us.setIfInBounds o v) (o + 1) vs.toArray = putRow us o (v :: vs).toArray := by
      apply Array.ext_getElem?
      intro i
      rw [putRow_get, putRow_get]
      simp only [Array.size_setIfInBounds, List.size_toArray, List.length_cons]
      by_cases c1 : o + 1 ≤ i ∧ i < o + 1 + vs.length ∧ i < us.size
      · rw [if_pos c1, if_pos (by omega), show i - o = (i - (o + 1)) + 1 by omega]
        simp
      · rw [if_neg c1]
        by_cases c2 : i = o
        · subst c2
          by_cases c3 : i < us.size
          · rw [if_pos (by omega)]; simp [c3]
          · rw [if_neg (by omega)]; simp [c3]
        · rw [Array.getElem?_setIfInBounds_ne (by omega), if_neg (by omega)]
    rw [World.setCells]
    refine ⟨by rw [a1, e], fun k hk => ?_, ?_, by rw [a4]; rfl, by rw [a5]; rfl, by rw [a6]; rfl⟩
    · rw [a2 k hk]
      simp only [World.setCell, Array.getElem?_modify]
      rw [if_neg (by simpa using fun e => hk e.symm)]
    · rw [a3]; simp [World.setCell]

theorem frozen_of {w : World} {d i : Nat} {us : Array Value} {t : TypeId} {fr : Nat × Nat} (h : w.heap[d]? = some (.cells us t fr)) (hf : ¬ (fr.1 ≤ i ∧ i < fr.2)) : w.frozen? ⟨d, i, none⟩ = false := by
  obtain ⟨lo, hi⟩ := fr
  simp only [World.frozen?, h, Bool.and_eq_false_iff, decide_eq_false_iff_not]
  simp only at hf
  omega

theorem oneCell_of {x : AV} {v : Value} (h : R G x v) (hx : x.isCell = true) : v.oneCell' = true := by
  cases h <;> first | rfl | (simp [AV.isCell] at hx; done)

/-- what stays known when only what is still low is kept -/
theorem RS.keepIn {T : List Nat} {older : Bool} {b : Nat} {old new : SV} {v : Value} (h : RS G T new v) : RS G T (Ab.keepIn older b old new) v := by
  obtain ⟨x, tg⟩ := new
  obtain ⟨hr, ht⟩ := h
  unfold Ab.keepIn
  split
  · refine ⟨hr, ?_⟩
    simp only
    unfold keepTag
    cases tg with
    | tok i =>
      simp only
      split
      · split
        · split
          · exact ht
          · exact RT.no
        · exact RT.no
      · exact ht
    | full => exact ht
    | no => exact RT.no
    | agg ts => exact RT.no
  · exact RS.no (.undef _)
theorem keepIn_low {older : Bool} {b : Nat} {old new : SV} : (Ab.keepIn older b old new).1.low (b + 1) = true := by
  unfold Ab.keepIn
  split
  · rename_i h; exact h
  · rfl

theorem keepIn_flat {older : Bool} {b : Nat} {old new : SV} : (Ab.keepIn older b old new).2.flat = (Ab.keepIn older b old new).2 := by
  unfold Ab.keepIn
  split
  · simp only
    unfold keepTag
    split
    · split
      · split
        · split <;> rfl
        · rfl
      · rfl
    · rfl
    · rfl
  · rfl

theorem RSs.keep {T : List Nat} {older : Bool} {b o : Nat} {old cells : List SV} {vs : Array Value} (h : RSs G T cells vs) :
    RSs G T (cells.zipIdx.map fun (x, i) => Ab.keepIn older b (old.getD (o + i) (.undef, .no)) x) vs := by
  refine ⟨by simpa using h.1, fun i hi hi' => ?_⟩
  simp only [List.getElem_map, List.getElem_zipIdx]
  exact RS.keepIn (h.2 i (by simpa using hi) hi')
theorem replaceAt_mem {α : Type} {l new : List α} {off : Nat} {x : α} (h : x ∈ replaceAt l off new) : x ∈ l ∨ x ∈ new := by
  unfold replaceAt at h
  rcases List.mem_append.1 h with h | h
  · rcases List.mem_append.1 h with h | h
    · exact .inl (List.mem_of_mem_take h)
    · exact .inr h
  · exact .inl (List.mem_of_mem_drop h)

theorem put_le {T : List Nat} {cs new : List SV} {vs nv : Array Value} {off : Nat} (hl : cs.length ≤ vs.size) (h : ∀ i (h : i < cs.length) (h' : i < vs.size), RS G T cs[i] vs[i]) (hn : RSs G T new nv)
    (ho : off + new.length ≤ cs.length) : ∀ i (h : i < (replaceAt cs off new).length) (h' : i < (putRow vs off nv).size), RS G T (replaceAt cs off new)[i] (putRow vs off nv)[i] := by
  intro i hi hi'
  have e1 := replaceAt_get ho i
  have e2 := putRow_get vs off nv i
  rw [List.getElem?_eq_getElem hi] at e1
  rw [Array.getElem?_eq_getElem hi'] at e2
  have hnl := hn.1
  rw [replaceAt_length ho] at hi
  by_cases hc : off ≤ i ∧ i < off + new.length
  · rw [if_pos hc] at e1
    rw [if_pos (by omega)] at e2
    rw [List.getElem?_eq_getElem (by omega)] at e1
    rw [Array.getElem?_eq_getElem (by omega)] at e2
    rw [Option.some.inj e1, Option.some.inj e2]
    exact hn.2 _ _ _
  · rw [if_neg hc] at e1
    rw [if_neg (by omega)] at e2
    rw [List.getElem?_eq_getElem (by omega)] at e1
    rw [Array.getElem?_eq_getElem (by omega)] at e2
    rw [Option.some.inj e1, Option.some.inj e2]
    exact h _ _ _

theorem d_store {e : Env0} (he : e.c = c) {o : Oper} {t : TypeId} {a y : Operand} {x : SV} {S' : St} (hop : o.op = .store t a y) (inv : Inv c B w0 G S w) (hρ : ∀ x, RS G S.T (ρ x) (σ x))
    (h : e.act (.store t a y) ρ S = some (.ok x S')) : Does c B w0 G S w σ o x S' := by
  subst he
  simp only [Env0.act] at h
  split at h <;> first | (cases h; done) | skip
  rename_i b off ha
  split at h <;> first | (cases h; done) | skip
  rename_i cells hb
  obtain ⟨⟨hlen, hsz1, hle, hall⟩, h9⟩ := Option.ite_none_right_eq_some.1 h
  cases h9
  have hra := (hρ a).1
  rw [ha] at hra
  generalize hav : σ a = av at *
  cases hra with
  | ptr _ _ d hφ =>
    have hk : (ρ y).1.known = true := by
      cases hy : (ρ y).1 <;> first | rfl | skip
      simp [expand, hy, AV.isCell] at hall
    have hs := expand_sound (hρ y) hk
    obtain ⟨hB, us, u, fr, hu, hus, hfr, hR⟩ := inv.blk b d cells hb hφ
    have hone : ∀ v ∈ (σ y).cells.toList, v.oneCell' = true := by
      intro v hv
      obtain ⟨j, hj, rfl⟩ := List.getElem_of_mem hv
      have hj' : j < (σ y).cells.size := by simpa using hj
      have hj2 : j < (expand (ρ y)).length := by rw [hs.1]; exact hj'
      have h1 := (hs.2 j hj2 hj').1
      rw [List.all_eq_true] at hall
      have h2 := hall _ (List.getElem_mem hj2)
      simpa using oneCell_of h1 h2
    have hn : (σ y).cells.size = tsz e.c.P t := by rw [← hs.1]; exact hlen
    have hst := run_storeCells_cells (P := e.c.P) d off (σ y).cells.toList 0 w (fun j hj => by
        have hj' : j < (σ y).cells.size := by simpa using hj
        rw [cell_of_heap hu, Nat.add_zero, Array.getElem?_eq_getElem (by omega)]; rfl) (fun j hj => by
        have hj' : j < (σ y).cells.size := by simpa using hj
        exact frozen_of hu (hfr _ (by omega))) hone
    have hw := setCells_spec d u fr (σ y).cells.toList off w us hu
    obtain ⟨i, hi, hsz⟩ := info_of_tsz hsz1
    refine ⟨_, G, .skip, undef, ?_, .inr ⟨rfl, rfl⟩, inv.blkSet hb hφ hu hw (putRow_size _ _ _) ?_ ?_ ?_ ?_, .refl _ _, RS.no (.tup [] #[] rfl (fun i h => absurd h (by simp)))⟩
    · simp only [execOp, hop, Instr.storeAt, hav, Instr.sureAddr, storeVar, run_sizeOf e.c.P w hi, Sem.run_bind, Result.andThen_ok, Sem.run_pure, hn, hsz, ne_eq, not_true_eq_false, if_false]
      rw [hst]
      rfl
    · unfold Ab.storeCells
      rw [replaceAt_length]
      simp; omega
    · intro z hz
      rcases replaceAt_mem hz with h1 | h1
      · exact inv.low b cells hb z h1
      · obtain ⟨q, hq, rfl⟩ := List.mem_map.1 h1
        exact keepIn_low
    · intro z hz
      rcases replaceAt_mem hz with h1 | h1
      · exact inv.tag b cells hb z h1
      · obtain ⟨i, hi, rfl⟩ := List.getElem_of_mem h1
        have hk := hs.keep (older := decide (b < e.n0)) (b := b) (o := off) (old := cells)
        refine (hk.2 i hi (by rw [← hk.1]; exact hi)).tagLow ?_
        simp only [List.getElem_map]
        exact keepIn_flat
    · have := put_le hus hR (hs.keep (older := decide (b < e.n0)) (b := b) (o := off) (old := cells)) (off := off) (by simp; omega)
      simpa [Ab.storeCells] using this

theorem tagZ_flat (q : AV) : (tagZ q).flat = tagZ q := by cases q <;> rfl
/-- the size of a list's elements, by the first -/
def headSz : List AV → Nat
  | [] => 0
  | y :: _ => y.cells.length
/-- the tokens of a new variable's slices without spare room -/
theorem newCells_spec (inv : Inv c B w0 G S w) (pre : Bool) : ∀ (cells : List SV) (vs : List Value) (os : List Own), (∀ ow ∈ os, ow.len = ow.cap) → cells.length = vs.length → (∀ i (h : i < cells.length) (h' : i < vs.length), RS G S.T cells[i] vs[i]) →
    ∃ ows : List Own, (∀ ow ∈ ows, ow.len = ow.cap) ∧ (newCells pre cells (S.T.length + os.length)).2 = ows.map Own.len ∧ (newCells pre cells (S.T.length + os.length)).1.length = vs.length ∧
      ∀ i (h : i < (newCells pre cells (S.T.length + os.length)).1.length) (h' : i < vs.length),
        RS { G with own := G.own ++ (os ++ ows) } (S.T ++ (os ++ ows).map Own.len) (newCells pre cells (S.T.length + os.length)).1[i] vs[i] := by
  intro cells
  induction cells with
  | nil => intro vs os _ hl _; cases vs with
    | nil => exact ⟨[], by simp, rfl, rfl, fun i h => absurd h (by simp [newCells])⟩
    | cons => simp at hl
  | cons x cells ih =>
    intro vs os hos hl hr
    cases vs with
    | nil => simp at hl
    | cons v vs =>
      have h0 : RS G S.T x v := hr 0 (by simp) (by simp)
      have hrest : ∀ i (h : i < cells.length) (h' : i < vs.length), RS G S.T cells[i] vs[i] := fun i h h' => hr (i + 1) (by simp; omega) (by simp; omega)
      have hl' : cells.length = vs.length := by simpa using hl
      have keep : ∀ ows : List Own, (∀ ow ∈ ows, ow.len = ow.cap) → RS { G with own := G.own ++ ows } (S.T ++ ows.map Own.len) x v := fun ows h => h0.later (inv.toks ows h).2.later
      have plain : newCells pre (x :: cells) (S.T.length + os.length) = (x :: (newCells pre cells (S.T.length + os.length)).1, (newCells pre cells (S.T.length + os.length)).2) →
          ∃ ows : List Own, (∀ ow ∈ ows, ow.len = ow.cap) ∧ (newCells pre (x :: cells) (S.T.length + os.length)).2 = ows.map Own.len ∧ (newCells pre (x :: cells) (S.T.length + os.length)).1.length = (v :: vs).length ∧
            ∀ i (h : i < (newCells pre (x :: cells) (S.T.length + os.length)).1.length) (h' : i < (v :: vs).length),
              RS { G with own := G.own ++ (os ++ ows) } (S.T ++ (os ++ ows).map Own.len) (newCells pre (x :: cells) (S.T.length + os.length)).1[i] (v :: vs)[i] := by
        intro e
        obtain ⟨ows, h0, h1, h2, h3⟩ := ih vs os hos hl' hrest
        refine ⟨ows, h0, by rw [e]; exact h1, by rw [e]; simp [h2], ?_⟩
        rw [e]
        intro i h h'
        cases i with
        | zero => exact keep _ (fun ow h => (List.mem_append.1 h).elim (hos ow) (h0 ow))
        | succ i => simpa using h3 i (by simpa using h) (by simpa using h')
      obtain ⟨x, tg⟩ := x
      by_cases hx : (∃ xs, x = .sl xs) ∧ tg = .full ∧ pre = true
      · obtain ⟨⟨xs, rfl⟩, rfl, rfl⟩ := hx
        have hval : ∃ b, v = .slice b xs.length xs.length := by
          have h1 := h0.1
          have h2 := h0.2.1
          cases h1 with
          | nils => exact ⟨none, rfl⟩
          | sl sz _ cc oo cap f hs hc hI hR h1c =>
            have := h2 _ _ _ rfl
            exact ⟨some ⟨cc, oo, none⟩, by rw [← this]⟩
        obtain ⟨b, rfl⟩ := hval
        let ow : Own := ⟨b, xs.length, xs.length, headSz xs⟩
        have e : newCells true ((.sl xs, .full) :: cells) (S.T.length + os.length) = ((.sl xs, .tok (S.T.length + os.length)) :: (newCells true cells (S.T.length + (os ++ [ow]).length)).1, xs.length :: (newCells true cells (S.T.length + (os ++ [ow]).length)).2) := by
          simp only [newCells, if_true, List.length_append, List.length_singleton, Nat.add_assoc]
        have hos' : ∀ x ∈ os ++ [ow], x.len = x.cap := fun x h => by
          rcases List.mem_append.1 h with h | h
          · exact hos x h
          · rw [List.mem_singleton] at h; subst h; rfl
        obtain ⟨ows, g0, h1, h2, h3⟩ := ih vs (os ++ [ow]) hos' hl' hrest
        refine ⟨ow :: ows, fun x h => ?_, by rw [e, h1]; rfl, by rw [e]; exact congrArg (· + 1) h2, ?_⟩
        · rcases List.mem_cons.1 h with h | h
          · subst h; rfl
          · exact g0 x h
        rw [e]
        intro i h h'
        have ea : os ++ ow :: ows = os ++ [ow] ++ ows := by simp
        rw [ea]
        cases i with
        | zero =>
          have hv := keep (os ++ [ow] ++ ows) (fun x h => (List.mem_append.1 h).elim (hos' x) (g0 x))
          refine ⟨hv.1, ⟨xs.length, ?_, Nat.le_refl _, fun _ b' l cc hv => ⟨ow, ?_, ?_, fun y ys hy => ?_⟩⟩, ?_⟩
          · rw [List.getElem?_append_right (by omega)]
            simp only [Nat.add_sub_cancel_left]
            simp [ow]
          · show (G.own ++ _)[S.T.length + os.length]? = _
            rw [← inv.lenO, List.getElem?_append_right (by omega)]
            simp
          · rfl
          · cases hy; rfl
          · trivial
        | succ i => simpa using h3 i (by simpa using h) (by simpa using h')
      · refine plain ?_
        cases pre with
        | false =>
          cases x <;> cases tg <;> rfl
        | true =>
          cases x <;> cases tg <;> first
            | rfl
            | exact absurd ⟨⟨_, rfl⟩, rfl, rfl⟩ hx

theorem newCells_flat (pre : Bool) : ∀ (cells : List SV) (m : Nat), (∀ x ∈ cells, x.2.flat = x.2) → ∀ x ∈ (newCells pre cells m).1, x.2.flat = x.2 := by
  intro cells
  induction cells with
  | nil => intro m _ x hx; cases hx
  | cons y ys ih =>
    intro m h x hx
    have hy := h y (List.mem_cons_self ..)
    have hys : ∀ x ∈ ys, x.2.flat = x.2 := fun z hz => h z (List.mem_cons_of_mem _ hz)
    unfold newCells at hx
    split at hx
    · cases hx
    · rename_i heq
      cases heq
      split at hx
      · rcases List.mem_cons.1 hx with rfl | hx
        · rfl
        · exact ih _ hys x hx
      · rcases List.mem_cons.1 hx with rfl | hx
        · exact hy
        · exact ih _ hys x hx
    · rename_i heq
      cases heq
      rcases List.mem_cons.1 hx with rfl | hx
      · exact hy
      · exact ih _ hys x hx
theorem newVar_sound {e : Env0} {t : TypeId} {cells : List SV} {vs : Array Value} {x : SV} {S' : St} (inv : Inv c B w0 G S w) (hr : RSs G S.T cells vs) (hf : ∀ x ∈ cells, x.2.flat = x.2) (h : e.newVar t cells S = .ok x S') :
    ∃ G', Inv c B w0 G' S' (w.alloc (.cells vs t)) ∧ Grows G S.T G' S'.T ∧ RS G' S'.T x (.pointer (some ⟨w.heap.size, 0, none⟩)) := by
  unfold Env0.newVar at h
  cases h
  obtain ⟨m, h0, h1, h2, h3⟩ := newCells_spec inv (e.pre t) cells vs.toList [] (by simp) (by simpa using hr.1) (fun i a b => by simpa using hr.2 i a (by simpa using b))
  simp only [List.length_nil, Nat.add_zero, List.nil_append] at h1 h2 h3
  obtain ⟨i1, g1⟩ := inv.toks m h0
  have i2 := i1.newVar (newCells (e.pre t) cells S.T.length).1 vs t (by rw [h2]; simp) (fun i a b => by have := h3 i a (by simpa using b); rw [Array.getElem_toList] at this; exact this) (newCells_flat _ _ _ hf)
  rw [h1]
  refine ⟨_, i2, g1.trans (grows_var _ _ _), RS.no (.ptr _ _ _ ?_)⟩
  show (G.φ ++ [some w.heap.size])[S.H.length]? = _
  rw [← inv.lenφ]
  simp

theorem d_alloc {e : Env0} (he : e.c = c) {o : Oper} {t : TypeId} {x : SV} {S' : St} (hop : o.op = .alloc t) (inv : Inv c B w0 G S w)
    (h : e.act (.alloc t) ρ S = some (.ok x S')) : Does c B w0 G S w σ o x S' := by
  subst he
  simp only [Env0.act] at h
  obtain ⟨hz, h⟩ := Option.ite_none_right_eq_some.1 h
  obtain ⟨i, z, hi, hz⟩ := of_hasZero hz
  have hzero : (zeroValue t).run e.c.P w = .ok z w := by simp [zeroValue, typeInfo, hi, hz]
  obtain ⟨G', h1, h2, h3⟩ := newVar_sound inv (zero_sound (G := G) (T := S.T) hi hz) (fun x hx => by obtain ⟨q, _, rfl⟩ := List.mem_map.1 hx; exact tagZ_flat q) (Option.some.inj h)
  refine ⟨_, G', _, .pointer (some ⟨w.heap.size, 0, none⟩), ?_, .inl rfl, h1, h2, h3⟩
  simp [execOp, hop, Instr.alloc, hzero, newVar, newRow]
theorem d_box {e : Env0} (he : e.c = c) {o : Oper} {t : TypeId} {a : Operand} {x : SV} {S' : St} (hop : o.op = .box t a) (inv : Inv c B w0 G S w) (hρ : ∀ x, RS G S.T (ρ x) (σ x))
    (h : e.act (.box t a) ρ S = some (.ok x S')) : Does c B w0 G S w σ o x S' := by
  subst he
  simp only [Env0.act] at h
  obtain ⟨hk, h⟩ := Option.ite_none_right_eq_some.1 h
  obtain ⟨G', h1, h2, h3⟩ := newVar_sound inv (expand_sound (hρ a) hk) (expand_flat _) (Option.some.inj h)
  refine ⟨_, G', _, .pointer (some ⟨w.heap.size, 0, none⟩), ?_, .inl rfl, h1, h2, h3⟩
  simp [execOp, hop, Instr.box, newVar, newRow]
end
end Go.Ab
