import Derived.Test.YtdiphholophdcabGreatDoorXSAbRun
import Derived.Deep.Upon
import Derived.Lib.FrozenHead
import Derived.Room.Entries
import Derived.Lib.UnsafeStr
set_option linter.all false
section
namespace Go.Ab
open Go.RowKit
section
variable {c : Ctx} {B : Bd} {w0 : World} {G : Gh} {S : St} {w : World}

/-- a token's slice has grown: in new memory -/
theorem lt_T (inv : Inv c B w0 G S w) {id : Nat} {ow : Own} (h : G.own[id]? = some ow) : id < S.T.length ∧ id < G.own.length := by
  have : id < G.own.length := by
    rcases Nat.lt_or_ge id G.own.length with hl | hl
    · exact hl
    · rw [List.getElem?_eq_none hl] at h; cases h
  exact ⟨by rw [← inv.lenO]; exact this, this⟩

def Gh.setOwn (G : Gh) (id : Nat) (ow : Own) : Gh := { G with own := G.own.set id ow }

/-- what a token stands for is changed, its length grows -/
theorem grows_setOwn {T : List Nat} {id n m : Nat} {ow : Own} (hT : T[id]? = some n) (hlt : n < m) : Grows G T (G.setOwn id ow) (T.set id m) := by
  refine ⟨⟨fun _ _ h => h, fun _ _ _ h => h, fun _ _ h => h⟩, fun _ _ => rfl, fun j k hj => ?_⟩
  by_cases e : id = j
  · subst e
    rw [hT] at hj
    cases hj
    have hl : id < T.length := by
      rcases Nat.lt_or_ge id T.length with hl | hl
      · exact hl
      · rw [List.getElem?_eq_none hl] at hT; cases hT
    exact ⟨m, by simp [hl], by omega, fun h => by omega⟩
  · exact ⟨k, by rw [List.getElem?_set_ne e]; exact hj, Nat.le_refl k, fun _ => by simp [Gh.setOwn, List.getElem?_set_ne e]⟩

/-- THE TOKEN's SLICE NOW LIES IN A NEW ROW (a block that is new in w). -/
theorem Inv.setOwn (inv : Inv c B w0 G S w) {id : Nat} {old ow : Own} (hold : G.own[id]? = some old) (hlt : old.len < ow.len) (hcap : ow.len ≤ ow.cap)
    (hsp : ow.live → ∃ d o, ow.base = some ⟨d, o, none⟩ ∧ B.free d ∧ (∀ b : Nat, G.φ[b]? ≠ some (some d)) ∧
      ∃ vs t fr, w.heap[d]? = some (.cells vs t fr) ∧ o + ow.cap * ow.sz ≤ vs.size ∧ ∀ i, o + ow.len * ow.sz ≤ i → ¬ (fr.1 ≤ i ∧ i < fr.2) ∧ G.I d i = none)
    (hdis : ∀ (j : Nat) (oj : Own) (d o o' : Nat), j ≠ id → G.own[j]? = some oj → ow.live → oj.live → ow.base = some ⟨d, o, none⟩ → oj.base ≠ some ⟨d, o', none⟩) :
    Inv c B w0 (G.setOwn id ow) ⟨S.H, S.T.set id ow.len⟩ w ∧ Grows G S.T (G.setOwn id ow) (S.T.set id ow.len) := by
  have hid := lt_T inv hold
  have hT := (inv.own id old hold).1
  have gr : Grows G S.T (G.setOwn id ow) (S.T.set id ow.len) := grows_setOwn hT hlt
  have get : ∀ (j : Nat) (oj : Own), (G.own.set id ow)[j]? = some oj → (j = id ∧ oj = ow) ∨ (j ≠ id ∧ G.own[j]? = some oj) := by
    intro j oj h
    by_cases e : id = j
    · subst e; simp [hid.2] at h; exact .inl ⟨rfl, h.symm⟩
    · rw [List.getElem?_set_ne e] at h; exact .inr ⟨fun h => e h.symm, h⟩
  refine ⟨{
    below := inv.below
    base := inv.base
    iD := inv.iD
    lenφ := inv.lenφ
    lenO := by simp [Gh.setOwn, inv.lenO]
    inj := inv.inj
    low := inv.low
    tag := fun b cs hb x hx => Tag.low_mono (by simp) (inv.tag b cs hb x hx)
    blk := fun b d cells hb hφ => by
      obtain ⟨h1, us, u, fr, h2, h3, h4, h5⟩ := inv.blk b d cells hb hφ
      exact ⟨h1, us, u, fr, h2, h3, h4, fun i hi hi' => (h5 i hi hi').later gr.later⟩
    imm := inv.imm
    own := fun j oj h => by
      rcases get j oj h with ⟨rfl, rfl⟩ | ⟨hne, h'⟩
      · exact ⟨by simp [hid.1], ⟨hcap, fun h => by omega⟩, hsp⟩
      · obtain ⟨h1, h2, h3⟩ := inv.own j oj h'
        exact ⟨by show (S.T.set id ow.len)[j]? = _; rw [List.getElem?_set_ne (fun e => hne e.symm)]; exact h1, h2, h3⟩
    dis := fun i j oi oj d o o' hne hi hj li lj hb => by
      rcases get i oi hi with ⟨rfl, rfl⟩ | ⟨hni, hi'⟩
      · rcases get j oj hj with ⟨rfl, rfl⟩ | ⟨hnj, hj'⟩
        · exact absurd rfl hne
        · exact hdis j oj d o o' hnj hj' li lj hb
      · rcases get j oj hj with ⟨rfl, rfl⟩ | ⟨hnj, hj'⟩
        · intro hb'; exact hdis i oi d o' o hni hi' lj li hb' hb
        · exact inv.dis i j oi oj d o o' hne hi' hj' li lj hb
    ty := inv.ty
    glob := fun g cs h => ⟨(inv.glob g cs h).1.mono gr.mono, (inv.glob g cs h).2⟩
    know := fun I ty h h2 => inv.know I ty (fun d o v x => h d o v (gr.mono.I d o v x)) (fun d x e => h2 d x (gr.mono.ty d x e)) }, gr⟩

/-- CELLS BEHIND A TOKEN's SLICE ARE WRITTEN, AND STAY AS THEY ARE FROM NOW ON. -/
def Gh.span (G : Gh) (d o n : Nat) (f : Nat → Value) : Gh := { G with I := fun d' i => if d' = d ∧ o ≤ i ∧ i < o + n then some (f (i - o)) else G.I d' i }

theorem Inv.inPlace (inv : Inv c B w0 G S w) {id : Nat} {ow : Own} (hown : G.own[id]? = some ow) {d o : Nat} (hb : ow.base = some ⟨d, o, none⟩) {n : Nat} (hn : 1 ≤ n) (hcap : ow.len + n ≤ ow.cap) (hsz : 1 ≤ ow.sz)
    {w' : World} {us vs : Array Value} {t : TypeId} {fr : Nat × Nat} (hu : w.heap[d]? = some (.cells us t fr)) (hw : Writes w w' d (.cells vs t fr)) (hvs : vs.size = us.size) {f : Nat → Value}
    (hnew : ∀ i, i < n * ow.sz → vs[o + ow.len * ow.sz + i]? = some (f i)) (hkeep : ∀ i, i < o + ow.len * ow.sz ∨ o + (ow.len + n) * ow.sz ≤ i → vs[i]? = us[i]?) :
    Inv c B w0 ((G.span d (o + ow.len * ow.sz) (n * ow.sz) f).setOwn id { ow with len := ow.len + n }) ⟨S.H, S.T.set id (ow.len + n)⟩ w' ∧
    Grows G S.T ((G.span d (o + ow.len * ow.sz) (n * ow.sz) f).setOwn id { ow with len := ow.len + n }) (S.T.set id (ow.len + n)) := by
  obtain ⟨hT, hle, hspare⟩ := inv.own id ow hown
  obtain ⟨d', o', k1, k2, k3, us', t', fr', k4, k5, k6⟩ := hspare (.inl (by omega))
  rw [hb] at k1
  cases k1
  rw [hu] at k4
  cases k4
  have hmul : o + (ow.len + n) * ow.sz = o + ow.len * ow.sz + n * ow.sz := by rw [Nat.add_mul]; omega
  have mono : Mono G (G.span d (o + ow.len * ow.sz) (n * ow.sz) f) := by
    refine ⟨fun _ _ h => h, fun d1 i v h => ?_, fun _ _ h => h⟩
    simp only [Gh.span]
    split
    · rename_i hc
      obtain ⟨rfl, hc1, hc2⟩ := hc
      rw [(k6 i hc1).2] at h
      cases h
    · exact h
  have inv1 : Inv c B w0 (G.span d (o + ow.len * ow.sz) (n * ow.sz) f) S w' → False ∨ True := fun _ => .inr trivial
  have hid := lt_T inv hown
  have gr0 : Grows G S.T (G.span d (o + ow.len * ow.sz) (n * ow.sz) f) S.T := ⟨mono, fun _ _ => rfl, fun _ k h => ⟨k, h, Nat.le_refl k, fun _ => rfl⟩⟩
  have gr1 : Grows (G.span d (o + ow.len * ow.sz) (n * ow.sz) f) S.T ((G.span d (o + ow.len * ow.sz) (n * ow.sz) f).setOwn id { ow with len := ow.len + n }) (S.T.set id (ow.len + n)) :=
    grows_setOwn hT (by omega)
  have gr := gr0.trans gr1
  have get : ∀ (j : Nat) (oj : Own), (G.own.set id { ow with len := ow.len + n })[j]? = some oj → (j = id ∧ oj = { ow with len := ow.len + n }) ∨ (j ≠ id ∧ G.own[j]? = some oj) := by
    intro j oj h
    by_cases e : id = j
    · subst e; simp [hid.2] at h; exact .inl ⟨rfl, h.symm⟩
    · rw [List.getElem?_set_ne e] at h; exact .inr ⟨fun h => e h.symm, h⟩
  refine ⟨{
    below := hw.below inv.below k2
    base := fun d hd => inv.base d (by rw [hw.size] at hd; exact hd)
    iD := fun d1 i hd1 => by
      have : d1 ≠ d := fun e => k2 (e ▸ hd1)
      show (if d1 = d ∧ o + ow.len * ow.sz ≤ i ∧ i < o + ow.len * ow.sz + n * ow.sz then some (f (i - (o + ow.len * ow.sz))) else G.I d1 i) = _
      rw [if_neg (fun h => this h.1)]
      exact inv.iD d1 i hd1
    lenφ := inv.lenφ
    lenO := by simp [Gh.setOwn, Gh.span, inv.lenO]
    inj := inv.inj
    low := inv.low
    tag := fun b cs hb x hx => Tag.low_mono (by simp) (inv.tag b cs hb x hx)
    blk := fun b d1 cells hb1 hφ => by
      obtain ⟨h1, us1, u, fr1, h2, h3, h4, h5⟩ := inv.blk b d1 cells hb1 hφ
      have hne : d1 ≠ d := fun e => k3 b (e ▸ hφ)
      exact ⟨h1, us1, u, fr1, by rw [hw.other d1 hne]; exact h2, h3, h4, fun i hi hi' => (h5 i hi hi').later gr.later⟩
    imm := fun d1 i v h => by
      have h' : (if d1 = d ∧ o + ow.len * ow.sz ≤ i ∧ i < o + ow.len * ow.sz + n * ow.sz then some (f (i - (o + ow.len * ow.sz))) else G.I d1 i) = some v := h
      split at h'
      · rename_i hc
        obtain ⟨rfl, hc1, hc2⟩ := hc
        cases h'
        refine ⟨?_, k3⟩
        rw [cell_of_heap hw.at_]
        have := hnew (i - (o + ow.len * ow.sz)) (by omega)
        rw [show o + ow.len * ow.sz + (i - (o + ow.len * ow.sz)) = i by omega] at this
        exact this
      · rename_i hc
        obtain ⟨h1, h2⟩ := inv.imm d1 i v h'
        refine ⟨?_, h2⟩
        by_cases e : d1 = d
        · subst e
          rw [cell_of_heap hu] at h1
          rw [cell_of_heap hw.at_, hkeep i]
          · exact h1
          · rw [hmul]; omega
        · rw [hw.cell e]; exact h1
    own := fun j oj h => by
      rcases get j oj h with ⟨rfl, rfl⟩ | ⟨hne, h'⟩
      · refine ⟨by simp [hid.1], ⟨hcap, fun h => by simp only at h; omega⟩, fun hlt => ⟨d, o, hb, k2, k3, vs, t, fr, hw.at_, by rw [hvs]; exact k5, fun i hi => ?_⟩⟩
        simp only at hi
        rw [hmul] at hi
        refine ⟨(k6 i (by omega)).1, ?_⟩
        show (if d = d ∧ o + ow.len * ow.sz ≤ i ∧ i < o + ow.len * ow.sz + n * ow.sz then some (f (i - (o + ow.len * ow.sz))) else G.I d i) = none
        rw [if_neg (by omega)]
        exact (k6 i (by omega)).2
      · obtain ⟨h1, h2, h3⟩ := inv.own j oj h'
        refine ⟨by show (S.T.set id (ow.len + n))[j]? = _; rw [List.getElem?_set_ne (fun e => hne e.symm)]; exact h1, h2, fun hlt => ?_⟩
        obtain ⟨d2, o2, q1, q2, q3, us2, u2, fr2, q4, q5, q6⟩ := h3 hlt
        have hd2 : d2 ≠ d := fun e => inv.dis j id oj ow d2 o2 o hne h' hown hlt (.inl (by omega)) q1 (by rw [e]; exact hb)
        refine ⟨d2, o2, q1, q2, q3, us2, u2, fr2, by rw [hw.other d2 hd2]; exact q4, q5, fun i hi => ⟨(q6 i hi).1, ?_⟩⟩
        show (if d2 = d ∧ o + ow.len * ow.sz ≤ i ∧ i < o + ow.len * ow.sz + n * ow.sz then some (f (i - (o + ow.len * ow.sz))) else G.I d2 i) = none
        rw [if_neg (fun e => hd2 e.1)]
        exact (q6 i hi).2
    dis := fun i j oi oj d1 o1 o1' hne hi hj li lj hb1 => by
      rcases get i oi hi with ⟨rfl, rfl⟩ | ⟨hni, hi'⟩
      · rcases get j oj hj with ⟨rfl, rfl⟩ | ⟨hnj, hj'⟩
        · exact absurd rfl hne
        · exact inv.dis i j ow oj d1 o1 o1' hne hown hj' (.inl (by omega)) lj hb1
      · rcases get j oj hj with ⟨rfl, rfl⟩ | ⟨hnj, hj'⟩
        · exact inv.dis i j oi ow d1 o1 o1' hne hi' hown li (.inl (by omega)) hb1
        · exact inv.dis i j oi oj d1 o1 o1' hne hi' hj' li lj hb1
    ty := ty_writes inv.ty hu hw.at_ hw.other hvs (fun h => h)
    glob := fun g cs h => ⟨(inv.glob g cs h).1.mono gr.mono, (inv.glob g cs h).2⟩
    know := fun I ty h h2 => inv.know I ty (fun d o v x => h d o v (gr.mono.I d o v x)) (fun d x e => h2 d x (gr.mono.ty d x e)) }, gr⟩

/-- A NEW TOKEN, for a slice in a new row. -/
theorem Inv.pushOwn (inv : Inv c B w0 G S w) (ow : Own) (hcap : ow.ok)
    (hsp : ow.live → ∃ d o, ow.base = some ⟨d, o, none⟩ ∧ B.free d ∧ (∀ b : Nat, G.φ[b]? ≠ some (some d)) ∧
      ∃ vs t fr, w.heap[d]? = some (.cells vs t fr) ∧ o + ow.cap * ow.sz ≤ vs.size ∧ ∀ i, o + ow.len * ow.sz ≤ i → ¬ (fr.1 ≤ i ∧ i < fr.2) ∧ G.I d i = none)
    (hdis : ∀ (j : Nat) (oj : Own) (d o o' : Nat), G.own[j]? = some oj → ow.live → oj.live → ow.base = some ⟨d, o, none⟩ → oj.base ≠ some ⟨d, o', none⟩) :
    Inv c B w0 { G with own := G.own ++ [ow] } ⟨S.H, S.T ++ [ow.len]⟩ w ∧ Grows G S.T { G with own := G.own ++ [ow] } (S.T ++ [ow.len]) := by
  have ltT : ∀ (id n : Nat), S.T[id]? = some n → id < S.T.length := by
    intro id n h
    rcases Nat.lt_or_ge id S.T.length with hl | hl
    · exact hl
    · rw [List.getElem?_eq_none hl] at h; cases h
  have gr : Grows G S.T { G with own := G.own ++ [ow] } (S.T ++ [ow.len]) := by
    refine ⟨⟨fun _ _ h => h, fun _ _ _ h => h, fun _ _ h => h⟩, fun _ _ => rfl, fun id n hn => ⟨n, ?_, Nat.le_refl n, fun _ => ?_⟩⟩
    · rw [List.getElem?_append_left (ltT id n hn)]; exact hn
    · show (G.own ++ _)[id]? = _
      rw [List.getElem?_append_left (by rw [inv.lenO]; exact ltT id n hn)]
  have get : ∀ (i : Nat) (oi : Own), (G.own ++ [ow])[i]? = some oi → G.own[i]? = some oi ∨ (i = G.own.length ∧ oi = ow) := by
    intro i oi h
    rcases Nat.lt_trichotomy i G.own.length with hl | hl | hl
    · rw [List.getElem?_append_left hl] at h; exact .inl h
    · subst hl; simp at h; exact .inr ⟨rfl, h.symm⟩
    · rw [List.getElem?_append_right (by omega), List.getElem?_eq_none (by simp; omega)] at h; cases h
  have ltO : ∀ (i : Nat) (oi : Own), G.own[i]? = some oi → i < G.own.length := by
    intro i oi h
    rcases Nat.lt_or_ge i G.own.length with hl | hl
    · exact hl
    · rw [List.getElem?_eq_none hl] at h; cases h
  refine ⟨{
    below := inv.below
    base := inv.base
    iD := inv.iD
    lenφ := inv.lenφ
    lenO := by simp [inv.lenO]
    inj := inv.inj
    low := inv.low
    tag := fun b cs hb x hx => Tag.low_mono (by simp) (inv.tag b cs hb x hx)
    blk := fun b d cells hb hφ => by
      obtain ⟨h1, us, u, fr, h2, h3, h4, h5⟩ := inv.blk b d cells hb hφ
      exact ⟨h1, us, u, fr, h2, h3, h4, fun i hi hi' => (h5 i hi hi').later gr.later⟩
    imm := inv.imm
    own := fun j oj h => by
      rcases get j oj h with h' | ⟨rfl, rfl⟩
      · obtain ⟨h1, h2, h3⟩ := inv.own j oj h'
        exact ⟨by show (S.T ++ _)[j]? = _; rw [List.getElem?_append_left (ltT j _ h1)]; exact h1, h2, h3⟩
      · exact ⟨by show (S.T ++ _)[G.own.length]? = _; rw [inv.lenO]; simp, hcap, hsp⟩
    dis := fun i j oi oj d o o' hne hi hj li lj hb => by
      rcases get i oi hi with hi' | ⟨rfl, rfl⟩
      · rcases get j oj hj with hj' | ⟨rfl, rfl⟩
        · exact inv.dis i j oi oj d o o' hne hi' hj' li lj hb
        · intro hb'; exact hdis i oi d o' o hi' lj li hb' hb
      · rcases get j oj hj with hj' | ⟨rfl, rfl⟩
        · exact hdis j oj d o o' hj' li lj hb
        · exact absurd rfl hne
    ty := inv.ty
    glob := fun g cs h => ⟨(inv.glob g cs h).1.mono gr.mono, (inv.glob g cs h).2⟩
    know := fun I ty h h2 => inv.know I ty (fun d o v x => h d o v (gr.mono.I d o v x)) (fun d x e => h2 d x (gr.mono.ty d x e)) }, gr⟩
end
end Go.Ab
end
section
namespace Go.Ab
open Go.RowKit
section
variable {c : Ctx} {B : Bd} {w0 : World} {G : Gh} {S : St} {w : World} {ρ : Operand → SV} {σ : Operand → Value}

/-- what an operation does to state and world -/
def Does (c : Ctx) (B : Bd) (w0 : World) (G : Gh) (S : St) (w : World) (σ : Operand → Value) (o : Oper) (x : SV) (S' : St) : Prop :=
  ∃ w' G' nx v, (execOp σ o).run c.P w = .ok nx w' ∧ (nx = .value v ∨ (nx = .skip ∧ v = undef)) ∧ Inv c B w0 G' S' w' ∧ Grows G S.T G' S'.T ∧ RS G' S'.T x v

theorem Yields.does {o : Oper} {x : SV} (inv : Inv c B w0 G S w) (h : Yields c G S.T w σ o x) : Does c B w0 G S w σ o x S := by
  obtain ⟨v, h1, h2⟩ := h
  exact ⟨w, G, _, v, h1, .inl rfl, inv, .refl _ _, h2⟩

/-! ### writing cells in a row -/
theorem setCells_spec (d : Nat) (t : TypeId) (fr : Nat × Nat) : ∀ (vs : List Value) (o : Nat) (w : World) (us : Array Value), w.heap[d]? = some (.cells us t fr) →
    Writes w (w.setCells d o vs) d (.cells (putRow us o vs.toArray) t fr) := by
  intro vs
  induction vs with
  | nil =>
    intro o w us h
    have e : putRow us o (#[] : Array Value) = us := by
      apply Array.ext_getElem?
      intro i
      rw [putRow_get, if_neg (by simp; omega)]
    exact ⟨by rw [World.setCells]; simpa [e] using h, fun _ _ => rfl, rfl, rfl, rfl, rfl⟩
  | cons v vs ih =>
    intro o w us h
    have h1 : (w.setCell ⟨d, o, none⟩ v).heap[d]? = some (.cells (us.setIfInBounds o v) t fr) := by
      simp [World.setCell, Array.getElem?_modify, h]
    obtain ⟨a1, a2, a3, a4, a5, a6⟩ := ih (o + 1) (w.setCell ⟨d, o, none⟩ v) _ h1
    have e : putRow (us.setIfInBounds o v) (o + 1) vs.toArray = putRow us o (v :: vs).toArray := by
      apply Array.ext_getElem?
      intro i
      rw [putRow_get, putRow_get]
      simp only [Array.size_setIfInBounds, List.size_toArray, List.length_cons]
      by_cases c1 : o + 1 ≤ i ∧ i < o + 1 + vs.length ∧ i < us.size
      · rw [if_pos c1, if_pos (by omega), show i - o = (i - (o + 1)) + 1 by omega]
        simp
      · rw [if_neg c1]
        by_cases c2 : i = o
        · subst c2
          by_cases c3 : i < us.size
          · rw [if_pos (by omega)]; simp [c3]
          · rw [if_neg (by omega)]; simp [c3]
        · rw [Array.getElem?_setIfInBounds_ne (by omega), if_neg (by omega)]
    rw [World.setCells]
    refine ⟨by rw [a1, e], fun k hk => ?_, ?_, by rw [a4]; rfl, by rw [a5]; rfl, by rw [a6]; rfl⟩
    · rw [a2 k hk]
      simp only [World.setCell, Array.getElem?_modify]
      rw [if_neg (by simpa using fun e => hk e.symm)]
    · rw [a3]; simp [World.setCell]

theorem frozen_of {w : World} {d i : Nat} {us : Array Value} {t : TypeId} {fr : Nat × Nat} (h : w.heap[d]? = some (.cells us t fr)) (hf : ¬ (fr.1 ≤ i ∧ i < fr.2)) : w.frozen? ⟨d, i, none⟩ = false := by
  obtain ⟨lo, hi⟩ := fr
  simp only [World.frozen?, h, Bool.and_eq_false_iff, decide_eq_false_iff_not]
  simp only at hf
  omega

theorem oneCell_of {x : AV} {v : Value} (h : R G x v) (hx : x.isCell = true) : v.oneCell' = true := by
  cases h <;> first | rfl | (simp [AV.isCell] at hx; done)

/-- what stays known when only what is still low is kept -/
theorem RS.keepIn {T : List Nat} {older : Bool} {b : Nat} {old new : SV} {v : Value} (h : RS G T new v) : RS G T (Ab.keepIn older b old new) v := by
  obtain ⟨x, tg⟩ := new
  obtain ⟨hr, ht⟩ := h
  unfold Ab.keepIn
  split
  · refine ⟨hr, ?_⟩
    simp only
    unfold keepTag
    cases tg with
    | tok i =>
      simp only
      split
      · split
        · split
          · exact ht
          · exact RT.no
        · exact RT.no
      · exact ht
    | full => exact ht
    | no => exact RT.no
    | agg ts => exact RT.no
  · exact RS.no (.undef _)
theorem keepIn_low {older : Bool} {b : Nat} {old new : SV} : (Ab.keepIn older b old new).1.low (b + 1) = true := by
  unfold Ab.keepIn
  split
  · rename_i h; exact h
  · rfl

theorem keepIn_flat {older : Bool} {b : Nat} {old new : SV} : (Ab.keepIn older b old new).2.flat = (Ab.keepIn older b old new).2 := by
  unfold Ab.keepIn
  split
  · simp only
    unfold keepTag
    split
    · split
      · split
        · split <;> rfl
        · rfl
      · rfl
    · rfl
    · rfl
  · rfl

theorem RSs.keep {T : List Nat} {older : Bool} {b o : Nat} {old cells : List SV} {vs : Array Value} (h : RSs G T cells vs) :
    RSs G T (cells.zipIdx.map fun (x, i) => Ab.keepIn older b (old.getD (o + i) (.undef, .no)) x) vs := by
  refine ⟨by simpa using h.1, fun i hi hi' => ?_⟩
  simp only [List.getElem_map, List.getElem_zipIdx]
  exact RS.keepIn (h.2 i (by simpa using hi) hi')
theorem replaceAt_mem {α : Type} {l new : List α} {off : Nat} {x : α} (h : x ∈ replaceAt l off new) : x ∈ l ∨ x ∈ new := by
  unfold replaceAt at h
  rcases List.mem_append.1 h with h | h
  · rcases List.mem_append.1 h with h | h
    · exact .inl (List.mem_of_mem_take h)
    · exact .inr h
  · exact .inl (List.mem_of_mem_drop h)

theorem put_le {T : List Nat} {cs new : List SV} {vs nv : Array Value} {off : Nat} (hl : cs.length ≤ vs.size) (h : ∀ i (h : i < cs.length) (h' : i < vs.size), RS G T cs[i] vs[i]) (hn : RSs G T new nv)
    (ho : off + new.length ≤ cs.length) : ∀ i (h : i < (replaceAt cs off new).length) (h' : i < (putRow vs off nv).size), RS G T (replaceAt cs off new)[i] (putRow vs off nv)[i] := by
  intro i hi hi'
  have e1 := replaceAt_get ho i
  have e2 := putRow_get vs off nv i
  rw [List.getElem?_eq_getElem hi] at e1
  rw [Array.getElem?_eq_getElem hi'] at e2
  have hnl := hn.1
  rw [replaceAt_length ho] at hi
  by_cases hc : off ≤ i ∧ i < off + new.length
  · rw [if_pos hc] at e1
    rw [if_pos (by omega)] at e2
    rw [List.getElem?_eq_getElem (by omega)] at e1
    rw [Array.getElem?_eq_getElem (by omega)] at e2
    rw [Option.some.inj e1, Option.some.inj e2]
    exact hn.2 _ _ _
  · rw [if_neg hc] at e1
    rw [if_neg (by omega)] at e2
    rw [List.getElem?_eq_getElem (by omega)] at e1
    rw [Array.getElem?_eq_getElem (by omega)] at e2
    rw [Option.some.inj e1, Option.some.inj e2]
    exact h _ _ _

theorem d_store {e : Env0} (he : e.c = c) {o : Oper} {t : TypeId} {a y : Operand} {x : SV} {S' : St} (hop : o.op = .store t a y) (inv : Inv c B w0 G S w) (hρ : ∀ x, RS G S.T (ρ x) (σ x))
    (h : e.act (.store t a y) ρ S = some (.ok x S')) : Does c B w0 G S w σ o x S' := by
  subst he
  simp only [Env0.act] at h
  split at h <;> first | (cases h; done) | skip
  rename_i b off ha
  split at h <;> first | (cases h; done) | skip
  rename_i cells hb
  obtain ⟨⟨hlen, hsz1, hle, hall⟩, h9⟩ := Option.ite_none_right_eq_some.1 h
  cases h9
  have hra := (hρ a).1
  rw [ha] at hra
  generalize hav : σ a = av at *
  cases hra with
  | ptr _ _ d hφ =>
    have hk : (ρ y).1.known = true := by
      cases hy : (ρ y).1 <;> first | rfl | skip
      simp [expand, hy, AV.isCell] at hall
    have hs := expand_sound (hρ y) hk
    obtain ⟨hB, us, u, fr, hu, hus, hfr, hR⟩ := inv.blk b d cells hb hφ
    have hone : ∀ v ∈ (σ y).cells.toList, v.oneCell' = true := by
      intro v hv
      obtain ⟨j, hj, rfl⟩ := List.getElem_of_mem hv
      have hj' : j < (σ y).cells.size := by simpa using hj
      have hj2 : j < (expand (ρ y)).length := by rw [hs.1]; exact hj'
      have h1 := (hs.2 j hj2 hj').1
      rw [List.all_eq_true] at hall
      have h2 := hall _ (List.getElem_mem hj2)
      simpa using oneCell_of h1 h2
    have hn : (σ y).cells.size = tsz e.c.P t := by rw [← hs.1]; exact hlen
    have hst := run_storeCells_cells (P := e.c.P) d off (σ y).cells.toList 0 w (fun j hj => by
        have hj' : j < (σ y).cells.size := by simpa using hj
        rw [cell_of_heap hu, Nat.add_zero, Array.getElem?_eq_getElem (by omega)]; rfl) (fun j hj => by
        have hj' : j < (σ y).cells.size := by simpa using hj
        exact frozen_of hu (hfr _ (by omega))) hone
    have hw := setCells_spec d u fr (σ y).cells.toList off w us hu
    obtain ⟨i, hi, hsz⟩ := info_of_tsz hsz1
    refine ⟨_, G, .skip, undef, ?_, .inr ⟨rfl, rfl⟩, inv.blkSet hb hφ hu hw (putRow_size _ _ _) ?_ ?_ ?_ ?_, .refl _ _, RS.no (.tup [] #[] rfl (fun i h => absurd h (by simp)))⟩
    · simp only [execOp, hop, Instr.storeAt, hav, Instr.sureAddr, storeVar, run_sizeOf e.c.P w hi, Sem.run_bind, Result.andThen_ok, Sem.run_pure, hn, hsz, ne_eq, not_true_eq_false, if_false]
      rw [hst]
      rfl
    · unfold Ab.storeCells
      rw [replaceAt_length]
      simp; omega
    · intro z hz
      rcases replaceAt_mem hz with h1 | h1
      · exact inv.low b cells hb z h1
      · obtain ⟨q, hq, rfl⟩ := List.mem_map.1 h1
        exact keepIn_low
    · intro z hz
      rcases replaceAt_mem hz with h1 | h1
      · exact inv.tag b cells hb z h1
      · obtain ⟨i, hi, rfl⟩ := List.getElem_of_mem h1
        have hk := hs.keep (older := decide (b < e.n0)) (b := b) (o := off) (old := cells)
        refine (hk.2 i hi (by rw [← hk.1]; exact hi)).tagLow ?_
        simp only [List.getElem_map]
        exact keepIn_flat
    · have := put_le hus hR (hs.keep (older := decide (b < e.n0)) (b := b) (o := off) (old := cells)) (off := off) (by simp; omega)
      simpa [Ab.storeCells] using this

theorem tagZ_flat (q : AV) : (tagZ q).flat = tagZ q := by cases q <;> rfl
/-- the size of a list's elements, by the first -/
def headSz : List AV → Nat
  | [] => 0
  | y :: _ => y.cells.length
/-- the tokens of a new variable's slices without spare room -/
theorem newCells_spec (inv : Inv c B w0 G S w) (pre : Bool) : ∀ (cells : List SV) (vs : List Value) (os : List Own), (∀ ow ∈ os, ow.shut) → cells.length = vs.length → (∀ i (h : i < cells.length) (h' : i < vs.length), RS G S.T cells[i] vs[i]) →
    ∃ ows : List Own, (∀ ow ∈ ows, ow.shut) ∧ (newCells pre cells (S.T.length + os.length)).2 = ows.map Own.len ∧ (newCells pre cells (S.T.length + os.length)).1.length = vs.length ∧
      ∀ i (h : i < (newCells pre cells (S.T.length + os.length)).1.length) (h' : i < vs.length),
        RS { G with own := G.own ++ (os ++ ows) } (S.T ++ (os ++ ows).map Own.len) (newCells pre cells (S.T.length + os.length)).1[i] vs[i] := by
  intro cells
  induction cells with
  | nil => intro vs os _ hl _; cases vs with
    | nil => exact ⟨[], by simp, rfl, rfl, fun i h => absurd h (by simp [newCells])⟩
    | cons => simp at hl
  | cons x cells ih =>
    intro vs os hos hl hr
    cases vs with
    | nil => simp at hl
    | cons v vs =>
      have h0 : RS G S.T x v := hr 0 (by simp) (by simp)
      have hrest : ∀ i (h : i < cells.length) (h' : i < vs.length), RS G S.T cells[i] vs[i] := fun i h h' => hr (i + 1) (by simp; omega) (by simp; omega)
      have hl' : cells.length = vs.length := by simpa using hl
      have keep : ∀ ows : List Own, (∀ ow ∈ ows, ow.shut) → RS { G with own := G.own ++ ows } (S.T ++ ows.map Own.len) x v := fun ows h => h0.later (inv.toks ows h).2.later
      have plain : newCells pre (x :: cells) (S.T.length + os.length) = (x :: (newCells pre cells (S.T.length + os.length)).1, (newCells pre cells (S.T.length + os.length)).2) →
          ∃ ows : List Own, (∀ ow ∈ ows, ow.shut) ∧ (newCells pre (x :: cells) (S.T.length + os.length)).2 = ows.map Own.len ∧ (newCells pre (x :: cells) (S.T.length + os.length)).1.length = (v :: vs).length ∧
            ∀ i (h : i < (newCells pre (x :: cells) (S.T.length + os.length)).1.length) (h' : i < (v :: vs).length),
              RS { G with own := G.own ++ (os ++ ows) } (S.T ++ (os ++ ows).map Own.len) (newCells pre (x :: cells) (S.T.length + os.length)).1[i] (v :: vs)[i] := by
        intro e
        obtain ⟨ows, h0, h1, h2, h3⟩ := ih vs os hos hl' hrest
        refine ⟨ows, h0, by rw [e]; exact h1, by rw [e]; simp [h2], ?_⟩
        rw [e]
        intro i h h'
        cases i with
        | zero => exact keep _ (fun ow h => (List.mem_append.1 h).elim (hos ow) (h0 ow))
        | succ i => simpa using h3 i (by simpa using h) (by simpa using h')
      obtain ⟨x, tg⟩ := x
      by_cases hx : (∃ xs, x = .sl xs) ∧ tg = .full ∧ pre = true
      · obtain ⟨⟨xs, rfl⟩, rfl, rfl⟩ := hx
        have hval : ∃ b, v = .slice b xs.length xs.length := by
          have h1 := h0.1
          have h2 := h0.2.1
          cases h1 with
          | nils b => exact ⟨b, rfl⟩
          | sl sz _ cc oo cap f hs hc hI hR h1c =>
            have := h2 _ _ _ rfl
            exact ⟨some ⟨cc, oo, none⟩, by rw [← this]⟩
        obtain ⟨b, rfl⟩ := hval
        let ow : Own := ⟨b, xs.length, xs.length, headSz xs, false⟩
        have e : newCells true ((.sl xs, .full) :: cells) (S.T.length + os.length) = ((.sl xs, .tok (S.T.length + os.length)) :: (newCells true cells (S.T.length + (os ++ [ow]).length)).1, xs.length :: (newCells true cells (S.T.length + (os ++ [ow]).length)).2) := by
          simp only [newCells, if_true, List.length_append, List.length_singleton, Nat.add_assoc]
        have hos' : ∀ x ∈ os ++ [ow], x.shut := fun x h => by
          rcases List.mem_append.1 h with h | h
          · exact hos x h
          · rw [List.mem_singleton] at h; subst h; exact ⟨rfl, rfl⟩
        obtain ⟨ows, g0, h1, h2, h3⟩ := ih vs (os ++ [ow]) hos' hl' hrest
        refine ⟨ow :: ows, fun x h => ?_, by rw [e, h1]; rfl, by rw [e]; exact congrArg (· + 1) h2, ?_⟩
        · rcases List.mem_cons.1 h with h | h
          · subst h; exact ⟨rfl, rfl⟩
          · exact g0 x h
        rw [e]
        intro i h h'
        have ea : os ++ ow :: ows = os ++ [ow] ++ ows := by simp
        rw [ea]
        cases i with
        | zero =>
          have hv := keep (os ++ [ow] ++ ows) (fun x h => (List.mem_append.1 h).elim (hos' x) (g0 x))
          refine ⟨hv.1, ⟨xs.length, ?_, Nat.le_refl _, fun _ b' l cc hv => ⟨ow, ?_, ?_, fun y ys hy => ?_, fun t y ys hy => by cases hy⟩, fun t y ys hy => by cases hy⟩, ?_⟩
          · rw [List.getElem?_append_right (by omega)]
            simp only [Nat.add_sub_cancel_left]
            simp [ow]
          · show (G.own ++ _)[S.T.length + os.length]? = _
            rw [← inv.lenO, List.getElem?_append_right (by omega)]
            simp
          · rfl
          · cases hy; rfl
          · trivial
        | succ i => simpa using h3 i (by simpa using h) (by simpa using h')
      · refine plain ?_
        cases pre with
        | false =>
          cases x <;> cases tg <;> rfl
        | true =>
          cases x <;> cases tg <;> first
            | rfl
            | exact absurd ⟨⟨_, rfl⟩, rfl, rfl⟩ hx

theorem newCells_flat (pre : Bool) : ∀ (cells : List SV) (m : Nat), (∀ x ∈ cells, x.2.flat = x.2) → ∀ x ∈ (newCells pre cells m).1, x.2.flat = x.2 := by
  intro cells
  induction cells with
  | nil => intro m _ x hx; cases hx
  | cons y ys ih =>
    intro m h x hx
    have hy := h y (List.mem_cons_self ..)
    have hys : ∀ x ∈ ys, x.2.flat = x.2 := fun z hz => h z (List.mem_cons_of_mem _ hz)
    unfold newCells at hx
    split at hx
    · cases hx
    · rename_i heq
      cases heq
      split at hx
      · rcases List.mem_cons.1 hx with rfl | hx
        · rfl
        · exact ih _ hys x hx
      · rcases List.mem_cons.1 hx with rfl | hx
        · exact hy
        · exact ih _ hys x hx
    · rename_i heq
      cases heq
      rcases List.mem_cons.1 hx with rfl | hx
      · exact hy
      · exact ih _ hys x hx
theorem newVar_sound {e : Env0} {t : TypeId} {cells : List SV} {vs : Array Value} {x : SV} {S' : St} (inv : Inv c B w0 G S w) (hr : RSs G S.T cells vs) (hf : ∀ x ∈ cells, x.2.flat = x.2) (h : e.newVar t cells S = .ok x S') :
    ∃ G', Inv c B w0 G' S' (w.alloc (.cells vs t)) ∧ Grows G S.T G' S'.T ∧ RS G' S'.T x (.pointer (some ⟨w.heap.size, 0, none⟩)) := by
  unfold Env0.newVar at h
  cases h
  obtain ⟨m, h0, h1, h2, h3⟩ := newCells_spec inv (e.pre t) cells vs.toList [] (by simp) (by simpa using hr.1) (fun i a b => by simpa using hr.2 i a (by simpa using b))
  simp only [List.length_nil, Nat.add_zero, List.nil_append] at h1 h2 h3
  obtain ⟨i1, g1⟩ := inv.toks m h0
  have i2 := i1.newVar (newCells (e.pre t) cells S.T.length).1 vs t (by rw [h2]; simp) (fun i a b => by have := h3 i a (by simpa using b); rw [Array.getElem_toList] at this; exact this) (newCells_flat _ _ _ hf)
  rw [h1]
  refine ⟨_, i2, g1.trans (grows_var i1 _ _), RS.no (.ptr _ _ _ ?_)⟩
  show (G.φ ++ [some w.heap.size])[S.H.length]? = _
  rw [← inv.lenφ]
  simp

theorem absS_nilptr {v : Value} (h : absS v = .nilptr) : v = .pointer none := by
  unfold absS at h
  split at h <;> first | rfl | cases h
theorem absS_nils {v : Value} (h : absS v = .sl []) : v = .slice none 0 0 := by
  unfold absS at h
  split at h <;> first | rfl | cases h
theorem zeroB_cells {P : Program} {t : TypeId} {i : TypeInfo} {z : Value} (hi : P.info? t = some i) (hz : i.zero = some z) (h : isZeroB (tzs P t) = true) : z.cells = #[.pointer none, .slice none 0 0] := by
  have e : tzs P t = z.cells.toList.map (fun v => (absS v, tagZ (absS v))) := by simp [tzs, tz, hi, hz]
  rw [e] at h
  unfold isZeroB at h
  split at h <;> first | (cases h; done) | skip
  rename_i hq
  obtain ⟨l⟩ : Nonempty (List Value) := ⟨z.cells.toList⟩
  cases hl : z.cells.toList with
  | nil => rw [hl] at hq; cases hq
  | cons a r =>
    cases r with
    | nil => rw [hl] at hq; simp at hq
    | cons b r =>
      rw [hl] at hq
      simp only [List.map_cons, List.cons.injEq, Prod.mk.injEq, List.map_eq_nil_iff] at hq
      obtain ⟨⟨h1, _⟩, ⟨h2, _⟩, h3⟩ := hq
      have := absS_nilptr h1
      have := absS_nils h2
      subst_vars
      apply Array.toList_inj.1
      rw [hl]
/-- more is known of a block's cells -/
theorem Inv.reblk (inv : Inv c B w0 G S w) {b d : Nat} {cells cells' : List SV} {us : Array Value} {u : TypeId} {fr : Nat × Nat} (hb : S.H[b]? = some cells) (hφ : G.φ[b]? = some (some d))
    (hu : w.heap[d]? = some (.cells us u fr)) (hfr : ∀ o, o < cells'.length → ¬ (fr.1 ≤ o ∧ o < fr.2)) (hlen : cells'.length ≤ us.size) (hlow : ∀ x ∈ cells', x.1.low (b + 1) = true) (htag : ∀ x ∈ cells', x.2.low S.T.length = true)
    (hr : ∀ i (h : i < cells'.length) (h' : i < us.size), RS G S.T cells'[i] us[i]) : Inv c B w0 G ⟨S.H.set b cells', S.T⟩ w := by
  have hlt := (inv.φ_lt hφ).2
  have get : ∀ (b' : Nat) (cs : Blk), (S.H.set b cells')[b']? = some cs → (b' = b ∧ cs = cells') ∨ (b' ≠ b ∧ S.H[b']? = some cs) := fun b' cs h => by
    by_cases e : b = b'
    · subst e; simp [hlt] at h; exact .inl ⟨rfl, h.symm⟩
    · rw [List.getElem?_set_ne e] at h; exact .inr ⟨fun h => e h.symm, h⟩
  exact {
    below := inv.below
    base := inv.base
    iD := inv.iD
    lenφ := by simp [inv.lenφ]
    lenO := inv.lenO
    inj := inv.inj
    low := fun b' cs hb' => by
      rcases get b' cs hb' with ⟨rfl, rfl⟩ | ⟨_, h⟩
      · exact hlow
      · exact inv.low b' cs h
    tag := fun b' cs hb' => by
      rcases get b' cs hb' with ⟨rfl, rfl⟩ | ⟨_, h⟩
      · exact htag
      · exact inv.tag b' cs h
    blk := fun b' d' cs hb' hφ' => by
      rcases get b' cs hb' with ⟨rfl, rfl⟩ | ⟨_, h⟩
      · obtain ⟨p1, us', t', fr', p2, p3, p4, p5⟩ := inv.blk _ d cells hb hφ
        rw [hφ] at hφ'
        cases hφ'
        rw [hu] at p2
        cases p2
        exact ⟨p1, us, u, fr, hu, hlen, hfr, hr⟩
      · exact inv.blk b' d' cs h hφ'
    imm := inv.imm
    own := inv.own
    dis := inv.dis
    ty := inv.ty
    glob := inv.glob
    know := inv.know }
theorem d_alloc {e : Env0} (he : e.c = c) {o : Oper} {t : TypeId} {x : SV} {S' : St} (hop : o.op = .alloc t) (inv : Inv c B w0 G S w)
    (h : e.act (.alloc t) ρ S = some (.ok x S')) : Does c B w0 G S w σ o x S' := by
  subst he
  simp only [Env0.act] at h
  obtain ⟨hz, h⟩ := Option.ite_none_right_eq_some.1 h
  obtain ⟨i, z, hi, hz⟩ := of_hasZero hz
  have hzero : (zeroValue t).run e.c.P w = .ok z w := by simp [zeroValue, typeInfo, hi, hz]
  have run : (execOp σ o).run e.c.P w = .ok (.value (.pointer (some ⟨w.heap.size, 0, none⟩))) (w.alloc (.cells z.cells t)) := by
    simp [execOp, hop, Instr.alloc, hzero, newVar, newRow]
  split at h
  · obtain ⟨G', h1, h2, h3⟩ := newVar_sound inv (zero_sound (G := G) (T := S.T) hi hz) (fun x hx => by obtain ⟨q, _, rfl⟩ := List.mem_map.1 hx; exact tagZ_flat q) (Option.some.inj h)
    exact ⟨_, G', _, .pointer (some ⟨w.heap.size, 0, none⟩), run, .inl rfl, h1, h2, h3⟩
  · rename_i u hu
    obtain ⟨hc, h⟩ := Option.ite_none_right_eq_some.1 h
    cases h
    rw [Bool.and_eq_true] at hc
    obtain ⟨hzb, _⟩ := hc
    have hcs := zeroB_cells hi hz hzb
    obtain ⟨it, gt⟩ := inv.toks [⟨none, 0, 0, 1, false⟩] (fun ow h => by rw [List.mem_singleton] at h; subst h; exact ⟨rfl, rfl⟩)
    have ibase := it.newVar [] z.cells t (by simp) (fun i h => absurd h (by simp)) (by simp)
    generalize hG1 : ({ G with own := G.own ++ [⟨none, 0, 0, 1, false⟩] } : Gh) = G1 at it gt ibase
    have hφ : (G1.var w.heap.size (t, z.cells.size)).φ[S.H.length]? = some (some w.heap.size) := by
      show (G1.φ ++ [some w.heap.size])[S.H.length]? = _
      rw [← inv.lenφ, ← hG1]; simp
    have hty : (G1.var w.heap.size (t, z.cells.size)).ty w.heap.size = some (t, 2) := by
      show (if w.heap.size = w.heap.size then some (t, z.cells.size) else _) = _
      rw [if_pos rfl, hcs]; rfl
    have hown : (G1.var w.heap.size (t, z.cells.size)).own[S.T.length]? = some ⟨none, 0, 0, 1, false⟩ := by
      show G1.own[S.T.length]? = _
      rw [← inv.lenO, ← hG1]; simp
    have i2 := ibase.reblk (b := S.H.length) (cells := []) (cells' := zeroB t u S.H.length S.T.length) (d := w.heap.size) (us := z.cells) (u := t) (fr := (0, 0)) (by simp) hφ heap_alloc_new (fun _ _ h => by simp at h)
      (by rw [hcs]; simp [zeroB]) (by intro x hx; simp only [zeroB, List.mem_cons, List.not_mem_nil, or_false] at hx; rcases hx with rfl | rfl <;> simp [AV.low])
      (by intro x hx; simp only [zeroB, List.mem_cons, List.not_mem_nil, or_false] at hx; rcases hx with rfl | rfl <;> simp [Tag.low, Tag.low1]) (by
        have hget : ∀ (vs : Array Value), vs = #[.pointer none, .slice none 0 0] → ∀ i (h : i < (zeroB t u S.H.length S.T.length).length) (h' : i < vs.size), RS (G1.var w.heap.size (t, z.cells.size)) (S.T ++ [0]) (zeroB t u S.H.length S.T.length)[i] vs[i] := by
          intro vs hvs
          subst hvs
          intro j hj hj'
          match j, hj, hj' with
          | 0, _, _ => exact RS.no (.bself0 t S.H.length w.heap.size hφ hty)
          | 1, _, _ => exact ⟨.buf0 u, ⟨0, by simp, Nat.le_refl _, fun _ b l cc hv => ⟨_, hown, rfl, fun y ys hy => (by cases hy), fun t y ys hy => (by cases hy)⟩, fun t y ys hy => (by cases hy)⟩, trivial⟩
        exact hget _ hcs)
    have e2 : (S.H ++ [([] : Blk)]).set S.H.length (zeroB t u S.H.length S.T.length) = S.H ++ [zeroB t u S.H.length S.T.length] := by simp
    rw [e2] at i2
    exact ⟨_, _, _, .pointer (some ⟨w.heap.size, 0, none⟩), run, .inl rfl, i2, gt.trans (grows_var it _ _), RS.no (.ptr _ _ _ hφ)⟩
theorem d_box {e : Env0} (he : e.c = c) {o : Oper} {t : TypeId} {a : Operand} {x : SV} {S' : St} (hop : o.op = .box t a) (inv : Inv c B w0 G S w) (hρ : ∀ x, RS G S.T (ρ x) (σ x))
    (h : e.act (.box t a) ρ S = some (.ok x S')) : Does c B w0 G S w σ o x S' := by
  subst he
  simp only [Env0.act] at h
  obtain ⟨hk, h⟩ := Option.ite_none_right_eq_some.1 h
  obtain ⟨G', h1, h2, h3⟩ := newVar_sound inv (expand_sound (hρ a) hk) (expand_flat _) (Option.some.inj h)
  refine ⟨_, G', _, .pointer (some ⟨w.heap.size, 0, none⟩), ?_, .inl rfl, h1, h2, h3⟩
  simp [execOp, hop, Instr.box, newVar, newRow]
end
end Go.Ab
end
section
namespace Go.Ab
open Go.RowKit
section
variable {c : Ctx} {B : Bd} {w0 : World} {G : Gh} {S : St} {w : World} {ρ : Operand → SV} {σ : Operand → Value}

theorem fl_scalars {ys : List AV} (h : ∀ y ∈ ys, y.isCell = true) : fl ys = ys := by
  induction ys with
  | nil => rfl
  | cons y ys ih =>
    have hy := h y (by simp)
    have : y.cells = [y] := by cases y <;> first | rfl | (simp [AV.isCell] at hy; done)
    rw [fl_cons, this, ih (fun z hz => h z (by simp [hz]))]
    rfl
theorem isCell_cells {y : AV} (hy : y.isCell = true) : y.cells = [y] := by cases y <;> first | rfl | (simp [AV.isCell] at hy; done)

theorem added_sound {e : Env0} {elem tx : TypeId} {x : SV} {v : Value} {ys : List AV} (inv : Inv c B w0 G S w) (he : e.c = c) (h : e.added S elem (tk c.P tx) x.1 = some ys) (hr : RS G S.T x v) (h1z : 1 ≤ tsz c.P elem) :
    ∃ news : List Value, Src c.P (tsz c.P elem) tx v ys.length news w ∧ news.length = (fl ys).length ∧ (∀ i (h : i < (fl ys).length) (h' : i < news.length), R G (fl ys)[i] news[i]) ∧
      (∀ y ∈ ys, y.cells.length = tsz c.P elem) := by
  subst he
  unfold Env0.added at h
  have hr1 := hr.1
  split at h <;> first | (cases h; done) | skip
  · rename_i zs ek hx hk
    obtain ⟨hz, h⟩ := Option.ite_none_right_eq_some.1 h
    cases h
    rw [hx] at hr1
    cases hr1 with
    | nils b =>
      cases b with
      | none => exact ⟨[], Src.ofNil w (tk_slice hk) 0, rfl, fun i h => absurd h (by simp [fl]), by simp⟩
      | some a => exact ⟨[], Src.ofSlice w (tk_slice hk) a 0 0 _ (by simp) (fun j u hu => by simp at hu) (fun u hu => by simp at hu), rfl, fun i h => absurd h (by simp [fl]), by simp⟩
    | sl sz0 _ cc oo cap f hs0 hc hI hR h1c =>
      have hs := szOk_all hs0 hz
      have hl := fl_length hs
      refine ⟨(List.range (fl ys).length).map f, ?_, by simp, fun i h h' => by simpa using hR i h, hs⟩
      refine Src.ofSlice w (tk_slice hk) ⟨cc, oo, none⟩ ys.length cap _ (by simp [hl]) (fun j u hu => ?_) (fun u hu => ?_)
      · simp only [List.getElem?_map, Option.map_eq_some_iff] at hu
        obtain ⟨i, hi, rfl⟩ := hu
        obtain ⟨hlt, rfl⟩ := List.getElem?_eq_some_iff.1 hi
        rw [addr_add]
        simp only [List.getElem_range]
        exact (inv.imm _ _ _ (hI j (by simpa using hlt))).1
      · obtain ⟨i, hi, rfl⟩ := List.mem_map.1 hu
        exact h1c i (by simpa using hi)
  · rename_i s hx hk
    split at h <;> first | (cases h; done) | skip
    rename_i hke
    obtain ⟨hz, h⟩ := Option.ite_none_right_eq_some.1 h
    cases h
    rw [hx] at hr1
    cases hr1
    have hcell : ∀ y ∈ toBytes s, y.isCell = true := by
      intro y hy
      obtain ⟨b, _, rfl⟩ := List.mem_map.1 hy
      rfl
    have hfl := fl_scalars hcell
    refine ⟨byteCells ⟨⟨s⟩⟩, ?_, by rw [hfl]; simp [toBytes, byteCells], fun i h h' => ?_, fun y hy => by rw [isCell_cells (hcell y hy), hz]; rfl⟩
    · have := Src.ofString (P := e.c.P) w (tk_string hk) ⟨⟨s⟩⟩
      rw [hz]
      have e2 : (toBytes s).length = (⟨⟨s⟩⟩ : ByteArray).size := by simp [toBytes, size_mk]
      rw [e2]
      exact this
    · have h2 : i < (toBytes s).length := by rw [hfl] at h; exact h
      have e1 : (fl (toBytes s))[i] = (toBytes s)[i] := by simp only [hfl]
      rw [e1]
      simp only [toBytes, List.getElem_map, byteCells]
      exact .int _ _
  · rename_i b oo n ek hx hk
    split at h <;> first | (cases h; done) | skip
    rename_i cells hb
    obtain ⟨⟨hz, hle, hall⟩, h⟩ := Option.ite_none_right_eq_some.1 h
    cases h
    rw [hx] at hr1
    cases hr1 with
    | slr _ _ _ d cap hφ hc =>
      obtain ⟨hB, us, u, fr, hu, hus, hfr, hR⟩ := inv.blk b d cells hb hφ
      have hcell : ∀ y ∈ ((cells.drop oo).take n).map (·.1), y.isCell = true := by
        rw [List.all_eq_true] at hall; exact hall
      have hfl := fl_scalars hcell
      have hlen : (((cells.drop oo).take n).map (·.1)).length = n := by simp; omega
      rw [hlen]
      refine ⟨(us.toList.drop oo).take n, ?_, by rw [hfl, hlen]; simp; omega, fun i h h' => ?_, fun y hy => by rw [isCell_cells (hcell y hy), hz]; rfl⟩
      · refine Src.ofSlice w (tk_slice hk) ⟨d, oo, none⟩ n cap _ (by rw [hz]; simp; omega) (fun j v hv => ?_) (fun v hv => ?_)
        · rw [addr_add, cell_of_heap hu]
          rw [List.getElem?_take] at hv
          split at hv
          · rw [List.getElem?_drop] at hv; simpa using hv
          · cases hv
        · obtain ⟨j, hj, rfl⟩ := List.getElem_of_mem hv
          have hj' : j < n := by simp at hj; omega
          have h1 := (hR (oo + j) (by omega) (by omega)).1
          have h2 := hcell (cells[oo + j].1) (by
            refine List.mem_map.2 ⟨cells[oo + j], ?_, rfl⟩
            refine List.mem_iff_getElem.2 ⟨j, by simp; omega, by simp⟩)
          simpa using oneCell_of h1 h2
      · have h2 : i < n := by rw [hfl, hlen] at h; exact h
        have e1 : (fl (((cells.drop oo).take n).map (·.1)))[i] = cells[oo + i].1 := by simp only [hfl]; simp
        rw [e1]
        simpa using (hR (oo + i) (by omega) (by omega)).1

/-- the cells of the slice that is appended to -/
theorem olds_sound {sz : Nat} {xs : List AV} {cc oo cap : Nat} {f : Nat → Value} (inv : Inv c B w0 G S w) (hs : ∀ x ∈ xs, x.cells.length = sz)
    (hI : ∀ i, i < (fl xs).length → G.I cc (oo + i) = some (f i)) (w' : World) (hw : w'.heap = w.heap) :
    (Builtin.firstCells sz xs.length (.slice (some ⟨cc, oo, none⟩) xs.length cap)).run c.P w' = .ok ((List.range (fl xs).length).map f).toArray w' := by
  have hl := fl_length hs
  have := run_loadCells (P := c.P) w' ⟨cc, oo, none⟩ (xs.length * sz) f (fun j hj => by
    rw [addr_add]
    have := (inv.imm _ _ _ (hI j (by omega))).1
    simpa only [World.cell?, hw] using this)
  rw [hl]
  simpa [Builtin.firstCells] using this

theorem I_none (inv : Inv c B w0 G S w) (i : Nat) : G.I w.heap.size i = none := by
  cases h : G.I w.heap.size i with
  | none => rfl
  | some v => exact absurd (lt_of_cell (inv.imm _ _ _ h).1) (by omega)
theorem zeroCells_size (z : Array Value) (n : Nat) : (Builtin.zeroCells z n).size = n * z.size := by simp [Builtin.zeroCells]

/-- A SLICE THAT OUTGROWS ITS ROW: the new row, and what is known of it. -/
theorem grown_row (inv : Inv c B w0 G S w) {sz : Nat} {xs ys : List AV} {olds news : List Value} (hxs : ∀ x ∈ xs, x.cells.length = sz) (hys : ∀ y ∈ ys, y.cells.length = sz)
    (ho : olds.length = (fl xs).length) (hoR : ∀ i (h : i < (fl xs).length) (h' : i < olds.length), R G (fl xs)[i] olds[i]) (ho1 : ∀ u ∈ olds, u.oneCell' = true)
    (hn : news.length = (fl ys).length) (hnR : ∀ i (h : i < (fl ys).length) (h' : i < news.length), R G (fl ys)[i] news[i]) (hn1 : ∀ u ∈ news, u.oneCell' = true)
    {cap : Nat} (hcap : xs.length + ys.length ≤ cap) (zc : Array Value) (hzc : zc.size = sz) (et : TypeId) :
    ∃ G1, Inv c B w0 G1 S (w.drew.alloc (.cells ((olds ++ news).toArray ++ Builtin.zeroCells zc (cap - (xs.length + ys.length))) et)) ∧ Grows G S.T G1 S.T ∧ G1.own = G.own ∧
      R G1 (.sl (xs ++ ys)) (.slice (some ⟨w.heap.size, 0, none⟩) (xs.length + ys.length) cap) ∧
      (∃ m, G1.ty w.heap.size = some (et, m)) ∧ (∃ d o, some (⟨w.heap.size, 0, none⟩ : Addr) = some ⟨d, o, none⟩ ∧ B.free d ∧ (∀ b : Nat, G1.φ[b]? ≠ some (some d)) ∧
        ∃ vs t fr, (w.drew.alloc (.cells ((olds ++ news).toArray ++ Builtin.zeroCells zc (cap - (xs.length + ys.length))) et)).heap[d]? = some (.cells vs t fr) ∧ o + cap * sz ≤ vs.size ∧
          ∀ i, o + (xs.length + ys.length) * sz ≤ i → ¬ (fr.1 ≤ i ∧ i < fr.2) ∧ G1.I d i = none) := by
  have invd : Inv c B w0 G S w.drew := inv.drew _
  have hxy : ∀ x ∈ xs ++ ys, x.cells.length = sz := fun x hx => by
    rcases List.mem_append.1 hx with h | h
    · exact hxs x h
    · exact hys x h
  have hfl : (fl (xs ++ ys)).length = (xs.length + ys.length) * sz := by rw [fl_length hxy, List.length_append]
  have hlen : (olds ++ news).length = (fl (xs ++ ys)).length := by rw [List.length_append, ho, hn, fl_append, List.length_append]
  have hsz : w.drew.heap.size = w.heap.size := rfl
  have inv1 := invd.newRow ((olds ++ news).toArray ++ Builtin.zeroCells zc (cap - (xs.length + ys.length))) et (fl (xs ++ ys)).length (fun i => (olds ++ news).getD i undef) (fun i hi => by
    rw [Array.getElem?_append_left (by simp; rw [List.length_append] at hlen; omega)]
    rw [List.getElem?_toArray, List.getElem?_eq_getElem (by omega)]
    simp [List.getD, List.getElem?_eq_getElem (show i < (olds ++ news).length by omega)])
  have gr := grows_row invd (fl (xs ++ ys)).length (fun i => (olds ++ news).getD i undef) (et, ((olds ++ news).toArray ++ Builtin.zeroCells zc (cap - (xs.length + ys.length))).size)
  generalize ((olds ++ news).toArray ++ Builtin.zeroCells zc (cap - (xs.length + ys.length))).size = M at inv1 gr
  refine ⟨_, inv1, gr, rfl, ?_, ⟨_, by show (if _ then _ else _) = _; exact if_pos rfl⟩, ⟨w.heap.size, 0, rfl, inv.base _ (Nat.le_refl _), fun b hb => ?_, _, et, (0, 0), heap_alloc_new, ?_, fun i hi => ⟨by simp, ?_⟩⟩⟩
  · have hl2 : (xs ++ ys).length = xs.length + ys.length := by simp
    rw [← hl2]
    refine .sl sz _ _ _ _ (fun i => (olds ++ news).getD i undef) hxy (by omega) (fun i hi => ?_) (fun i hi => ?_) (fun i hi => ?_)
    · simp only [Gh.row, Nat.zero_add]
      rw [if_pos ⟨hsz.symm, hi⟩]
    · have hi2 : i < (olds ++ news).length := by omega
      have e : (olds ++ news).getD i undef = (olds ++ news)[i] := by simp [List.getD, List.getElem?_eq_getElem hi2]
      rw [e]
      refine R.mono gr.mono ?_
      have e2 : (fl (xs ++ ys))[i] = (fl xs ++ fl ys)[i]'(by rw [← fl_append]; exact hi) := by simp only [fl_append]
      rw [e2]
      by_cases h : i < (fl xs).length
      · rw [List.getElem_append_left h, List.getElem_append_left (by omega)]
        exact hoR i h _
      · rw [List.getElem_append_right (by omega), List.getElem_append_right (by omega)]
        have := hnR (i - (fl xs).length) (by rw [fl_append, List.length_append] at hi; omega) (by rw [List.length_append] at hi2; omega)
        simpa [ho] using this
    · have hi2 : i < (olds ++ news).length := by omega
      have e : (olds ++ news).getD i undef = (olds ++ news)[i] := by simp [List.getD, List.getElem?_eq_getElem hi2]
      rw [e]
      rcases List.mem_append.1 (List.getElem_mem hi2) with h | h
      · exact ho1 _ h
      · exact hn1 _ h
  · have := (inv.φ_lt hb).1; omega
  · rw [Array.size_append, zeroCells_size, hzc, List.size_toArray, hlen, hfl, Nat.sub_mul]
    have := Nat.mul_le_mul_right sz hcap
    omega
  · simp only [Gh.row]
    rw [if_neg (by rw [hfl]; omega)]
    exact I_none inv i
end
end Go.Ab
end
section
namespace Go.Ab
open Go.RowKit
section
variable {c : Ctx} {B : Bd} {w0 : World} {G : Gh} {S : St} {w : World} {ρ : Operand → SV} {σ : Operand → Value}

/-- the slice that is appended to: its elements, their cells in memory -/
structure Old (c : Ctx) (G : Gh) (w : World) (sz : Nat) (xs : List AV) (base : Option Addr) (len cap : Nat) (olds : List Value) : Prop where
  hlen : len = xs.length
  hcap : len ≤ cap
  szs : ∀ x ∈ xs, x.cells.length = sz
  read : (Builtin.firstCells sz len (.slice base len cap)).run c.P w.drew = .ok olds.toArray w.drew
  num : olds.length = (fl xs).length
  val : ∀ i (h : i < (fl xs).length) (h' : i < olds.length), R G (fl xs)[i] olds[i]
  one : ∀ u ∈ olds, u.oneCell' = true

theorem old_nil (sz : Nat) (b : Option Addr) : Old c G w sz [] b 0 0 [] :=
  ⟨rfl, Nat.le_refl _, by simp, by cases b <;> simp [Builtin.firstCells, loadCells, loadCellsFrom], rfl, fun i h => absurd h (by simp [fl]), by simp⟩
theorem old_sl (inv : Inv c B w0 G S w) {sz : Nat} {xs : List AV} {v : Value} (h : R G (.sl xs) v) (hz : szOk xs sz = true) : ∃ base cap olds, v = .slice base xs.length cap ∧ Old c G w sz xs base xs.length cap olds := by
  cases h with
  | nils b => exact ⟨b, 0, [], rfl, old_nil sz b⟩
  | sl sz0 _ cc oo cap f hs0 hc hI hR h1c =>
    have hs := szOk_all hs0 hz
    refine ⟨some ⟨cc, oo, none⟩, cap, (List.range (fl xs).length).map f, rfl, rfl, hc, hs, ?_, by simp, fun i h h' => by simpa using hR i h, fun u hu => ?_⟩
    · exact olds_sound inv hs hI w.drew rfl
    · obtain ⟨i, hi, rfl⟩ := List.mem_map.1 hu
      exact h1c i (by simpa using hi)

theorem append_grows (inv : Inv c B w0 G S w) {t tx ty elem : TypeId} {xs ys : List AV} {base : Option Addr} {len cap : Nat} {olds news : List Value} {x : Value}
    (hk : tk c.P t = .slice elem) (hz1 : 1 ≤ tsz c.P elem) (hb : c.P.bytesOf elem ≤ 4096) (hhz : hasZero c.P elem = true) (htz : (tz c.P elem).length = tsz c.P elem)
    (old : Old c G w (tsz c.P elem) xs base len cap olds) (src : Src c.P (tsz c.P elem) tx x ys.length news w) (hnn : news.length = (fl ys).length)
    (hnR : ∀ i (h : i < (fl ys).length) (h' : i < news.length), R G (fl ys)[i] news[i]) (hys : ∀ y ∈ ys, y.cells.length = tsz c.P elem)
    (hmax : xs.length + ys.length ≤ Ab.roomB (c.P.bytesOf elem)) (hroom : cap < xs.length + ys.length) :
    ∃ G1 w' cap', (Builtin.append_ #[t, tx] ty #[.slice base len cap, x]).run c.P w = .ok (.slice (some ⟨w.heap.size, 0, none⟩) (xs.length + ys.length) cap') w' ∧
      Inv c B w0 G1 S w' ∧ Grows G S.T G1 S.T ∧ G1.own = G.own ∧ xs.length + ys.length ≤ cap' ∧ R G1 (.sl (xs ++ ys)) (.slice (some ⟨w.heap.size, 0, none⟩) (xs.length + ys.length) cap') ∧
      (∃ m, G1.ty w.heap.size = some (elem, m)) ∧ (∃ d o, some (⟨w.heap.size, 0, none⟩ : Addr) = some ⟨d, o, none⟩ ∧ B.free d ∧ (∀ b : Nat, G1.φ[b]? ≠ some (some d)) ∧
        ∃ vs t fr, w'.heap[d]? = some (.cells vs t fr) ∧ o + cap' * tsz c.P elem ≤ vs.size ∧ ∀ i, o + (xs.length + ys.length) * tsz c.P elem ≤ i → ¬ (fr.1 ≤ i ∧ i < fr.2) ∧ G1.I d i = none) := by
  obtain ⟨i, z, hi, hz⟩ := of_hasZero hhz
  have hsz : tsz c.P elem = i.size := by simp [tsz, hi]
  have hbi : i.bytes ≤ 4096 := by simpa [Program.bytesOf, hi] using hb
  have hzc : z.cells.size = tsz c.P elem := by rw [← htz]; simp [tz, hi, hz]
  have hl := old.hlen
  subst hl
  have hbe : c.P.bytesOf elem = i.bytes := by simp [Program.bytesOf, hi]
  rw [hbe] at hmax
  obtain ⟨hmax', hmaxb⟩ := Ab.roomB_le _ _ hmax
  have hnext : Builtin.nextslicecap (xs.length + ys.length) cap * i.bytes ≤ 281474976710656 := by
    have h1 := Go.Room.nextslicecap_le' hroom
    calc Builtin.nextslicecap (xs.length + ys.length) cap * i.bytes ≤ (2 * (xs.length + ys.length)) * i.bytes := Nat.mul_le_mul_right _ h1
      _ ≤ 281474976710656 := by rw [Nat.mul_assoc]; omega
  have hread := old.read
  rw [hsz] at hread
  have hsrc := src
  rw [hsz] at hsrc
  have run := run_append_grow_src (P := c.P) w t tx ty elem i z (tk_slice hk) hi hz base xs.length cap olds hread x ys.length news hsrc hroom (by omega) hnext
  have hge := grownCap_ge w (xs.length + ys.length) cap elem
  obtain ⟨G1, h1, h2, h3, h4, h6, h5⟩ := grown_row inv old.szs hys old.num old.val old.one hnn hnR src.one hge z.cells hzc elem
  exact ⟨G1, _, _, run, h1, h2, h3, hge, h4, h6, h5⟩

/-- a slice that has grown in place -/
theorem R_more {G' : Gh} {sz : Nat} {xs ys : List AV} {d oo cap : Nat} {news : List Value} (hz : szOk xs sz = true) (h : R G (.sl xs) (.slice (some ⟨d, oo, none⟩) xs.length cap)) (m : Mono G G') (hn : news.length = (fl ys).length)
    (hnR : ∀ i (h : i < (fl ys).length) (h' : i < news.length), R G (fl ys)[i] news[i]) (hn1 : ∀ u ∈ news, u.oneCell' = true) (hys : ∀ y ∈ ys, y.cells.length = sz) (hcap : xs.length + ys.length ≤ cap)
    (hI' : ∀ j, j < news.length → G'.I d (oo + ((fl xs).length + j)) = some (news.getD j undef)) : R G' (.sl (xs ++ ys)) (.slice (some ⟨d, oo, none⟩) (xs.length + ys.length) cap) := by
  cases h with
  | nils b =>
    obtain rfl : ys = [] := List.length_eq_zero_iff.1 (by simpa using hcap)
    exact .nils _
  | sl sz0 _ _ _ _ f hs0 hc hI hR h1c =>
    have hs := szOk_all hs0 hz
    rw [← List.length_append]
    have hgetD : ∀ j (hj : j < news.length), news.getD j undef = news[j] := fun j hj => by simp [List.getD, List.getElem?_eq_getElem hj]
    have hl : (fl (xs ++ ys)).length = (fl xs).length + (fl ys).length := by rw [fl_append, List.length_append]
    refine .sl sz _ _ _ _ (fun i => if i < (fl xs).length then f i else news.getD (i - (fl xs).length) undef) (fun x hx => ?_) (by rw [List.length_append]; exact hcap) (fun i hi => ?_) (fun i hi => ?_) (fun i hi => ?_)
    · rcases List.mem_append.1 hx with h | h
      · exact hs x h
      · exact hys x h
    · by_cases h : i < (fl xs).length
      · simp only [h, if_true]; exact m.I _ _ _ (hI i h)
      · simp only [h, if_false]
        have := hI' (i - (fl xs).length) (by omega)
        rw [show (fl xs).length + (i - (fl xs).length) = i by omega] at this
        exact this
    · have e2 : (fl (xs ++ ys))[i] = (fl xs ++ fl ys)[i]'(by rw [← fl_append]; exact hi) := by simp only [fl_append]
      rw [e2]
      by_cases h : i < (fl xs).length
      · simp only [h, if_true]
        rw [List.getElem_append_left h]
        exact (hR i h).mono m
      · simp only [h, if_false]
        rw [List.getElem_append_right (by omega), hgetD _ (by omega)]
        exact (hnR _ (by omega) (by omega)).mono m
    · by_cases h : i < (fl xs).length
      · simp only [h, if_true]; exact h1c i h
      · simp only [h, if_false]
        rw [hgetD _ (by omega)]
        exact hn1 _ (List.getElem_mem _)

/-- what an append did to the slice in front -/
def App (G : Gh) (elem : TypeId) (sa : SV) (va : Value) (S : St) (x : SV) (v : Value) (G' : Gh) (S' : St) : Prop :=
  (x = sa ∧ v = va ∧ G' = G ∧ S' = S) ∨ ∃ d oo n cap id ow, v = .slice (some ⟨d, oo, none⟩) n cap ∧ n ≠ 0 ∧ x.2 = .tok id ∧ G'.own[id]? = some ow ∧
    ((oo = 0 ∧ (∃ m, G'.ty d = some (elem, m)) ∧ ow.ex = true) ∨
      ∃ l c0 ow0, va = .slice (some ⟨d, oo, none⟩) l c0 ∧ sa.2 = .tok id ∧ sa.1.len ≠ 0 ∧ S.T[id]? = some sa.1.len ∧ G.own[id]? = some ow0 ∧ ow.ex = ow0.ex)
theorem append_core {e : Env0} (he : e.c = c) {t t2 ty elem : TypeId} {sa sb : SV} {va vb : Value} {x : SV} {S' : St} (hk : tk c.P t = .slice elem)
    (inv : Inv c B w0 G S w) (hra : RS G S.T sa va) (hrb : RS G S.T sb vb) (h : e.appendL t t2 sa sb S = some (.ok x S')) :
    ∃ v w' G', (Builtin.append_ #[t, t2] ty #[va, vb]).run c.P w = .ok v w' ∧ Inv c B w0 G' S' w' ∧ Grows G S.T G' S'.T ∧ RS G' S'.T x v ∧ App G elem sa va S x v G' S' := by
  subst he
  unfold Env0.appendL at h
  rw [hk] at h
  simp only at h
  split at h <;> first | (cases h; done) | skip
  rename_i xs ys hxs hys
  obtain ⟨⟨hmax, hz1, hz256, hbytes, hhz, htz⟩, h⟩ := Option.ite_none_right_eq_some.1 h
  obtain ⟨i, hi, hsz⟩ := info_of_tsz hz1
  obtain ⟨news, src, hnn, hnR, hysz⟩ := added_sound inv rfl hys hrb hz1
  -- the slice in front
  obtain ⟨hx, hzz⟩ : sa.1 = .sl xs ∧ szOk xs (tsz e.c.P elem) = true := by
    split at hxs <;> first | (cases hxs; done) | skip
    rename_i zs hx
    obtain ⟨hzz, hxs'⟩ := Option.ite_none_right_eq_some.1 hxs
    cases hxs'
    exact ⟨hx, hzz⟩
  have hra1 := hra.1
  rw [hx] at hra1
  obtain ⟨base, cap, olds, hva, old⟩ := old_sl inv hra1 hzz
  have hlen : sa.1.len = xs.length := by rw [hx]; rfl
  have hxy : ∀ y zs, AV.sl (xs ++ ys) = .sl (y :: zs) → tsz e.c.P elem = y.cells.length := fun y zs h => by
    have h1 := AV.sl.inj h
    have : y ∈ xs ++ ys := by rw [h1]; exact List.mem_cons_self ..
    rcases List.mem_append.1 this with h | h
    · exact (old.szs y h).symm
    · exact (hysz y h).symm
  -- nothing is appended
  have nothing : ys.isEmpty = true → x = sa → S' = S → ∃ v w' G', (Builtin.append_ #[t, t2] ty #[va, vb]).run e.c.P w = .ok v w' ∧ Inv e.c B w0 G' S' w' ∧ Grows G S.T G' S'.T ∧ RS G' S'.T x v ∧ App G elem sa va S x v G' S' := by
    intro hy hx hS
    subst hx
    subst hS
    have hy' : ys = [] := by simpa using hy
    subst hy'
    have hn0 : news = [] := by
      have : news.length = 0 := by rw [hnn]; rfl
      simpa using this
    subst hn0
    have src' := src
    rw [hsz] at src'
    have run := run_append_nothing (P := e.c.P) w t t2 ty elem i (tk_slice hk) hi base xs.length cap old.hcap vb src'
    exact ⟨va, w, G, by rw [hva]; exact run, inv, .refl _ _, hra, .inl ⟨rfl, rfl, rfl, rfl⟩⟩
  have hpos : ys.isEmpty = false → 1 ≤ ys.length := by
    intro h
    cases ys with
    | nil => simp at h
    | cons => simp
  split at h
  · -- a token
    rename_i id htag
    obtain ⟨hT, h⟩ := Option.ite_none_right_eq_some.1 h
    split at h
    · rename_i hy
      cases h
      exact nothing hy rfl rfl
    · rename_i hy
      cases h
      have hy1 := hpos (by simpa using hy)
      have hrt := hra.2.1
      rw [htag] at hrt
      obtain ⟨n, hn1, hn2, hn3, _⟩ := hrt
      rw [hT] at hn1
      cases hn1
      obtain ⟨ow, how, hval, hsz'⟩ := hn3 hlen _ _ _ hva
      rw [hva] at hval
      obtain ⟨obase, olen, ocap, osz, oex⟩ := ow
      simp only [Own.val, Value.slice.injEq] at hval
      obtain ⟨rfl, rfl, rfl⟩ := hval
      by_cases hroom : cap < xs.length + ys.length
      · obtain ⟨G1, w', cap', run, i1, g1, ho1, hge, hR, hty, hsp⟩ := append_grows (ty := ty) inv hk hz1 hbytes hhz htz old src hnn hnR hysz hmax hroom
        have := Inv.setOwn (ow := ⟨some ⟨w.heap.size, 0, none⟩, xs.length + ys.length, cap', tsz e.c.P elem, true⟩) i1 (by rw [ho1]; exact how) (by simp only; omega) hge (fun _ => hsp) (fun j oj d oo oo' hne hj l1 l2 hb hb' => by
          cases hb
          rw [ho1] at hj
          obtain ⟨_, _, h3⟩ := inv.own j oj hj
          obtain ⟨d', o', k1, _, _, us, u, fr, k4, _⟩ := h3 l2
          rw [hb'] at k1
          cases k1
          exact absurd (lt_of_heap k4) (by omega))
        obtain ⟨i2, g2⟩ := this
        obtain ⟨m, hty⟩ := hty
        have hT' : (S.T.set id (xs.length + ys.length))[id]? = some (xs.length + ys.length) := by
          have := (lt_T inv how).1
          simp [this]
        have hO' : (G1.setOwn id ⟨some ⟨w.heap.size, 0, none⟩, xs.length + ys.length, cap', tsz e.c.P elem, true⟩).own[id]? = some ⟨some ⟨w.heap.size, 0, none⟩, xs.length + ys.length, cap', tsz e.c.P elem, true⟩ := by
          have := (lt_T inv how).2
          simp [Gh.setOwn, ho1, this]
        exact ⟨_, w', _, by rw [hva]; exact run, i2, g1.trans g2, ⟨hR.mono g2.mono, ⟨_, hT', by simp [AV.len], fun _ b l cc hv => ⟨_, hO', rfl, hxy, fun t y ys hy => by cases hy⟩, fun t y ys hy => by cases hy⟩, trivial⟩,
          .inr ⟨_, _, _, _, _, _, rfl, (by omega), rfl, hO', .inl ⟨rfl, ⟨m, g2.mono.ty _ _ hty⟩, rfl⟩⟩⟩
      · -- in place
        obtain ⟨hTo, hle, hspare⟩ := inv.own id _ how
        simp only at hle hspare
        obtain ⟨d, oo, k1, k2, k3, us, u, fr, k4, k5, k6⟩ := hspare (.inl (by simp only; omega))
        subst k1
        have hosz : osz = tsz e.c.P elem := by
          cases hxe : xs with
          | nil =>
            rw [hxe] at hle hroom
            have := hle.2 rfl
            simp only at this
            simp at hroom; omega
          | cons y zs =>
            exact (hsz'.1 y zs (by rw [hx, hxe])).trans (old.szs y (by rw [hxe]; exact List.mem_cons_self ..))
        subst hosz
        rw [hva] at hra1
        have hnl : news.length = ys.length * tsz e.c.P elem := by rw [hnn, fl_length hysz]
        have hmulc := Nat.mul_le_mul_right (tsz e.c.P elem) (show xs.length + ys.length ≤ cap by omega)
        rw [Nat.add_mul] at hmulc
        have src' := src
        rw [hsz] at src'
        have run := run_append_room_src (P := e.c.P) w t t2 ty elem i (tk_slice hk) hi d oo xs.length cap vb ys.length news src' (by omega)
          (fun j hj => by rw [← hsz, cell_of_heap k4, Array.getElem?_eq_getElem (by omega)]; rfl)
          (fun j hj => by rw [← hsz]; exact frozen_of k4 (k6 _ (by omega)).1)
        rw [← hsz] at run
        have hw := setCells_spec d u fr news (oo + xs.length * tsz e.c.P elem) w us k4
        obtain ⟨i2, g2⟩ := inv.inPlace (n := ys.length) (f := fun j => news.getD j undef) how rfl hy1 (by simp only; omega) (by simp only; omega) k4 hw (putRow_size _ _ _)
          (fun j hj => by
            simp only at hj ⊢
            rw [putRow_get, if_pos (by simp; omega)]
            simp [List.getD]
            rw [List.getElem?_eq_getElem (by omega)]; rfl)
          (fun j hj => by
            simp only at hj
            rw [putRow_get, if_neg]
            simp
            rw [Nat.add_mul] at hj
            omega)
        have hx0 : xs.length ≠ 0 := fun h0 => by
          have := hle.2 h0
          simp only at this
          omega
        have hT' : (S.T.set id (xs.length + ys.length))[id]? = some (xs.length + ys.length) := by
          have := (lt_T inv how).1
          simp [this]
        refine ⟨.slice (some ⟨d, oo, none⟩) (xs.length + ys.length) cap, _, _, by rw [hva]; exact run, i2, g2, ⟨?_, ⟨xs.length + ys.length, hT', by simp [AV.len], fun _ b l cc hv => ⟨⟨some ⟨d, oo, none⟩, xs.length + ys.length, cap, tsz e.c.P elem, oex⟩, ?_, rfl, hxy, fun t y ys hy => by cases hy⟩, fun t y ys hy => by cases hy⟩, trivial⟩,
          .inr ⟨_, _, _, _, id, ⟨some ⟨d, oo, none⟩, xs.length + ys.length, cap, tsz e.c.P elem, oex⟩, rfl, (by omega), rfl, ?_, .inr ⟨_, _, _, hva, htag, by rw [hlen]; exact hx0, by rw [hlen]; exact hT, how, rfl⟩⟩⟩
        · exact R_more hzz hra1 g2.mono hnn hnR src.one hysz (by omega) (fun j hj => by
            have hfx := fl_length old.szs
            show (if d = d ∧ oo + xs.length * tsz e.c.P elem ≤ oo + ((fl xs).length + j) ∧ oo + ((fl xs).length + j) < oo + xs.length * tsz e.c.P elem + ys.length * tsz e.c.P elem then some (news.getD (oo + ((fl xs).length + j) - (oo + xs.length * tsz e.c.P elem)) undef) else G.I d (oo + ((fl xs).length + j))) = some (news.getD j undef)
            rw [if_pos (by omega), show oo + ((fl xs).length + j) - (oo + xs.length * tsz e.c.P elem) = j by omega])
        · have := (lt_T inv how).2
          simp [Gh.setOwn, Gh.span, this]
        · have := (lt_T inv how).2
          simp [Gh.setOwn, Gh.span, this]
  · -- full
    rename_i htag
    split at h
    · rename_i hy
      cases h
      exact nothing hy rfl rfl
    · rename_i hy
      cases h
      have hy1 := hpos (by simpa using hy)
      have hroom : cap < xs.length + ys.length := by
        have h2 := hra.2.1
        rw [htag] at h2
        have := h2 _ _ _ hva
        omega
      obtain ⟨G1, w', cap', run, i1, g1, ho1, hge, hR, hty, hsp⟩ := append_grows (ty := ty) inv hk hz1 hbytes hhz htz old src hnn hnR hysz hmax hroom
      obtain ⟨i2, g2⟩ := Inv.pushOwn i1 ⟨some ⟨w.heap.size, 0, none⟩, xs.length + ys.length, cap', tsz e.c.P elem, true⟩ ⟨hge, fun h => by simp only at h; omega⟩ (fun _ => hsp) (fun j oj d oo oo' hj l1 l2 hb hb' => by
        cases hb
        rw [ho1] at hj
        obtain ⟨_, _, h3⟩ := inv.own j oj hj
        obtain ⟨d', o', k1, _, _, us, u, fr, k4, _⟩ := h3 l2
        rw [hb'] at k1
        cases k1
        exact absurd (lt_of_heap k4) (by omega))
      obtain ⟨m, hty⟩ := hty
      have hT' : (S.T ++ [xs.length + ys.length])[S.T.length]? = some (xs.length + ys.length) := by simp
      have hO' : (G1.own ++ [(⟨some ⟨w.heap.size, 0, none⟩, xs.length + ys.length, cap', tsz e.c.P elem, true⟩ : Own)])[S.T.length]? = some ⟨some ⟨w.heap.size, 0, none⟩, xs.length + ys.length, cap', tsz e.c.P elem, true⟩ := by
        rw [ho1, ← inv.lenO]; simp
      exact ⟨_, w', _, by rw [hva]; exact run, i2, g1.trans g2, ⟨hR.mono g2.mono, ⟨_, hT', by simp [AV.len], fun _ b l cc hv => ⟨_, hO', rfl, hxy, fun t y ys hy => by cases hy⟩, fun t y ys hy => by cases hy⟩, trivial⟩,
        .inr ⟨_, _, _, _, _, _, rfl, (by omega), rfl, hO', .inl ⟨rfl, ⟨m, g2.mono.ty _ _ hty⟩, rfl⟩⟩⟩
  · cases h

theorem appendL_val {e : Env0} {t t2 elem : TypeId} {xs : List AV} {tg : Tag} {sb z : SV} {S' : St} (hk : tk e.c.P t = .slice elem) (h : e.appendL t t2 (.sl xs, tg) sb S = some (.ok z S')) :
    ∃ ys, e.added S elem (tk e.c.P t2) sb.1 = some ys ∧ z.1 = .sl (xs ++ ys) := by
  unfold Env0.appendL at h
  rw [hk] at h
  simp only at h
  split at h <;> first | (cases h; done) | skip
  rename_i xs' ys hxs hys
  have hx := (Option.ite_none_right_eq_some.1 hxs).2
  cases hx
  have h := (Option.ite_none_right_eq_some.1 h).2
  refine ⟨ys, hys, ?_⟩
  split at h
  · have h := (Option.ite_none_right_eq_some.1 h).2
    split at h
    · rename_i hy
      cases h
      have : ys = [] := by simpa using hy
      simp [this]
    · cases h; rfl
  · split at h
    · rename_i hy
      cases h
      have : ys = [] := by simpa using hy
      simp [this]
    · cases h; rfl
  · cases h
end
end Go.Ab
end
section
namespace Go.Ab
open Go.RowKit
section
variable {c : Ctx} {B : Bd} {w0 : World} {G : Gh} {S : St} {w : World} {ρ : Operand → SV} {σ : Operand → Value}

theorem fill_row {sz : Nat} : ∀ (xs : List SV) (k : Nat) (cells : List SV), (∀ x ∈ xs, (expand x).length = sz ∧ x.1.known = true) → cells.length = (k + xs.length) * sz →
    fillA (fun i => some (i * sz, sz)) cells ((xs.zipIdx k).map fun p => (p.2, p.1)) = some (cells.take (k * sz) ++ xs.flatMap expand) := by
  intro xs
  induction xs with
  | nil => intro k cells _ hl; simp [fillA]; simp at hl; rw [List.take_of_length_le (by omega)]
  | cons x xs ih =>
    intro k cells hx hl
    obtain ⟨h1, h2⟩ := hx x (by simp)
    simp only [List.length_cons] at hl
    have e1 : (k + (xs.length + 1)) * sz = k * sz + sz + xs.length * sz := by simp [Nat.add_mul]; omega
    simp only [List.zipIdx_cons, List.map_cons, fillA]
    rw [if_pos ⟨h2, h1, by omega⟩, ih (k + 1) _ (fun y hy => hx y (by simp [hy])) (by rw [replaceAt_length (by omega), hl]; congr 1; omega)]
    congr 1
    rw [List.flatMap_cons, ← List.append_assoc]
    congr 1
    unfold replaceAt
    have ht : (cells.take (k * sz)).length = k * sz := by simp; omega
    rw [List.take_append_of_le_length (by simp [h1, Nat.add_mul]; omega), List.take_of_length_le (by simp [h1, Nat.add_mul]; omega)]

theorem expand_fst (x : SV) : (expand x).map (·.1) = x.1.cells := by
  obtain ⟨x, tg⟩ := x
  unfold expand
  split
  · rename_i cs h
    simp only at h
    subst h
    simp only [AV.cells, List.map_map]
    show List.map Prod.fst cs.zipIdx = cs
    exact List.zipIdx_map_fst _ _
  · rename_i v hv
    cases x <;> first | rfl | (exact absurd rfl (hv _))
theorem flatMap_fst (xs : List SV) : (xs.flatMap expand).map (·.1) = fl (xs.map (·.1)) := by
  induction xs with
  | nil => rfl
  | cons x xs ih => rw [List.flatMap_cons, List.map_append, ih, expand_fst, List.map_cons, fl_cons]

theorem d_buildSlice {o : Oper} {t : TypeId} {len : Nat} {parts : Array (Nat × Operand)} {x : SV} (hop : o.op = .buildSlice t len parts) (inv : Inv c B w0 G S w) (hρ : ∀ x, RS G S.T (ρ x) (σ x))
    (h : c.pure (.buildSlice t len parts) ρ = some x) : Does c B w0 G S w σ o x S := by
  simp only [Ctx.pure] at h
  split at h <;> first | (cases h; done) | skip
  rename_i e hk
  obtain ⟨⟨hidx, hlen, h256, h1z, hhz, hall⟩, h⟩ := Option.ite_none_right_eq_some.1 h
  cases h
  obtain ⟨i, z, hi, hz⟩ := of_hasZero hhz
  have hsz : tsz c.P e = i.size := by simp [tsz, hi]
  have hu := tk_slice hk
  rw [List.all_eq_true] at hall
  generalize hxs : parts.toList.map (fun p => ρ p.2) = xs at *
  have hpl : parts.toList.length = len := by
    have := congrArg List.length hidx
    simpa using this
  have hxl : xs.length = len := by rw [← hxs]; simpa using hpl
  have hx : ∀ x ∈ xs, (expand x).length = tsz c.P e ∧ x.1.known = true := by
    intro x hx
    rw [← hxs] at hx
    obtain ⟨p, hp, rfl⟩ := List.mem_map.1 hx
    have h1 := hall p hp
    simp only [Bool.and_eq_true, decide_eq_true_eq] at h1
    refine ⟨by rw [← h1.1, ← expand_fst, List.length_map], ?_⟩
    cases hy : (ρ p.2).1 <;> first | rfl | skip
    rw [hy] at h1
    simp [AV.cells, AV.isCell] at h1
  have hparts : (parts.toList.map fun p => (p.1, ρ p.2)) = (xs.zipIdx 0).map fun p => (p.2, p.1) := by
    apply List.ext_getElem
    · simp [hxl, hpl]
    · intro j h1 h2
      have hj : j < parts.toList.length := by simpa using h1
      have h3 : (parts.toList.map (·.1))[j]'(by simpa using hj) = (List.range len)[j]'(by simp; omega) := by simp only [hidx]
      simp only [List.getElem_map, List.getElem_range] at h3
      simp only [List.getElem_map, List.getElem_zipIdx, Nat.zero_add, h3]
      have : xs[j]'(by omega) = ρ parts.toList[j].2 := by simp only [← hxs, List.getElem_map]
      rw [this]
  have hf := fill_row (sz := tsz c.P e) xs 0 (List.replicate (len * tsz c.P e) (.undef, .no)) hx (by simp [hxl])
  rw [← hparts] at hf
  simp only [Nat.zero_mul, List.take_zero, List.nil_append] at hf
  generalize hinit : (Array.range (len * i.size)).map (fun j => (if len * i.size = 0 then #[] else z.cells)[j % (if len * i.size = 0 then #[] else z.cells).size]!) = init
  have hinitsz : init.size = len * tsz c.P e := by rw [← hinit]; simp [hsz]
  obtain ⟨vs, h1, h2⟩ := fill_sound (G := G) (T := S.T) parts.toList _ _ init ⟨by simp [hinitsz], fun j a b => by simp; exact RS.no (.undef _)⟩ hρ hf
  have hfl : (xs.flatMap expand).length = (fl (xs.map (·.1))).length := by rw [← flatMap_fst, List.length_map]
  have hvs : vs.size = (fl (xs.map (·.1))).length := by rw [← h2.1, hfl]
  have inv' := inv.newRow vs e (fl (xs.map (·.1))).length (fun j => vs.getD j undef) (fun j hj => by
    rw [Array.getD_eq_getD_getElem?, Array.getElem?_eq_getElem (by omega)]; rfl)
  have gr := grows_row inv (fl (xs.map (·.1))).length (fun j => vs.getD j undef) (e, vs.size)
  have hmap : (parts.toList.map fun p => (ρ p.2).1) = xs.map (·.1) := by rw [← hxs]; simp
  rw [hmap]
  have hget : ∀ j (hj : j < vs.size), vs.getD j undef = vs[j] := fun j hj => by simp [Array.getD, hj]
  have hRj : ∀ j (hj : j < (fl (xs.map (·.1))).length), R G (fl (xs.map (·.1)))[j] (vs.getD j undef) := by
    intro j hj
    rw [hget j (by omega)]
    have h3 := (h2.2 j (by omega) (by omega)).1
    have e3 : (fl (xs.map (·.1)))[j] = ((xs.flatMap expand)[j]'(by omega)).1 := by
      simp only [← flatMap_fst, List.getElem_map]
    rw [e3]; exact h3
  have hcell : ∀ x ∈ fl (xs.map (·.1)), x.isCell = true := by
    intro y hy
    unfold fl at hy
    obtain ⟨a, ha, hya⟩ := List.mem_flatMap.1 hy
    obtain ⟨b, hb, rfl⟩ := List.mem_map.1 ha
    rw [← hxs] at hb
    obtain ⟨p, hp, rfl⟩ := List.mem_map.1 hb
    have h1 := hall p hp
    simp only [Bool.and_eq_true, List.all_eq_true] at h1
    exact h1.2 y hya
  refine ⟨w.alloc (.cells vs e), _, .value (.slice (some ⟨w.heap.size, 0, none⟩) len len), .slice (some ⟨w.heap.size, 0, none⟩) len len, ?_, .inl rfl, inv', gr, ?_, ?_⟩
  · have hle : ¬ (len * i.size > 2 ^ 24) := by
      have := Nat.mul_le_mul hlen (hsz ▸ h256)
      omega
    have hplace : (fun j => some (j * tsz c.P e, tsz c.P e)) = (fun j : Nat => some (j * i.size, i.size)) := by rw [hsz]
    rw [hplace] at h1
    simp only [execOp, hop, Instr.buildSlice, Sem.run_bind, run_underlying c.P w hu, Result.andThen_ok, run_sizeOf c.P w hi, if_neg hle, Sem.run_ite, Array.toList_map]
    by_cases h0 : len * i.size = 0
    · simp only [h0, if_true, Sem.run_pure, Result.andThen_ok] at hinit ⊢
      rw [hinit, h1]
      rfl
    · simp only [h0, if_false, zeroValue, typeInfo, Sem.run_bind, Sem.run_pure, Result.andThen_ok, run_program, hi, hz] at hinit ⊢
      rw [hinit, h1]
      rfl
  · have hl2 : (xs.map (·.1)).length = len := by simp [hxl]
    have : R (G.row w.heap.size (fl (xs.map (·.1))).length (fun j => vs.getD j undef) (e, vs.size)) (.sl (xs.map (·.1))) (.slice (some ⟨w.heap.size, 0, none⟩) (xs.map (·.1)).length (xs.map (·.1)).length) := by
      refine .sl (tsz c.P e) _ _ _ _ (fun j => vs.getD j undef) (fun y hy => ?_) (Nat.le_refl _) (fun j hj => ?_) (fun j hj => (hRj j hj).mono gr.mono) (fun j hj => oneCell_of (hRj j hj) (hcell _ (List.getElem_mem hj)))
      · obtain ⟨a, ha, rfl⟩ := List.mem_map.1 hy
        rw [← (hx a ha).1, ← expand_fst, List.length_map]
      · simp [Gh.row, hj]
    rw [hl2] at this
    exact this
  · refine ⟨fun b l cc h => by cases h; rfl, ?_⟩
    trivial
end
end Go.Ab
end
section
namespace Go.Ab
open Go.RowKit
section
variable {c : Ctx} {B : Bd} {w0 : World} {G : Gh} {S : St} {w : World} {ρ : Operand → SV} {σ : Operand → Value}

theorem y_readLoad {o : Oper} {t : TypeId} {a : Operand} {x : SV} (hop : o.op = .load t a) (inv : Inv c B w0 G S w) (hρ : ∀ x, RS G S.T (ρ x) (σ x)) (h : c.read (.load t a) ρ S = some x) : Yields c G S.T w σ o x := by
  refine .of_sem (s := Instr.loadAt t (σ a)) (by simp only [execOp, hop]) ?_
  simp only [Ctx.read] at h
  split at h <;> first | (cases h; done) | skip
  rename_i b oo hy
  split at h <;> first | (cases h; done) | skip
  rename_i cells hb
  have hra := (hρ a).1
  rw [hy] at hra
  generalize hva : σ a = va at *
  cases hra with
  | ptr _ _ d hφ =>
    obtain ⟨hB, us, u, fr, hu, hus, hfr, hR⟩ := inv.blk b d cells hb hφ
    obtain ⟨v, h1, h2⟩ := loadVar_sound (T := S.T) (w := w) (d := d) (o := 0) (fun i => us.getD i undef) (fun i hi => by
      rw [cell_of_heap hu, Nat.zero_add, Array.getElem?_eq_getElem (by omega)]
      simp [Array.getD, show i < us.size by omega]) (fun i hi => by
      have := hR i hi (by omega)
      simpa [Array.getD, show i < us.size by omega] using this) h
    rw [Nat.zero_add] at h1
    exact ⟨v, by simpa [Instr.loadAt, Instr.sureAddr] using h1, h2⟩

theorem y_readConvert {o : Oper} {src dst : TypeId} {a : Operand} {x : SV} (hop : o.op = .convert src dst a) (inv : Inv c B w0 G S w) (hρ : ∀ x, RS G S.T (ρ x) (σ x)) (h : c.read (.convert src dst a) ρ S = some x) : Yields c G S.T w σ o x := by
  refine .of_sem (s := convert src dst (σ a)) (by simp only [execOp, hop]) ?_
  simp only [Ctx.read] at h
  split at h <;> first | (cases h; done) | skip
  rename_i b oo n e hk hy hks
  split at h <;> first | (cases h; done) | skip
  rename_i cells hke hb
  obtain ⟨hle, h⟩ := Option.ite_none_right_eq_some.1 h
  simp only [Option.map_eq_some_iff] at h
  obtain ⟨s, hs, rfl⟩ := h
  obtain ⟨ns, hns, rfl⟩ := bytesOf_map hs
  have hra := (hρ a).1
  rw [hy] at hra
  generalize hva : σ a = va at *
  cases hra with
  | slr _ _ _ d cap hφ hc =>
    obtain ⟨hB, us, u, fr, hu, hus, hfr, hR⟩ := inv.blk b d cells hb hφ
    have hnl : ns.length = n := by
      have := congrArg List.length hns
      simp at this; omega
    refine ⟨_, ?_, RS.no (.str _)⟩
    have hb := bytes_read (c := c) (w := w) (d := d) (o := oo) (len := n) (cap := cap) (ns := ns) hnl (fun i hi => by
      have h1 := (hR (oo + i) (by omega) (by omega)).1
      have e1 : cells[oo + i].1 = .int .u8 ns[i] := by
        have h3 : (((cells.drop oo).take n).map (·.1))[i]'(by simp; omega) = (ns.map (AV.int .u8))[i]'(by simpa using hi) := by simp only [hns]
        simpa using h3
      rw [e1] at h1
      rw [cell_of_heap hu, Array.getElem?_eq_getElem (by omega)]
      generalize us[oo + i] = v at *
      cases h1
      rfl)
    simp [convert, run_underlying c.P w (tk_slice hks), run_underlying c.P w (tk_string hk), run_underlying c.P w (tk_int hke)]
    simpa using hb

theorem read_sound {o : Oper} {x : SV} (inv : Inv c B w0 G S w) (hρ : ∀ x, RS G S.T (ρ x) (σ x)) (h : c.read o.op ρ S = some x) : Yields c G S.T w σ o x := by
  cases hop : o.op <;> rw [hop] at h <;> first
    | (cases h; done)
    | (exact y_readLoad hop inv hρ h)
    | (exact y_readConvert hop inv hρ h)
    | (simp [Ctx.read] at h; done)

/-- THE PURE OPERATIONS ARE SOUND. -/
theorem pure_sound {o : Oper} {x : SV} (inv : Inv c B w0 G S w) (hρ : ∀ x, RS G S.T (ρ x) (σ x)) (h : c.pure o.op ρ = some x) : Does c B w0 G S w σ o x S := by
  have himm : ∀ d o v, G.I d o = some v → w.cell? ⟨d, o, none⟩ = some v := fun d o v hv => (inv.imm d o v hv).1
  cases hop : o.op <;> rw [hop] at h <;> first
    | (cases h; done)
    | (exact (y_move (.inl hop) hρ h).does inv)
    | (exact (y_move (.inr hop) hρ h).does inv)
    | (exact (y_pick hop hρ h).does inv)
    | (exact (y_build hop hρ h).does inv)
    | (exact d_buildSlice hop inv hρ h)
    | (exact (y_nilCheck hop hρ h).does inv)
    | (exact (y_binOp hop hρ h).does inv)
    | (exact (y_unOp hop hρ h).does inv)
    | (exact (y_convert hop hρ himm h).does inv)
    | (exact (y_makeInterface hop hρ h).does inv)
    | (exact (y_slice hop hρ h).does inv)
    | (exact (y_fieldAddr hop hρ h).does inv)
    | (exact (y_field hop hρ h).does inv)
    | (exact (y_indexAddr hop hρ h).does inv)
    | (exact (y_index hop hρ h).does inv)
    | (exact (y_extract hop hρ h).does inv)
    | (exact (y_typeAssert hop hρ h).does inv)
    | (exact (y_load hop hρ himm h).does inv)
    | skip
  · rename_i fn a b
    cases fn <;> first
      | (exact (y_makeFunc hop hρ h).does inv)
      | (simp [Ctx.pure] at h; done)
  · rename_i cl
    obtain ⟨callee, args, ts⟩ := cl
    cases callee <;> first
      | (simp [Ctx.pure] at h; done)
      | skip
    rename_i bi
    cases bi <;> first
      | (exact (y_len hop hρ h).does inv)
      | (exact (y_min hop hρ h).does inv)
      | (exact (y_max hop hρ h).does inv)
      | (simp [Ctx.pure] at h; done)
end
end Go.Ab
end
section
namespace Go.Ab
open Go.RowKit
section
variable {c : Ctx} {B : Bd} {w0 : World} {G : Gh} {S : St} {w : World} {ρ : Operand → SV} {σ : Operand → Value}

theorem headD_zero : ∀ (l : List AV) (h : 0 < l.length), l.headD .undef = l[0]
  | _ :: _, _ => rfl

theorem d_makeSlice {e : Env0} (he : e.c = c) {o : Oper} {t : TypeId} {a b : Operand} {x : SV} {S' : St} (hop : o.op = .makeSlice t a b) (inv : Inv c B w0 G S w) (hρ : ∀ x, RS G S.T (ρ x) (σ x))
    (h : e.act (.makeSlice t a b) ρ S = some (.ok x S')) : Does c B w0 G S w σ o x S' := by
  subst he
  simp only [Env0.act] at h
  split at h <;> first | (cases h; done) | skip
  rename_i elem k n k' m hk ha hb
  obtain ⟨⟨hnm, h0, hmax, hs1, hbytes, hhz, htz⟩, h9⟩ := Option.ite_none_right_eq_some.1 h
  subst hnm
  cases h9
  have hra := (hρ a).1
  have hrb := (hρ b).1
  rw [ha] at hra
  rw [hb] at hrb
  generalize hva : σ a = va at *
  generalize hvb : σ b = vb at *
  cases hra; cases hrb
  obtain ⟨q, rfl⟩ : ∃ q : Nat, n = q := ⟨n.toNat, by omega⟩
  obtain ⟨i, z, hi, hz⟩ := of_hasZero hhz
  have hsz : i.size = 1 := by simpa [tsz, hi] using hs1
  have hbi : i.bytes ≤ 64 := by simpa [Program.bytesOf, hi] using hbytes
  have hz0 := zero_sound (G := G) (T := S.T) hi hz
  have hzs : z.cells.size = 1 := by rw [← hz0.1, tzs, List.length_map, htz]
  have hmax' : (q : Int) ≤ 4294967296 := by unfold Ab.maxLen at hmax; omega
  have hwrap : IntKind.i64.wrap (q : Int) = q := by rw [IntKind.wrap_i64]; omega
  generalize hvs : (Array.range q).map (fun j => z.cells[j % z.cells.size]!) = vs
  have hvsz : vs.size = q := by rw [← hvs]; simp
  have inv' := inv.newVar (List.replicate q ((tz e.c.P elem).headD .undef, .no)) vs elem (by simp [hvsz]) (fun j h1 h2 => by
    have h3 := (hz0.2 0 (by simp [tzs, htz]) (by omega)).1
    have e1 : (List.replicate q ((tz e.c.P elem).headD .undef, Tag.no))[j] = ((tz e.c.P elem).headD .undef, .no) := by simp
    have e2 : vs[j] = z.cells[0] := by
      simp only [← hvs, Array.getElem_map, Array.getElem_range, hzs, Nat.mod_one]
      exact getElem!_pos z.cells 0 (by omega)
    rw [e1, e2]
    have e3 : (tz e.c.P elem).headD .undef = (tz e.c.P elem)[0]'(by omega) := headD_zero _ _
    rw [e3]
    refine RS.no ?_
    simpa [tzs] using h3) (fun x hx => by rw [(List.mem_replicate.1 hx).2]; rfl)
  refine ⟨w.alloc (.cells vs elem), _, .value (.slice (some ⟨w.heap.size, 0, none⟩) q q), _, ?_, .inl rfl, inv', grows_var inv _ _, RS.no (.slr _ _ _ _ _ ?_ (Nat.le_refl _))⟩
  · have h1 : ¬ ((i.bytes : Int) * q > 2 ^ 48) := by
      have : (i.bytes : Int) * q ≤ 64 * q := Int.mul_le_mul_of_nonneg_right (by omega) h0
      omega
    have h2 : ¬ (q : Int) < 0 := by omega
    simp only [execOp, hop, hva, hvb, Instr.makeSlice, Sem.run_bind, run_underlying e.c.P w (tk_slice hk), Result.andThen_ok, asInt, asIntOf, Sem.run_pure, typeInfo, run_program, hi, hwrap, run_sizeOf e.c.P w hi, hsz, Nat.mul_one]
    simp only [h1, h2, decide_false, Bool.or_false, Bool.false_eq_true, false_or, Int.lt_irrefl, or_false, if_false, gt_iff_lt, Sem.run_ite, Sem.run_bind, run_askRoom, Result.andThen_ok, Sem.run_pure, Bool.or_self, decide_true]
    by_cases hn0 : q = 0
    · subst hn0
      have hv0 : vs = #[] := by rw [← hvs]; simp
      simp [newRow, run_sizeOf e.c.P w hi, hv0]
      rw [show Array.map (fun _ => (default : Value)) (Array.range 0) = #[] from Array.eq_empty_of_size_eq_zero (by simp)]
    · simp [hn0, zeroValue, typeInfo, run_program, hi, hz, newRow, run_sizeOf e.c.P w hi, hsz]
      rw [hvs]
  · show (G.φ ++ [some w.heap.size])[S.H.length]? = _
    rw [← inv.lenφ]
    simp

theorem d_convert {e : Env0} (he : e.c = c) {o : Oper} {src dst : TypeId} {a : Operand} {x : SV} {S' : St} (hop : o.op = .convert src dst a) (inv : Inv c B w0 G S w) (hρ : ∀ x, RS G S.T (ρ x) (σ x))
    (h : e.act (.convert src dst a) ρ S = some (.ok x S')) : Does c B w0 G S w σ o x S' := by
  subst he
  simp only [Env0.act] at h
  split at h
  · cases h
  rename_i hsrc
  obtain ⟨ds, hds⟩ : ∃ ds, e.c.P.underlying src = some ds := by
    cases hk : tk e.c.P src with
    | other => rw [hk] at hsrc; simp [TK.isOther] at hsrc
    | _ => exact underlying_of_tk hk (by simp)
  split at h <;> first | (cases h; done) | skip
  rename_i elem s hk hy
  split at h <;> first | (cases h; done) | skip
  rename_i hke
  cases h
  have hra := (hρ a).1
  rw [hy] at hra
  generalize hva : σ a = va at *
  cases hra
  -- the world: a draw, a new row, a mark behind it
  obtain ⟨cap, hcap⟩ : ∃ cap, cap = (Question.appendCap s.length 0 elem).cut (w.tape w.drawn (.appendCap s.length 0 elem)) := ⟨_, rfl⟩
  generalize hvs : (s.map fun b => Value.int .u8 b.toNat).toArray ++ Array.replicate (cap - s.length) (Value.int .u8 0) = vs
  have hge : s.length ≤ cap := by
    have := grownCap_ge w s.length 0 elem
    rw [hcap]; exact this
  have hl : s.length ≤ vs.size := by rw [← hvs]; simp
  have inv' := (inv.drew (w.drawn + 1)).newVar ((toBytes s).map (·, .no)) vs elem (by simp [toBytes]; exact hl) (fun j h1 h2 => by
    have hj : j < s.length := by simpa [toBytes] using h1
    have e2 : vs[j] = .int .u8 s[j].toNat := by
      simp only [← hvs]
      rw [Array.getElem_append_left (by simpa using hj)]
      simp
    rw [e2]
    simp only [List.getElem_map, toBytes]
    exact RS.no (.int _ _)) (fun x hx => by obtain ⟨q, _, rfl⟩ := List.mem_map.1 hx; rfl)
  -- freezing one cell behind the row
  have hw : Writes (World.alloc { w with drawn := w.drawn + 1 } (.cells vs elem)) ((World.alloc { w with drawn := w.drawn + 1 } (.cells vs elem)).freeze { block := w.heap.size, off := vs.size } 1) w.heap.size (.cells vs elem (vs.size, vs.size + 1)) := by
    refine ⟨?_, fun k hk => ?_, ?_, rfl, rfl, rfl⟩
    · simp only [World.freeze, Nat.one_ne_zero, if_false, Array.getElem?_modify]
      have := heap_alloc_new (w := { w with drawn := w.drawn + 1 }) (o := .cells vs elem)
      rw [show (w.heap.size) = ({ w with drawn := w.drawn + 1 } : World).heap.size from rfl, this]
      simp
    · simp only [World.freeze, Nat.one_ne_zero, if_false, Array.getElem?_modify]
      rw [if_neg (fun h => hk h.symm)]
    · simp [World.freeze]
  have hφ : (G.φ ++ [some w.heap.size])[S.H.length]? = some (some w.heap.size) := by rw [← inv.lenφ]; simp
  have hb : (S.H ++ [(toBytes s).map ((·, Tag.no) : AV → SV)])[S.H.length]? = some ((toBytes s).map (·, .no)) := by simp
  obtain ⟨p1, us, u, fr, p2, p3, p4, p5⟩ := inv'.blk _ _ _ hb hφ
  have p2' := heap_alloc_new (w := { w with drawn := w.drawn + 1 }) (o := .cells vs elem)
  rw [show (({ w with drawn := w.drawn + 1 } : World).heap.size) = w.heap.size from rfl] at p2'
  rw [p2'] at p2
  cases p2
  have inv2 := inv'.blkSet' hb hφ p2' hw (fun o ho => by simp [toBytes] at ho; simp only; omega) (fun _ => Nat.le_succ _) rfl rfl (fun x hx => by
    obtain ⟨q, hq, rfl⟩ := List.mem_map.1 hx
    obtain ⟨r, _, rfl⟩ := List.mem_map.1 hq
    rfl) (fun x hx => by obtain ⟨q, _, rfl⟩ := List.mem_map.1 hx; rfl) p5
  have hset : (S.H ++ [(toBytes s).map ((·, Tag.no) : AV → SV)]).set S.H.length ((toBytes s).map (·, .no)) = S.H ++ [(toBytes s).map (·, .no)] := by simp
  rw [hset] at inv2
  refine ⟨_, _, .value (.slice (some ⟨w.heap.size, 0, none⟩) s.length cap), _, ?_, .inl rfl, inv2, grows_var (inv.drew (w.drawn + 1)) _ _, RS.no (.slr _ _ _ _ _ hφ hge)⟩
  have harr : (Array.map (fun b : UInt8 => Value.int .u8 b.toNat) (⟨s⟩ : Array UInt8)) = (s.map fun b => Value.int .u8 b.toNat).toArray := by simp
  have hsh : World.shape? (World.alloc { w with drawn := w.drawn + 1 } (.cells vs elem)) w.heap.size = some (elem, vs.size) := by unfold World.shape?; rw [p2']
  have hf : Question.forced (.appendCap s.length 0 elem) = false := rfl
  simp only [execOp, hop, hva, convert, Sem.run_bind, run_underlying e.c.P w hds, run_underlying e.c.P w (tk_slice hk), run_underlying e.c.P w (tk_int hke), Result.andThen_ok]
  have key : (Conv.stringToBytes elem ⟨⟨s⟩⟩).run e.c.P w = .ok (.slice (some ⟨w.heap.size, 0, none⟩) s.length cap) ((World.alloc { w with drawn := w.drawn + 1 } (.cells vs elem)).freeze { block := w.heap.size, off := vs.size } 1) := by
    simp only [Conv.stringToBytes, Sem.run_bind, run_choose, size_mk, hf, Bool.false_eq_true, if_false, Result.andThen_ok, newRow, run_newObj, Sem.run_pure, markStringish, run_shape]
    rw [← hcap]
    have e1 : (Array.map (fun b : UInt8 => Value.int .u8 b.toNat) (⟨s⟩ : Array UInt8)) ++ Array.replicate (cap - s.length) (Value.int .u8 0) = vs := by rw [harr, hvs]
    simp only [e1]
    have e2 : ({ heap := w.heap.push (.cells vs elem), tape := w.tape, drawn := w.drawn + 1, os := w.os, output := w.output } : World) = World.alloc { w with drawn := w.drawn + 1 } (.cells vs elem) := rfl
    rw [e2, hsh]
    simp
  cases ds <;> first
    | (simp only [key, Result.andThen_ok, Sem.run_pure]; done)
    | (simp [key]; done)
end
end Go.Ab
end
section
/- ROWS OF BYTES THAT APPENDS MADE: append, and the two unsafe builtins of strings.Builder. -/
namespace Go.Ab
open Go.RowKit
section
variable {c : Ctx} {B : Bd} {w0 : World} {G : Gh} {S : St} {w : World} {ρ : Operand → SV} {σ : Operand → Value}

theorem fl_toBytes (s : List UInt8) : fl (toBytes s) = toBytes s := by
  induction s with
  | nil => rfl
  | cons b s ih => show AV.cells (.int .u8 b.toNat) ++ fl (toBytes s) = _; rw [ih]; rfl
theorem toBytes_length (s : List UInt8) : (toBytes s).length = s.length := by simp [toBytes]
theorem toBytes_get (s : List UInt8) (i : Nat) (h : i < (toBytes s).length) (h' : i < s.length) : (toBytes s)[i] = .int .u8 s[i].toNat := by simp [toBytes]

/-- a row of bytes is a slice of bytes -/
theorem buf_sl {u : TypeId} {s : List UInt8} {v : Value} (h : R G (.buf u s) v) : R G (.sl (toBytes s)) v := by
  cases h with
  | buf0 => exact .nils none
  | buf _ _ cc cap n hne hc h ht =>
    have hl : (fl (toBytes s)).length = s.length := by rw [fl_toBytes, toBytes_length]
    have e : R G (.sl (toBytes s)) (.slice (some ⟨cc, 0, none⟩) (toBytes s).length cap) := by
      refine .sl 1 (toBytes s) cc 0 cap (fun i => .int .u8 (s.getD i 0).toNat) (fun x hx => ?_) (by rw [toBytes_length]; exact hc) (fun i hi => ?_) (fun i hi => ?_) (fun i hi => rfl)
      · obtain ⟨b, _, rfl⟩ := List.mem_map.1 hx; rfl
      · rw [hl] at hi
        rw [Nat.zero_add, h i hi]
        simp [List.getD, List.getElem?_eq_getElem hi]
      · have hi' : i < s.length := by rw [hl] at hi; exact hi
        have : (fl (toBytes s))[i] = .int .u8 s[i].toNat := by
          simp only [fl_toBytes]; exact toBytes_get s i _ hi'
        rw [this]
        simp [List.getD, List.getElem?_eq_getElem hi']
        exact .int _ _
    rw [toBytes_length] at e
    exact e
theorem buf_RS {T : List Nat} {u : TypeId} {s : List UInt8} {tg : Tag} {v : Value} (h : RS G T (.buf u s, tg) v) : RS G T (.sl (toBytes s), tg) v := by
  obtain ⟨h1, h2, h3⟩ := h
  refine ⟨buf_sl h1, ?_, ?_⟩
  · cases tg with
    | no => trivial
    | full => exact h2
    | agg _ => trivial
    | tok id =>
      obtain ⟨n, k1, k2, k3, k4⟩ := h2
      refine ⟨n, k1, by simpa [AV.len, toBytes_length] using k2, fun e b l cc hv => ?_, fun t y ys hy => by cases hy⟩
      obtain ⟨ow, ho, hv', _, ho2⟩ := k3 (by simpa [AV.len, toBytes_length] using e) b l cc hv
      refine ⟨ow, ho, hv', fun y ys hy => ?_, fun t y ys hy => by cases hy⟩
      have hy := AV.sl.inj hy
      cases s with
      | nil => cases hy
      | cons a s =>
        rw [show toBytes (a :: s) = .int .u8 a.toNat :: toBytes s from rfl] at hy
        obtain ⟨rfl, rfl⟩ := List.cons.inj hy
        exact (ho2 u a s rfl).1
  · cases v <;> exact True.intro
theorem bytesIn_added {e : Env0} {elem : TypeId} {k : TK} {x : AV} {ys : List UInt8} {zs : List AV} (h : bytesIn k x = some ys) (h2 : e.added S elem k x = some zs) : zs = toBytes ys := by
  unfold bytesIn at h
  split at h <;> first | (cases h; done) | skip
  · cases h
    simp only [Env0.added] at h2
    split at h2 <;> first | (cases h2; done) | skip
    exact (Option.some.inj (Option.ite_none_right_eq_some.1 h2).2).symm
  · rename_i n el
    obtain ⟨⟨h0, h1⟩, h⟩ := Option.ite_none_right_eq_some.1 h
    cases h
    simp only [Env0.added] at h2
    rw [← (Option.some.inj (Option.ite_none_right_eq_some.1 h2).2)]
    have : ((UInt8.ofNat n.toNat).toNat : Int) = n := by
      rw [UInt8.toNat_ofNat']
      omega
    show [AV.int .u8 n] = [AV.int .u8 ((UInt8.ofNat n.toNat).toNat : Int)]
    rw [this]
theorem toBytes_append (a b : List UInt8) : toBytes (a ++ b) = toBytes a ++ toBytes b := by simp [toBytes]
theorem sl_bytes {s : List UInt8} {d oo n cap : Nat} (h : R G (.sl (toBytes s)) (.slice (some ⟨d, oo, none⟩) n cap)) : n = s.length ∧ s.length ≤ cap ∧ ∀ i (h : i < s.length), G.I d (oo + i) = some (.int .u8 s[i].toNat) := by
  have hl : (fl (toBytes s)).length = s.length := by rw [fl_toBytes, toBytes_length]
  generalize hxs : toBytes s = xs at h
  cases h with
  | nils b =>
    obtain rfl : s = [] := List.length_eq_zero_iff.1 (by rw [← toBytes_length s, hxs]; rfl)
    exact ⟨rfl, Nat.le_refl _, fun i h => absurd h (by simp)⟩
  | sl sz _ _ _ _ f hs hc hI hR h1 =>
    subst hxs
    refine ⟨toBytes_length s, by rw [toBytes_length] at hc; exact hc, fun i hi => ?_⟩
    rw [hI i (by rw [hl]; exact hi)]
    have := hR i (by rw [hl]; exact hi)
    have e : (fl (toBytes s))[i]'(by rw [hl]; exact hi) = .int .u8 s[i].toNat := by
      simp only [fl_toBytes]; exact toBytes_get s i _ hi
    rw [e] at this
    generalize f i = v at this
    cases this
    rfl
theorem d_append {e : Env0} (he : e.c = c) {o : Oper} {ops : Array Operand} {ts : Array TypeId} {x : SV} {S' : St} (hop : o.op = .call { callee := .builtin .append, args := ops, argTypes := ts })
    (inv : Inv c B w0 G S w) (hρ : ∀ x, RS G S.T (ρ x) (σ x)) (h : e.act (.call { callee := .builtin .append, args := ops, argTypes := ts }) ρ S = some (.ok x S')) : Does c B w0 G S w σ o x S' := by
  subst he
  simp only [Env0.act] at h
  split at h <;> first | (cases h; done) | skip
  rename_i a b t t2 hl ht
  have eo : ops = #[a, b] := by rw [← hl]
  have et : ts = #[t, t2] := by rw [← ht]
  have fin : ∀ v w' G', (Builtin.append_ #[t, t2] o.type #[σ a, σ b]).run e.c.P w = .ok v w' → Inv e.c B w0 G' S' w' → Grows G S.T G' S'.T → RS G' S'.T x v → Does e.c B w0 G S w σ o x S' := by
    intro v w' G' h1 h2 h3 h4
    refine ⟨w', G', .value v, v, ?_, .inl rfl, h2, h3, h4⟩
    simp [execOp, hop, resolve, invoke, builtin, eo, et, h1]
  unfold Env0.append at h
  split at h
  · rename_i u bs tg hsa
    split at h <;> first | (cases h; done) | skip
    rename_i elem ys hk hys
    obtain ⟨rfl, h⟩ := Option.ite_none_right_eq_some.1 h
    obtain ⟨r, hr, hb⟩ := Option.bind_eq_some_iff.1 h
    unfold bufOf at hb
    split at hb <;> first | (cases hb; done) | skip
    rename_i z tg' S''
    cases hb
    have hra := hρ a
    rw [hsa] at hra
    obtain ⟨v, w', G', run, i1, g1, hrs, app⟩ := append_core (ty := o.type) rfl hk inv (buf_RS hra) (hρ b) hr
    obtain ⟨zs, hz1, hz2⟩ := appendL_val hk hr
    have hz3 := bytesIn_added hys hz1
    subst hz3
    simp only at hz2
    rw [← toBytes_append] at hz2
    subst hz2
    refine fin v w' G' run i1 g1 ?_
    rcases app with ⟨e1, rfl, rfl, rfl⟩ | ⟨d, oo, n, cap, id, ow, rfl, hn0, htg, hown, how⟩
    · have e2 := congrArg (fun x : SV => x.1.len) e1
      simp only [AV.len, toBytes_length, List.length_append] at e2
      have : ys = [] := by
        cases ys with
        | nil => rfl
        | cons => simp at e2
      subst this
      have e3 := congrArg Prod.snd e1
      simp only at e3
      subst e3
      rw [List.append_nil]
      exact hra
    · simp only at htg
      subst htg
      obtain ⟨hn, hcap, hI⟩ := sl_bytes hrs.1
      have hne : bs ++ ys ≠ [] := by
        intro h0
        rw [h0] at hn
        exact hn0 (by simpa using hn)
      have hty : oo = 0 ∧ (∃ m, G'.ty d = some (elem, m)) ∧ ow.ex = true := by
        rcases how with h1 | ⟨l, c0, ow0, hva, htag, hl0, hT, ho0, hex⟩
        · exact h1
        · simp only [AV.len, toBytes_length] at hl0 hT htag
          subst htag
          have hRa := hra.1
          rw [hva] at hRa
          cases hRa with
          | buf _ _ _ _ m hne' hc' hI' ht' =>
            refine ⟨rfl, ⟨m, g1.mono.ty _ _ ht'⟩, ?_⟩
            rw [hex]
            obtain ⟨n1, k1, k2, k3, _⟩ := hra.2.1
            rw [hT] at k1
            cases k1
            obtain ⟨ow1, ho1, _, _, hx⟩ := k3 rfl _ _ _ hva
            rw [ho0] at ho1
            cases ho1
            cases hbs : bs with
            | nil => exact absurd hbs hne'
            | cons y ys' => exact (hx elem y ys' (by rw [hbs])).2
      obtain ⟨rfl, ⟨m, hm⟩, hex⟩ := hty
      obtain ⟨n1, k1, k2, k3, _⟩ := hrs.2.1
      refine ⟨?_, ⟨n1, k1, by simpa [AV.len, toBytes_length] using k2, fun e1 b' l' c' hv => ?_, fun t y ys hy => by cases hy⟩, trivial⟩
      · rw [hn]
        exact .buf elem _ d cap m hne hcap (fun i hi => by have := hI i hi; rwa [Nat.zero_add] at this) hm
      · obtain ⟨ow1, ho1, hv1, hs1, _⟩ := k3 (by simpa [AV.len, toBytes_length] using e1) b' l' c' hv
        rw [hown] at ho1
        cases ho1
        refine ⟨ow, hown, hv1, fun y ys hy => (by cases hy), fun t y ys' hy => ⟨?_, hex⟩⟩
        obtain ⟨rfl, hy2⟩ := AV.buf.inj hy
        exact hs1 (.int .u8 y.toNat) (toBytes ys') (by rw [hy2]; rfl)
  · obtain ⟨elem, hk⟩ : ∃ elem, tk e.c.P t = .slice elem := by
      unfold Env0.appendL at h
      split at h
      · rename_i elem hk; exact ⟨elem, hk⟩
      · cases h
    obtain ⟨v, w', G', run, i1, g1, hrs, _⟩ := append_core (ty := o.type) rfl hk inv (hρ a) (hρ b) h
    exact fin v w' G' run i1 g1 hrs

theorem d_sliceData {e : Env0} (he : e.c = c) {o : Oper} {ops : Array Operand} {ts : Array TypeId} {x : SV} {S' : St} (hop : o.op = .call { callee := .builtin .unsafeSliceData, args := ops, argTypes := ts })
    (inv : Inv c B w0 G S w) (hρ : ∀ x, RS G S.T (ρ x) (σ x)) (h : e.act (.call { callee := .builtin .unsafeSliceData, args := ops, argTypes := ts }) ρ S = some (.ok x S')) : Does c B w0 G S w σ o x S' := by
  subst he
  simp only [Env0.act] at h
  split at h <;> first | (cases h; done) | skip
  rename_i a hl
  have eo : ops = #[a] := by rw [← hl]
  split at h <;> first | (cases h; done) | skip
  rename_i u s id hsa
  obtain ⟨hT, h⟩ := Option.ite_none_right_eq_some.1 h
  cases h
  have hra := hρ a
  rw [hsa] at hra
  have fin : ∀ v, (Builtin.unsafeSliceData_ ts o.type #[σ a]).run e.c.P w = .ok v w → RS G S.T (.bptr u s, .tok id) v → Does e.c B w0 G S w σ o (.bptr u s, .tok id) S := by
    intro v h1 h4
    refine ⟨w, G, .value v, v, ?_, .inl rfl, inv, .refl _ _, h4⟩
    simp [execOp, hop, resolve, invoke, builtin, eo, h1]
  obtain ⟨hR, hRT, _⟩ := hra
  generalize hva : σ a = va at *
  cases hR with
  | buf0 =>
    exact fin (.pointer none) (Lib.run_unsafeSliceData_nil w _ _ _ _) ⟨.bptr0 u, ⟨0, hT, Nat.le_refl _, fun _ b l c hv => (by cases hv), fun t y ys hy => by cases hy⟩, trivial⟩
  | buf _ _ d cap m hne hc hI ht =>
    have hl0 : s.length ≠ 0 := by simpa using hne
    refine fin (.pointer (some ⟨d, 0, none⟩)) (Lib.run_unsafeSliceData_row w _ _ _ _ _ (by omega)) ⟨.bptr u s d m hne hI ht, ⟨s.length, hT, Nat.le_refl _, fun _ b l c hv => (by cases hv), fun t y ys hy _ => ?_⟩, trivial⟩
    obtain ⟨rfl, hys⟩ := AV.bptr.inj hy
    obtain ⟨n1, k1, k2, k3, _⟩ := hRT
    rw [hT] at k1
    cases k1
    obtain ⟨ow, ho, hv, _, hx⟩ := k3 rfl _ _ _ rfl
    obtain ⟨h1, h2⟩ := hx u y ys (by rw [hys])
    refine ⟨ow, ho, h1, h2, ?_⟩
    have := (Value.slice.inj hv).1
    rw [this]
theorem tk_ptr {P : Program} {t e : TypeId} (h : tk P t = .ptr e) : P.underlying t = some (.pointer e) := by
  unfold tk at h
  split at h <;> first | (cases h; assumption) | (cases h; done) | (split at h <;> cases h)
/-- A TOKEN's ROW IS FROZEN from its head to its end. -/
theorem Inv.freeze (inv : Inv c B w0 G S w) {id n : Nat} {ow : Own} {d : Nat} {u : TypeId} (hown : G.own[id]? = some ow) (hlv : ow.ex = true) (hb : ow.base = some ⟨d, 0, none⟩) (hsz : ow.sz = 1) (hn : ow.len ≠ 0) (hty : G.ty d = some (u, n)) :
    Inv c B w0 G S (w.freeze ⟨d, 0, none⟩ ow.len) := by
  obtain ⟨hT, hle, hspare⟩ := inv.own id ow hown
  obtain ⟨d', o', k1, k2, k3, us, t', fr, k4, k5, k6⟩ := hspare (.inr hlv)
  rw [hb] at k1
  cases k1
  obtain ⟨us', fr', q1, q2, q3⟩ := inv.ty d u n hty
  rw [k4] at q1
  cases q1
  obtain ⟨lo, hi⟩ := fr
  simp only at q3 k6
  rw [hsz] at k5 k6
  have hhi : lo = hi ∨ hi ≤ ow.len := by
    rcases Nat.lt_or_ge ow.len hi with h | h
    · rcases Nat.lt_or_ge lo hi with h1 | h1
      · have := (k6 (max lo ow.len) (by omega)).1
        omega
      · exact .inl (by omega)
    · exact .inr h
  let fr' : Nat × Nat := if lo == hi then (0, 0 + ow.len) else (min lo 0, max hi (0 + ow.len))
  have hfr : fr' = (0, ow.len) := by
    simp only [fr']
    split
    · simp
    · rename_i h
      have h : lo ≠ hi := by simpa using h
      rcases hhi with h1 | h1
      · exact absurd h1 h
      · rw [Nat.min_eq_right (Nat.zero_le _), Nat.max_eq_right (by omega)]; simp
  have hw : Writes w (w.freeze ⟨d, 0, none⟩ ow.len) d (.cells us u (0, ow.len)) := by
    refine ⟨?_, fun k hk => ?_, ?_, ?_, ?_, ?_⟩
    · rw [← hfr]
      simp only [World.freeze, hn, if_false, Array.getElem?_modify, if_true, k4, Option.map_some]
      rfl
    · simp only [World.freeze, hn, if_false, Array.getElem?_modify]
      rw [if_neg (fun h => hk h.symm)]
    all_goals simp [World.freeze, hn]
  exact {
    below := hw.below inv.below k2
    base := fun d hd => inv.base d (by rw [hw.size] at hd; exact hd)
    iD := inv.iD
    lenφ := inv.lenφ
    lenO := inv.lenO
    inj := inv.inj
    low := inv.low
    tag := inv.tag
    blk := fun b d' cells hb' hφ => by
      obtain ⟨h1, vs, v, fr2, h2, h3⟩ := inv.blk b d' cells hb' hφ
      exact ⟨h1, vs, v, fr2, by rw [hw.other d' (fun e => k3 b (e ▸ hφ))]; exact h2, h3⟩
    imm := fun d1 o v h => by
      obtain ⟨h1, h2⟩ := inv.imm d1 o v h
      refine ⟨?_, h2⟩
      by_cases e : d1 = d
      · subst e
        rw [cell_of_heap k4] at h1
        rw [cell_of_heap hw.at_]
        exact h1
      · rw [hw.cell e]; exact h1
    own := fun j oj h => by
      obtain ⟨h1, h2, h3⟩ := inv.own j oj h
      refine ⟨h1, h2, fun hl => ?_⟩
      by_cases e : j = id
      · subst e
        rw [hown] at h
        cases h
        exact ⟨d, 0, hb, k2, k3, us, u, (0, ow.len), hw.at_, by rw [hsz]; exact k5, fun i hi => by rw [hsz] at hi; exact ⟨by simp only; omega, (k6 i hi).2⟩⟩
      · obtain ⟨d2, o2, q1, q2, q3, us2, u2, fr2, q4, q5⟩ := h3 hl
        have hd2 : d2 ≠ d := fun e2 => inv.dis j id oj ow d2 o2 0 e h hown hl (.inr hlv) q1 (by rw [e2]; exact hb)
        exact ⟨d2, o2, q1, q2, q3, us2, u2, fr2, by rw [hw.other d2 hd2]; exact q4, q5⟩
    dis := inv.dis
    ty := ty_writes inv.ty k4 hw.at_ hw.other rfl (fun _ => Nat.zero_le _)
    glob := inv.glob
    know := inv.know }

theorem d_unsafeString {e : Env0} (he : e.c = c) {o : Oper} {ops : Array Operand} {ts : Array TypeId} {x : SV} {S' : St} (hop : o.op = .call { callee := .builtin .unsafeString, args := ops, argTypes := ts })
    (inv : Inv c B w0 G S w) (hρ : ∀ x, RS G S.T (ρ x) (σ x)) (h : e.act (.call { callee := .builtin .unsafeString, args := ops, argTypes := ts }) ρ S = some (.ok x S')) : Does c B w0 G S w σ o x S' := by
  subst he
  simp only [Env0.act] at h
  split at h <;> first | (cases h; done) | skip
  rename_i a b pt it hl ht
  have eo : ops = #[a, b] := by rw [← hl]
  have et : ts = #[pt, it] := by rw [← ht]
  split at h <;> first | (cases h; done) | skip
  rename_i u s id k hsa hsb
  obtain ⟨⟨hT, hk, hmax, hpt⟩, h⟩ := Option.ite_none_right_eq_some.1 h
  cases h
  subst hk
  have hra := hρ a
  rw [hsa] at hra
  have hrb := (hρ b).1
  rw [hsb] at hrb
  have fin : ∀ w', Inv e.c B w0 G S w' → (Builtin.unsafeString_ #[pt, it] o.type #[σ a, σ b]).run e.c.P w = .ok (.string ⟨⟨s⟩⟩) w' → Does e.c B w0 G S w σ o (.str s, .no) S := by
    intro w' i1 h1
    refine ⟨w', G, .value (.string ⟨⟨s⟩⟩), _, ?_, .inl rfl, i1, .refl _ _, RS.no (.str s)⟩
    simp [execOp, hop, resolve, invoke, builtin, eo, et, h1]
  obtain ⟨hR, hRT, _⟩ := hra
  generalize hva : σ a = va at *
  generalize hvb : σ b = vb at *
  cases hrb
  cases hR with
  | bptr0 => exact fin w inv (Lib.run_unsafeString_none w _ _ _ _)
  | bptr _ _ d m hne hI hty =>
    obtain ⟨n1, k1, _, _, k4⟩ := hRT
    rw [hT] at k1
    cases k1
    obtain ⟨y, ys, hys⟩ := List.exists_cons_of_ne_nil hne
    obtain ⟨ow, ho, h1, h2, hp⟩ := k4 u y ys (by rw [hys]) rfl
    have hb : ow.base = some ⟨d, 0, none⟩ := (Value.pointer.inj hp).symm
    obtain ⟨hTo, hle, hsp⟩ := inv.own id ow ho
    rw [hT] at hTo
    have hlen : ow.len = s.length := (Option.some.inj hTo).symm
    have hl0 : s.length ≠ 0 := by simpa using hne
    obtain ⟨d2, o2, q1, q2, q3, us, u2, fr, q4, q5, q6⟩ := hsp (.inr h2)
    rw [hb] at q1
    cases q1
    obtain ⟨us', fr', p1, p2, p3⟩ := inv.ty d u m hty
    rw [q4] at p1
    cases p1
    simp only [ptrU8, Bool.and_eq_true, beq_iff_eq] at hpt
    obtain ⟨⟨hp1, hp2⟩, hp3⟩ := hpt
    have hpu : e.c.P.underlying pt = some (.pointer u) := by
      split at hp1
      · rename_i e' hp'
        rw [beq_iff_eq] at hp1
        subst hp1
        exact tk_ptr hp'
      · cases hp1
    have hcells : e.c.P.cellsOf u = 1 := by
      rw [← hp3]
      unfold Program.cellsOf tsz
      cases e.c.P.info? u <;> rfl
    have hfz := inv.freeze ho h2 hb h1 (by omega) hty
    rw [hlen] at hfz
    rw [h1] at q5
    have hle1 := hle.1
    refine fin _ hfz (Lib.run_unsafeString_row w pt it o.type u hpu hcells d us.size (by simp [World.shape?, q4]) s hne (by omega) (by unfold Ab.maxLen at hmax; omega) (fun j x hx => ?_))
    obtain ⟨hj, rfl⟩ := List.getElem?_eq_some_iff.1 hx
    have := (inv.imm _ _ _ (hI j hj)).1
    have e1 : (⟨d, 0, none⟩ : Addr).add j = ⟨d, j, none⟩ := by
      unfold Addr.add
      by_cases hj0 : j = 0
      · subst hj0; simp
      · simp [hj0]
    rw [e1]
    exact this
end
end Go.Ab
end
section
/- ONE OPERATION, A REGION IN THE TEXT's ORDER. -/
namespace Go.Ab
open Go.RowKit

structure RArgs (G : Gh) (T : List Nat) (args : List SV) (vs : Array Value) : Prop where
  len : args.length = vs.size
  at_ : ∀ i (h : i < args.length) (h' : i < vs.size), RS G T args[i] vs[i]
/-- how a call's end stands for the machine's -/
def OutR (G : Gh) (T : List Nat) : COut → Ending → Prop
  | .ret x, .returned v => RS G T x v
  | .panic x, .panicked chain => ∃ v, chain = [{ v := v, recovered := false }] ∧ R G x v
  | _, _ => False
/-- a call that enters its function, or one that the model answers itself -/
def CallTo (P : Program) (f : FuncId) (vs : Array Value) (w : World) (R : Ending → World → Prop) : Prop :=
  ((callFunc f vs).run P w = .ok (.enter f vs) w ∧ Calls P f vs w R) ∨ ∃ v w', (callFunc f vs).run P w = .ok (.value v) w' ∧ R (.returned v) w'
/-- A CALL OF THE PURE RUN IS THE MACHINE'S. -/
def CallSound (c : Ctx) (call : CallFn) : Prop := ∀ (f : FuncId) (args : List SV) (S : St) (out : COut) (S' : St), call f args S = some (out, S') →
  ∀ (B : Bd) (w0 : World) (G : Gh) (w : World) (vs : Array Value), Inv c B w0 G S w → RArgs G S.T args vs →
    CallTo c.P f vs w fun en w' => ∃ G', Inv c B w0 G' S' w' ∧ Grows G S.T G' S'.T ∧ OutR G' S'.T out en

/-- what is deferred -/
def DefR1 (G : Gh) (x : FuncId × List SV) (d : Deferred) : Prop := ∃ cap, d.target = .fn (.func x.1) cap ∧ x.2.length = (d.args ++ cap).size ∧ ∀ i (h : i < x.2.length) (h' : i < (d.args ++ cap).size), R G x.2[i].1 (d.args ++ cap)[i] ∧ x.2[i].2 = .no
def DefR (G : Gh) : List (FuncId × List SV) → List Deferred → Prop
  | [], [] => True
  | x :: xs, d :: ds => DefR1 G x d ∧ DefR G xs ds
  | _, _ => False
theorem DefR1.mono {G G' : Gh} (m : Mono G G') {x : FuncId × List SV} {d : Deferred} (h : DefR1 G x d) : DefR1 G' x d := by
  obtain ⟨cap, h1, h2, h3⟩ := h
  exact ⟨cap, h1, h2, fun i a b => ⟨(h3 i a b).1.mono m, (h3 i a b).2⟩⟩
theorem DefR.mono {G G' : Gh} (m : Mono G G') : ∀ {xs : List (FuncId × List SV)} {ds : List Deferred}, DefR G xs ds → DefR G' xs ds
  | [], [], _ => trivial
  | _ :: _, _ :: _, h => ⟨h.1.mono m, DefR.mono m h.2⟩
  | [], _ :: _, h => h.elim
  | _ :: _, [], h => h.elim
structure FrR (G : Gh) (T : List Nat) (fr : Fr) (a : Act) : Prop where
  env : EnvR G T fr.env a
  ds : DefR G fr.ds a.defers
theorem EnvR.later {G G' : Gh} {T T' : List Nat} (l : Later G T G' T') {env : Env} {a : Act} (h : EnvR G T env a) : EnvR G' T' env a := ⟨h.len, fun i x y => (h.at_ i x y).later l⟩
theorem FrR.later {G G' : Gh} {T T' : List Nat} (l : Later G T G' T') {fr : Fr} {a : Act} (h : FrR G T fr a) : FrR G' T' fr a := ⟨h.env.later l, h.ds.mono l.mono⟩

theorem EnvR.put {G : Gh} {T : List Nat} {env : Env} {a : Act} {x : SV} {v : Value} (h : EnvR G T env a) (hx : RS G T x v) (d : Nat) : EnvR G T (env.set d x) { a with tmps := a.tmps.setIfInBounds d v } := by
  refine ⟨by simp [h.len], fun i h1 h2 => ?_⟩
  simp only [List.length_set] at h1
  have h2' : i < a.tmps.size := by rw [← h.len]; exact h1
  by_cases e : d = i
  · subst e
    simp
    exact hx
  · simp only [List.getElem_set_ne e]
    rw [Array.getElem_setIfInBounds_ne (by simpa using h2') e]
    exact h.at_ i h1 h2'
theorem FrR.put {G : Gh} {T : List Nat} {fr : Fr} {a : Act} {x : SV} {v : Value} (h : FrR G T fr a) (hx : RS G T x v) (dst : Option Tmp) : FrR G T (fr.put dst x) (a.put dst v) := by
  cases dst with
  | none => exact h
  | some d => exact ⟨h.env.put hx d, h.ds⟩

section
variable {c : Ctx} {B : Bd} {w0 : World} {G : Gh} {S : St} {w : World}

theorem wanted_sound {T : List Nat} {ops : Array Oper} {env : Env} {a : Act} {o : Oper} {b : Bool} (he : EnvR G T env a) (h : wantedA ops env o = some b) : Region.wanted o (yielded ops a.tmps) = b := by
  unfold wantedA at h
  unfold Region.wanted
  cases hg : o.guard with
  | none => simp [hg] at h; simp [h]
  | some g =>
    obtain ⟨j, want⟩ := g
    simp only [hg] at h
    cases hd : (ops[j]?).bind (·.dst) with
    | none => simp [hd] at h
    | some d =>
      simp only [hd] at h
      have hy : yielded ops a.tmps j = match a.tmps[d]? with | some (.bool b) => some b | _ => none := by
        unfold yielded
        rw [hd]
        rfl
      simp only [hy]
      have hdl : d < env.length := by
        rcases Nat.lt_or_ge d env.length with hl | hl
        · exact hl
        · rw [List.getD, List.getElem?_eq_none hl] at h
          simp at h
      have hr := (he.at_ d hdl (he.len ▸ hdl)).1
      have hg2 : env.getD d (.undef, .no) = env[d] := by simp [List.getD, List.getElem?_eq_getElem hdl]
      rw [hg2] at h
      rw [Array.getElem?_eq_getElem (he.len ▸ hdl)]
      generalize env[d].1 = x at *
      generalize a.tmps[d]'(he.len ▸ hdl) = v at *
      cases hr with
      | bool q =>
        simp only [Option.some.injEq] at h
        rw [← h]
        cases q <;> cases want <;> rfl
      | tup cs vs hl hR =>
        cases cs with
        | nil => simp only [Option.some.injEq] at h; rw [← h]; rfl
        | cons => cases h
      | _ => cases h

/-- what an operation that hands back a value, or nothing, comes to -/
theorem upon_of_does {o : Oper} {a : Act} {x : SV} {S' : St} {next : Act → World → Prop} {Q : Exit → Act → World → Prop} (h : Does c B w0 G S w a.eval o x S')
    (hn : ∀ G' v w', Inv c B w0 G' S' w' → Grows G S.T G' S'.T → RS G' S'.T x v → next (a.put o.dst v) w') : o.wp c.P a w next Q := by
  obtain ⟨w', G', nx, v, h1, h2, h3, h4, h5⟩ := h
  unfold Oper.wp
  rw [h1]
  rcases h2 with rfl | ⟨rfl, rfl⟩
  · exact hn G' _ w' h3 h4 h5
  · exact hn G' _ w' h3 h4 h5

theorem call_run {e : Env0} {σ : Operand → Value} {o : Oper} {f : Operand} {args : Array Operand} {ts : Array TypeId} {k : FuncId} {va vb : Array Value} (hop : o.op = .call { callee := .value f, args, argTypes := ts })
    (hf : σ f = .func (.func k) va vb) : (execOp σ o).run e.c.P w = (callFunc k ((va ++ args.map σ) ++ vb)).run e.c.P w := by
  simp [execOp, hop, resolve, Deferred.ofValue, hf, invoke]

theorem rargs_of {ρ : Operand → SV} {σ : Operand → Value} {T : List Nat} {first cap : List AV} {va vb : Array Value} (hρ : ∀ x, RS G T (ρ x) (σ x)) {f : FuncId} (h : R G (.fn f first cap) (.func (.func f) va vb)) (args : Array Operand) :
    RArgs G T (first.map (·, .no) ++ args.toList.map ρ ++ cap.map (·, .no)) ((va ++ args.map σ) ++ vb) := by
  cases h with
  | fn _ _ _ _ _ ha hb hra hrb =>
    refine ⟨by simp [ha, hb], fun i h h' => ?_⟩
    simp only [List.length_append, List.length_map, Array.length_toList] at h
    by_cases c1 : i < first.length
    · rw [List.getElem_append_left (by simp; omega), List.getElem_append_left (by simp; omega), Array.getElem_append_left (by simp; omega), Array.getElem_append_left (by omega)]
      simp only [List.getElem_map]
      exact RS.no (hra i c1 (by omega))
    · by_cases c2 : i < first.length + args.size
      · rw [List.getElem_append_left (by simp; omega), List.getElem_append_right (by simp; omega), Array.getElem_append_left (by simp; omega), Array.getElem_append_right (by omega)]
        simp only [List.getElem_map, List.length_map, Array.getElem_map, ha]
        simpa using hρ _
      · rw [List.getElem_append_right (by simp; omega), Array.getElem_append_right (by simp; omega)]
        simp only [List.getElem_map, List.length_append, List.length_map, Array.length_toList, Array.size_append, Array.size_map, ha]
        exact RS.no (hrb _ (by omega) (by omega))

theorem wp_call {e : Env0} (he : e.c = c) (hcall : CallSound c e.call) {o : Oper} {a : Act} {ρ : Operand → SV} {f : Operand} {args : Array Operand} {ts : Array TypeId} {k : FuncId} {first cap : List AV} {out : COut} {S' : St}
    (inv : Inv c B w0 G S w) (hρ : ∀ x, RS G S.T (ρ x) (a.eval x)) (hop : o.op = .call { callee := .value f, args, argTypes := ts }) (hf : (ρ f).1 = .fn k first cap)
    (h : e.call k (first.map (·, .no) ++ args.toList.map ρ ++ cap.map (·, .no)) S = some (out, S')) {next : Act → World → Prop} {Q : Exit → Act → World → Prop}
    (hret : ∀ x, out = .ret x → ∀ G' v w', Inv c B w0 G' S' w' → Grows G S.T G' S'.T → RS G' S'.T x v → next (a.put o.dst v) w')
    (hpan : ∀ x, out = .panic x → ∀ G' w' v, Inv c B w0 G' S' w' → Grows G S.T G' S'.T → R G' x v → Q (.panic [{ v := v, recovered := false }]) a w') : o.wp c.P a w next Q := by
  subst he
  have hr := (hρ f).1
  rw [hf] at hr
  have hc := hcall k _ S out S' h
  have hr0 := hr
  generalize hv : a.eval f = v at hr hr0
  cases hr with
  | fn _ _ _ va vb ha hb hra hrb =>
    have hargs := rargs_of hρ hr0 args
    have run := call_run (e := e) (w := w) hop hv
    rcases hc B w0 G w _ inv hargs with ⟨henter, hcalls⟩ | ⟨v, w', hval, G', i', g', ho⟩
    case inr =>
      rw [hval] at run
      unfold Oper.wp
      rw [run]
      cases out with
      | ret x => exact hret x rfl G' _ w' i' g' ho
      | panic x => exact ho.elim
    rw [henter] at run
    unfold Oper.wp
    rw [run]
    refine hcalls.mono fun en w' ⟨G', i', g', ho⟩ => ?_
    cases out with
    | ret x =>
      cases en with
      | returned v => exact hret x rfl G' _ w' i' g' ho
      | panicked => exact ho.elim
      | outgrown => exact ho.elim
    | panic x =>
      cases en with
      | returned v => exact ho.elim
      | panicked ch =>
        obtain ⟨v, rfl, hv⟩ := ho
        exact hpan x rfl G' w' v i' g' hv
      | outgrown => exact ho.elim
end
end Go.Ab
end
section
namespace Go.Ab
open Go.RowKit
section
variable {c : Ctx} {B : Bd} {w0 : World} {G : Gh} {S : St} {w : World}

/-- an operation that acts -/
theorem act_sound {e : Env0} (he : e.c = c) (hcall : CallSound c e.call) {o : Oper} {a : Act} {ρ : Operand → SV} {r : ARes} (inv : Inv c B w0 G S w) (hρ : ∀ x, RS G S.T (ρ x) (a.eval x)) (h : e.act o.op ρ S = some r)
    {next : Act → World → Prop} {Q : Exit → Act → World → Prop}
    (hret : ∀ x S', r = .ok x S' → ∀ G' v w', Inv c B w0 G' S' w' → Grows G S.T G' S'.T → RS G' S'.T x v → next (a.put o.dst v) w')
    (hpan : ∀ x S', r = .panic x S' → ∀ G' w' v, Inv c B w0 G' S' w' → Grows G S.T G' S'.T → R G' x v → Q (.panic [{ v := v, recovered := false }]) a w') : o.wp c.P a w next Q := by
  have done : ∀ x S', r = .ok x S' → Does c B w0 G S w a.eval o x S' → o.wp c.P a w next Q := fun x S' hr hd => upon_of_does hd (hret x S' hr)
  cases hop : o.op <;> rw [hop] at h <;> first
    | (simp [Env0.act] at h; done)
    | skip
  · -- alloc
    cases r with
    | ok x S' => exact done x S' rfl (d_alloc he hop inv h)
    | panic x S' =>
      exfalso
      simp only [Env0.act] at h
      have h := (Option.ite_none_right_eq_some.1 h).2
      split at h
      · simp [Env0.newVar] at h
      · have := (Option.ite_none_right_eq_some.1 h).2
        cases this
  · -- box
    cases r with
    | ok x S' => exact done x S' rfl (d_box he hop inv hρ h)
    | panic x S' => simp [Env0.act, Env0.newVar] at h
  · -- store
    cases r with
    | ok x S' => exact done x S' rfl (d_store he hop inv hρ h)
    | panic x S' =>
      simp only [Env0.act] at h
      split at h <;> first | (cases h; done) | skip
      split at h <;> first | (cases h; done) | skip
      have := (Option.ite_none_right_eq_some.1 h).2
      cases this
  · -- convert
    cases r with
    | ok x S' => exact done x S' rfl (d_convert he hop inv hρ h)
    | panic x S' =>
      simp only [Env0.act] at h
      split at h <;> first | (cases h; done) | skip
      split at h <;> first | (cases h; done) | skip
      split at h <;> cases h
  · -- makeSlice
    cases r with
    | ok x S' => exact done x S' rfl (d_makeSlice he hop inv hρ h)
    | panic x S' =>
      simp only [Env0.act] at h
      split at h <;> first | (cases h; done) | skip
      have := (Option.ite_none_right_eq_some.1 h).2
      cases this
  · -- call
    rename_i cl
    obtain ⟨callee, args, ts⟩ := cl
    cases callee with
    | invoke => simp [Env0.act] at h
    | builtin b =>
      cases b <;> first
        | (simp [Env0.act] at h; done)
        | skip
      · cases r with
        | ok x S' => exact done x S' rfl (d_append he hop inv hρ h)
        | panic x S' =>
          exfalso
          simp only [Env0.act] at h
          split at h <;> first | (cases h; done) | skip
          unfold Env0.append at h
          split at h
          · split at h <;> first | (cases h; done) | skip
            have h := (Option.ite_none_right_eq_some.1 h).2
            obtain ⟨r, _, hb⟩ := Option.bind_eq_some_iff.1 h
            unfold bufOf at hb
            split at hb <;> cases hb
          · unfold Env0.appendL at h
            split at h <;> first | (cases h; done) | skip
            split at h <;> first | (cases h; done) | skip
            have h := (Option.ite_none_right_eq_some.1 h).2
            split at h
            · have h := (Option.ite_none_right_eq_some.1 h).2
              split at h <;> cases h
            · split at h <;> cases h
            · cases h
      · cases r with
        | ok x S' => exact done x S' rfl (d_sliceData he hop inv hρ h)
        | panic x S' =>
          exfalso
          simp only [Env0.act] at h
          split at h <;> first | (cases h; done) | skip
          split at h <;> first | (cases h; done) | skip
          have := (Option.ite_none_right_eq_some.1 h).2
          cases this
      · cases r with
        | ok x S' => exact done x S' rfl (d_unsafeString he hop inv hρ h)
        | panic x S' =>
          exfalso
          simp only [Env0.act] at h
          split at h <;> first | (cases h; done) | skip
          split at h <;> first | (cases h; done) | skip
          have := (Option.ite_none_right_eq_some.1 h).2
          cases this
    | value f =>
      simp only [Env0.act] at h
      split at h <;> first | (cases h; done) | skip
      rename_i k first cap hf
      split at h <;> first | (cases h; done) | skip
      · rename_i x S' hc
        cases h
        exact wp_call he hcall inv hρ hop hf hc (fun y hy => by cases hy; exact hret x S' rfl) (fun y hy => by cases hy)
      · rename_i x S' hc
        cases h
        exact wp_call he hcall inv hρ hop hf hc (fun y hy => by cases hy) (fun y hy => by cases hy; exact hpan x S' rfl)
  · -- panic
    rename_i y
    simp only [Env0.act] at h
    split at h <;> first | (cases h; done) | skip
    rename_i t v hy
    cases h
    have hr := (hρ y).1
    rw [hy] at hr
    unfold Oper.wp
    generalize hav : a.eval y = u at hr
    cases hr with
    | iface _ _ u hu =>
      have run : (execOp a.eval o).run c.P w = .halt (.panic (.iface t u)) w := by
        simp [execOp, hop, hav, Instr.panic]
      rw [run]
      exact hpan _ _ rfl G w _ inv (.refl _ _) (.iface _ _ _ hu)

/-- a step of a list of operations, as the model's wp has it -/
def OpWp (P : Program) (ops : Array Oper) (o : Oper) (a : Act) (w : World) (K : Act → World → Prop) (Q : Exit → Act → World → Prop) : Prop :=
  if Region.wanted o (yielded ops a.tmps) then o.wp P a w K Q ∨ (o.asks P a w ∧ LetsOut Q) else K (a.put o.dst undef) w

/-- the same, where nothing outgrows -/
def OpWp1 (P : Program) (ops : Array Oper) (o : Oper) (a : Act) (w : World) (K : Act → World → Prop) (Q : Exit → Act → World → Prop) : Prop :=
  if Region.wanted o (yielded ops a.tmps) then o.wp P a w K Q else K (a.put o.dst undef) w
theorem OpWp1.weak {P : Program} {ops : Array Oper} {o : Oper} {a : Act} {w : World} {K : Act → World → Prop} {Q : Exit → Act → World → Prop} (h : OpWp1 P ops o a w K Q) : OpWp P ops o a w K Q := by
  unfold OpWp1 at h
  unfold OpWp
  split
  · rename_i hw; simp only [hw, if_true] at h; exact .inl h
  · rename_i hw; simp only [hw] at h; exact h

theorem tup_undef {T : List Nat} : RS G T (.tup [], .no) undef := RS.no (.tup [] #[] rfl (fun i h => absurd h (by simp)))

theorem step_sound1 {e : Env0} (he : e.c = c) (hcall : CallSound c e.call) {ops : Array Oper} {o : Oper} {a : Act} {fr : Fr} {r : ORes} (inv : Inv c B w0 G S w) (hfr : FrR G S.T fr a) (h : e.step ops o fr S = some r)
    {next : Act → World → Prop} {Q : Exit → Act → World → Prop}
    (hret : ∀ fr' S', r = .ok fr' S' → ∀ G' a' w', Inv c B w0 G' S' w' → Grows G S.T G' S'.T → FrR G' S'.T fr' a' → next a' w')
    (hpan : ∀ x fr' S', r = .panic x fr' S' → ∀ G' w' v, Inv c B w0 G' S' w' → Grows G S.T G' S'.T → FrR G' S'.T fr' a → R G' x v → Q (.panic [{ v := v, recovered := false }]) a w') : OpWp1 c.P ops o a w next Q := by
  subst he
  unfold Env0.step at h
  unfold OpWp1
  split at h <;> first | (cases h; done) | skip
  · rename_i hw
    cases h
    rw [wanted_sound hfr.env hw]
    simp only [Bool.false_eq_true, if_false]
    exact hret _ _ rfl G _ w inv (.refl _ _) (hfr.put tup_undef o.dst)
  · rename_i hw
    rw [wanted_sound hfr.env hw]
    simp only [if_true]
    have hρ := fun x => eval_sound inv hfr.env x
    split at h
    · -- defer
      rename_i f args ts hop
      split at h <;> first | (cases h; done) | skip
      rename_i k first cap hf
      cases h
      have hr := (hρ f).1
      rw [hf] at hr
      have hr0 := hr
      generalize hv : a.eval f = v at hr hr0
      cases hr with
      | fn _ _ _ va vb ha hb hra hrb =>
        have hargs := rargs_of hρ hr0 args
        have run : (execOp a.eval o).run e.c.P w = .ok (.defer { target := .fn (.func k) vb, args := va ++ args.map a.eval }) w := by
          simp [execOp, hop, resolve, Deferred.ofValue, hv]
        unfold Oper.wp
        rw [run]
        refine hret _ _ rfl G _ w inv (.refl _ _) ?_
        have h1 : FrR G S.T { fr with ds := (k, (first ++ args.toList.map (fun x => (e.c.eval fr.env x).1) ++ cap).map fun v => ((v, Tag.no) : SV)) :: fr.ds } { a with defers := { target := .fn (.func k) vb, args := va ++ args.map a.eval } :: a.defers } := by
          refine ⟨⟨hfr.env.len, hfr.env.at_⟩, ⟨vb, rfl, ?_, fun i h1 h2 => ⟨?_, by simp only [List.getElem_map]⟩⟩, hfr.ds⟩
          · have := hargs.len; simpa using this
          · have h3 := (hargs.at_ i (by simpa using h1) h2).1
            have e1 : ((first.map ((·, Tag.no) : AV → SV) ++ args.toList.map (e.c.eval fr.env) ++ cap.map (·, Tag.no))[i]'(by simpa using h1)).1 = ((first ++ args.toList.map (fun x => (e.c.eval fr.env x).1) ++ cap)[i]'(by simpa using h1)) := by
              have e2 : (first.map ((·, Tag.no) : AV → SV) ++ args.toList.map (e.c.eval fr.env) ++ cap.map (·, Tag.no)).map (·.1) = first ++ args.toList.map (fun x => (e.c.eval fr.env x).1) ++ cap := by simp [Function.comp_def]
              simp only [← e2, List.getElem_map]
            rw [e1] at h3
            simp only [List.getElem_map]
            exact h3
        exact h1.put tup_undef o.dst
    · split at h
      · rename_i v hp
        cases h
        exact upon_of_does (pure_sound inv hρ hp) fun G' v w' i g hv => hret _ _ rfl G' _ w' i g ((hfr.later g.later).put hv o.dst)
      · split at h
        · rename_i v hp
          cases h
          exact upon_of_does ((read_sound inv hρ hp).does inv) fun G' v w' i g hv => hret _ _ rfl G' _ w' i g ((hfr.later g.later).put hv o.dst)
        · split at h <;> first | (cases h; done) | skip
          · rename_i v S' hact
            cases h
            exact act_sound rfl hcall inv hρ hact (fun x S'' hx G' v w' i g hv => by cases hx; exact hret _ _ rfl G' _ w' i g ((hfr.later g.later).put hv o.dst)) (fun x S'' hx => by cases hx)
          · rename_i v S' hact
            cases h
            exact act_sound rfl hcall inv hρ hact (fun x S'' hx => by cases hx) (fun x S'' hx G' w' v i g hv => by cases hx; exact hpan _ _ _ rfl G' w' v i g (hfr.later g.later) hv)

theorem step_sound {e : Env0} (he : e.c = c) (hcall : CallSound c e.call) {ops : Array Oper} {o : Oper} {a : Act} {fr : Fr} {r : ORes} (inv : Inv c B w0 G S w) (hfr : FrR G S.T fr a) (h : e.step ops o fr S = some r)
    {next : Act → World → Prop} {Q : Exit → Act → World → Prop}
    (hret : ∀ fr' S', r = .ok fr' S' → ∀ G' a' w', Inv c B w0 G' S' w' → Grows G S.T G' S'.T → FrR G' S'.T fr' a' → next a' w')
    (hpan : ∀ x fr' S', r = .panic x fr' S' → ∀ G' w' v, Inv c B w0 G' S' w' → Grows G S.T G' S'.T → FrR G' S'.T fr' a → R G' x v → Q (.panic [{ v := v, recovered := false }]) a w') : OpWp c.P ops o a w next Q :=
  (step_sound1 he hcall inv hfr h hret hpan).weak
end
end Go.Ab
end
section
/- CODE: regions in the text's order, loops, blocks. -/
namespace Go.Ab
open Go.RowKit

/-- an end of code stands for the machine's -/
def ExR (G : Gh) : Ex → Exit → Prop
  | .normal, .normal => True
  | .exit i, .exit j => i = j
  | .ret, .ret => True
  | .panic x, .panic ch => ∃ v, ch = [{ v := v, recovered := false }] ∧ R G x v
  | _, _ => False

section
variable {c : Ctx} {B : Bd} {w0 : World}

/-- what is asked behind code that came to this -/
def Post (c : Ctx) (B : Bd) (w0 : World) (G : Gh) (T : List Nat) (r : Ex × Fr × St) (Q : Exit → Act → World → Prop) : Prop :=
  ∀ G' ex a' w', ExR G' r.1 ex → Inv c B w0 G' r.2.2 w' → Grows G T G' r.2.2.T → FrR G' r.2.2.T r.2.1 a' → Q ex a' w'

theorem Post.trans {G G1 : Gh} {T T1 : List Nat} {r : Ex × Fr × St} {Q : Exit → Act → World → Prop} (g : Grows G T G1 T1) (h : Post c B w0 G T r Q) : Post c B w0 G1 T1 r Q :=
  fun G' ex a' w' h1 h2 h3 h4 => h G' ex a' w' h1 h2 (g.trans h3) h4

theorem ops_sound {e : Env0} (he : e.c = c) (hcall : CallSound c e.call) {ops : Array Oper} {Q : Exit → Act → World → Prop} : ∀ (rest : List Oper) (k : Nat), rest = ops.toList.drop k →
    ∀ (fr : Fr) (S : St) (r : ORes) (a : Act) (w : World) (G : Gh), e.ops ops rest fr S = some r → Inv c B w0 G S w → FrR G S.T fr a →
      (∀ fr' S', r = .ok fr' S' → ∀ G' a' w', Inv c B w0 G' S' w' → Grows G S.T G' S'.T → FrR G' S'.T fr' a' → Q .normal a' w') →
      (∀ x fr' S', r = .panic x fr' S' → ∀ G' a' w' v, Inv c B w0 G' S' w' → Grows G S.T G' S'.T → FrR G' S'.T fr' a' → R G' x v → Q (.panic [{ v := v, recovered := false }]) a' w') →
      wpOps c.P ops Q (List.range' k rest.length) a w := by
  intro rest
  induction rest with
  | nil =>
    intro k hk fr S r a w G h inv hfr hok hpan
    simp only [Env0.ops] at h
    cases h
    exact hok _ _ rfl G a w inv (.refl _ _) hfr
  | cons o rest ih =>
    intro k hk fr S r a w G h inv hfr hok hpan
    have hlt : k < ops.size := by
      rcases Nat.lt_or_ge k ops.size with hl | hl
      · exact hl
      · rw [List.drop_of_length_le (by simpa using hl)] at hk; cases hk
    have ho : ops[k]? = some o := by
      have h1 : ops.toList.drop k = ops.toList[k]'(by simpa using hlt) :: ops.toList.drop (k + 1) := List.drop_eq_getElem_cons _
      rw [h1] at hk
      cases hk
      simp [hlt]
    have hrest : rest = ops.toList.drop (k + 1) := by
      have h1 : ops.toList.drop k = ops.toList[k]'(by simpa using hlt) :: ops.toList.drop (k + 1) := List.drop_eq_getElem_cons _
      rw [h1] at hk
      cases hk
      rfl
    simp only [List.length_cons, List.range'_succ, wpOps, ho]
    simp only [Env0.ops] at h
    have key : ∀ r1, e.step ops o fr S = some r1 → OpWp c.P ops o a w (wpOps c.P ops Q (List.range' (k + 1) rest.length)) Q := by
      intro r1 hs
      rw [hs] at h
      refine step_sound he hcall inv hfr hs (fun fr' S' hr G' a' w' i g f => ?_) (fun x fr' S' hr G' w' v i g f hv => ?_)
      · subst hr
        exact ih (k + 1) hrest fr' S' r a' w' G' h i f (fun fr2 S2 hr2 G2 a2 w2 i2 g2 f2 => hok fr2 S2 hr2 G2 a2 w2 i2 (g.trans g2) f2)
          (fun x fr2 S2 hr2 G2 a2 w2 v i2 g2 f2 hv => hpan x fr2 S2 hr2 G2 a2 w2 v i2 (g.trans g2) f2 hv)
      · subst hr
        simp only at h
        cases h
        exact hpan x fr' S' rfl G' a w' v i g f hv
    cases hs : e.step ops o fr S with
    | none => rw [hs] at h; cases h
    | some r1 => exact key r1 hs

theorem region_sound {e : Env0} (he : e.c = c) (hcall : CallSound c e.call) {ops : Array Oper} {id : Nat} {fr : Fr} {S : St} {r : Ex × Fr × St} {a : Act} {w : World} {G : Gh} {Q : Exit → Act → World → Prop}
    (h : e.region ops false fr S = some r) (inv : Inv c B w0 G S w) (hfr : FrR G S.T fr a) (hq : Post c B w0 G S.T r Q) : (Code.region id ops false).wp c.P Q a w := by
  refine wp_region ?_
  simp only [Env0.region, Bool.false_eq_true, if_false] at h
  have hl : ops.toList.length = ops.size := by simp
  rw [List.range_eq_range', ← hl]
  cases ho : e.ops ops ops.toList fr S with
  | none => rw [ho] at h; cases h
  | some r1 =>
    rw [ho] at h
    refine ops_sound he hcall ops.toList 0 (by simp) fr S r1 a w G ho inv hfr (fun fr' S' hr G' a' w' i g f => ?_) (fun x fr' S' hr G' a' w' v i g f hv => ?_)
    · subst hr
      cases h
      exact hq G' .normal a' w' trivial i g f
    · subst hr
      cases h
      exact hq G' _ a' w' ⟨v, rfl, hv⟩ i g f
end
end Go.Ab
end
section
/- WHAT IS FORGOTTEN: blocks and tokens of a round, of a call. -/
namespace Go.Ab
open Go.RowKit

def Gh.cut (G : Gh) (n m : Nat) : Gh := { G with φ := G.φ.take n, own := G.own.take m }

theorem low_cells {n : Nat} {x : AV} (h : x.low n = true) : ∀ y ∈ x.cells, y.low n = true := by
  cases x with
  | agg cs => rw [AV.low, lows_iff] at h; exact h
  | _ => intro y hy; simp only [AV.cells, List.mem_singleton] at hy; subst hy; exact h
theorem R.cut {G : Gh} {n m : Nat} {x : AV} {v : Value} (h : R G x v) (hl : x.low n = true) : R (G.cut n m) x v := by
  have φc : ∀ b d : Nat, b < n → G.φ[b]? = some (some d) → (G.cut n m).φ[b]? = some (some d) := by
    intro b d hb h
    show (G.φ.take n)[b]? = _
    rw [List.getElem?_take, if_pos hb]; exact h
  induction h with
  | undef v => exact .undef v
  | int k n => exact .int k n
  | bool b => exact .bool b
  | str s => exact .str s
  | nilptr => exact .nilptr
  | ptr b o c h => exact .ptr b o c (φc b c (by simpa [AV.low] using hl) h)
  | iptr cs c o f h _ ih =>
    simp only [AV.low, lows_iff] at hl
    exact .iptr cs c o f h fun i hi => ih i hi (hl _ (List.getElem_mem hi))
  | nils b => exact .nils b
  | sl sz xs c o cap f hs hc h _ h1 ih =>
    simp only [AV.low, lows_iff] at hl
    refine .sl sz xs c o cap f hs hc h (fun i hi => ih i hi ?_) h1
    obtain ⟨x, hx, hy⟩ := List.mem_flatMap.1 (show (fl xs)[i] ∈ xs.flatMap AV.cells from List.getElem_mem hi)
    exact low_cells (hl x hx) _ hy
  | slr b o n c cap h hc => exact .slr b o n c cap (φc b c (by simpa [AV.low] using hl) h) hc
  | buf0 t => exact .buf0 t
  | buf t s c cap n hne hc h ht => exact .buf t s c cap n hne hc h ht
  | bptr0 t => exact .bptr0 t
  | bptr t s c n hne h ht => exact .bptr t s c n hne h ht
  | bself0 t b d h ht => exact .bself0 t b d (φc b d (by simpa [AV.low] using hl) h) ht
  | bself t b d h ht => exact .bself t b d (φc b d (by simpa [AV.low] using hl) h) ht
  | nilfn => exact .nilfn
  | fn f a b va vb ha hb _ _ iha ihb =>
    simp only [AV.low, Bool.and_eq_true, lows_iff] at hl
    exact .fn f a b va vb ha hb (fun i h h' => iha i h h' (hl.1 _ (List.getElem_mem h))) (fun i h h' => ihb i h h' (hl.2 _ (List.getElem_mem h)))
  | nili => exact .nili
  | iface t x v _ ih => exact .iface t x v (ih (by simpa [AV.low] using hl))
  | agg cs vs hl' _ ih =>
    simp only [AV.low, lows_iff] at hl
    exact .agg cs vs hl' fun i h h' => ih i h h' (hl _ (List.getElem_mem h))
  | tup cs vs hl' _ ih =>
    simp only [AV.low, lows_iff] at hl
    exact .tup cs vs hl' fun i h h' => ih i h h' (hl _ (List.getElem_mem h))

theorem RT1.cut {G : Gh} {T : List Nat} {n m : Nat} {x : AV} {tg : Tag} {v : Value} (h : RT1 G T x tg v) (hl : tg.low1 m = true) : RT1 (G.cut n m) (T.take m) x tg v := by
  cases tg with
  | tok id =>
    have hid : id < m := by simpa [Tag.low1] using hl
    obtain ⟨k, h1, h2, h3, h4⟩ := h
    refine ⟨k, by rw [List.getElem?_take, if_pos hid]; exact h1, h2, fun e b l cc hv => ?_, fun t y ys hy e => ?_⟩
    · obtain ⟨ow, ho, hr⟩ := h3 e b l cc hv
      refine ⟨ow, ?_, hr⟩
      show (G.own.take m)[id]? = _
      rw [List.getElem?_take, if_pos hid]; exact ho
    · obtain ⟨ow, ho, hr⟩ := h4 t y ys hy e
      refine ⟨ow, ?_, hr⟩
      show (G.own.take m)[id]? = _
      rw [List.getElem?_take, if_pos hid]; exact ho
  | _ => exact h
theorem Tag.low1_of {m : Nat} {tg : Tag} (h : tg.low m = true) : tg.low1 m = true := by
  cases tg <;> first | exact h | rfl
theorem RT.cut {G : Gh} {T : List Nat} {n m : Nat} {x : AV} {tg : Tag} {v : Value} (h : RT G T x tg v) (hl : tg.low m = true) : RT (G.cut n m) (T.take m) x tg v := by
  refine ⟨h.1.cut (Tag.low1_of hl), ?_⟩
  have h2 := h.2
  have elem : ∀ (ts : List Tag) (i : Nat), ts.all (Tag.low1 m) = true → (ts.getD i .no).low1 m = true := by
    intro ts i h
    rw [List.all_eq_true] at h
    rcases Nat.lt_or_ge i ts.length with hi | hi
    · have e : ts.getD i .no = ts[i] := by simp [List.getD, List.getElem?_eq_getElem hi]
      rw [e]; exact h _ (List.getElem_mem hi)
    · have e : ts.getD i .no = .no := by simp [List.getD, List.getElem?_eq_none hi]
      rw [e]; rfl
  split at h2
  · exact fun i a b => (h2 i a b).cut (elem _ i (by simpa [Tag.low] using hl))
  · exact fun i a b => (h2 i a b).cut (elem _ i (by simpa [Tag.low] using hl))
  · trivial
theorem RS.cut {G : Gh} {T : List Nat} {n m : Nat} {x : SV} {v : Value} (h : RS G T x v) (hl : x.1.low n = true) (ht : x.2.low m = true) : RS (G.cut n m) (T.take m) x v := ⟨h.1.cut hl, h.2.cut ht⟩

def TagsLow (n m : Nat) (S : St) : Prop := ∀ (b : Nat) (cells : Blk), b < n → S.H[b]? = some cells → ∀ x ∈ cells, x.2.low m = true

section
variable {c : Ctx} {B : Bd} {w0 : World} {G : Gh} {S : St} {w : World}

theorem take_some {α : Type} {l : List α} {n i : Nat} {x : α} (h : (l.take n)[i]? = some x) : i < n ∧ l[i]? = some x := by
  rw [List.getElem?_take] at h
  split at h
  · exact ⟨‹_›, h⟩
  · cases h

/-- what is known of this value stays known -/
def KeepsT (G : Gh) (T : List Nat) (n m : Nat) (x : SV) : Prop := ∀ v, RT G T x.1 x.2 v → RT (G.cut n m) (T.take m) x.1 x.2 v
theorem keeps_of_low {G : Gh} {T : List Nat} {n m : Nat} {x : SV} (h : x.2.low m = true) : KeepsT G T n m x := fun _ hv => hv.cut h
theorem RT1.same {G G' : Gh} {T : List Nat} {x : AV} {tg : Tag} {v : Value} (ho : G'.own = G.own) (h : RT1 G T x tg v) : RT1 G' T x tg v := by
  cases tg with
  | tok id =>
    obtain ⟨k, h1, h2, h3, h4⟩ := h
    exact ⟨k, h1, h2, (fun e b l cc hv => by obtain ⟨ow, ho', hr⟩ := h3 e b l cc hv; exact ⟨ow, by rw [ho]; exact ho', hr⟩), fun t y ys hy e => by obtain ⟨ow, ho', hr⟩ := h4 t y ys hy e; exact ⟨ow, by rw [ho]; exact ho', hr⟩⟩
  | _ => exact h
theorem RT.same {G G' : Gh} {T : List Nat} {x : AV} {tg : Tag} {v : Value} (ho : G'.own = G.own) (h : RT G T x tg v) : RT G' T x tg v := by
  refine ⟨h.1.same ho, ?_⟩
  have h2 := h.2
  split at h2
  · exact fun i a b => (h2 i a b).same ho
  · exact fun i a b => (h2 i a b).same ho
  · trivial
theorem keeps_all {G : Gh} {T : List Nat} {n : Nat} {x : SV} (hl : G.own.length = T.length) : KeepsT G T n T.length x := fun v hv => by
  rw [List.take_length]
  refine hv.same ?_
  show G.own.take T.length = G.own
  rw [← hl, List.take_length]
theorem Inv.cut (inv : Inv c B w0 G S w) {n m : Nat} (ht : TagsLow n m S) : Inv c B w0 (G.cut n m) ⟨S.H.take n, S.T.take m⟩ w where
  below := inv.below
  base := inv.base
  iD := inv.iD
  lenφ := by simp [Gh.cut, inv.lenφ]
  lenO := by simp [Gh.cut, inv.lenO]
  inj := fun i j d hi hj => inv.inj i j d (take_some hi).2 (take_some hj).2
  low := fun b cells h => inv.low b cells (take_some h).2
  tag := fun b cells h x hx => by
    have h1 := ht b cells (take_some h).1 (take_some h).2 x hx
    have h2 := inv.tag b cells (take_some h).2 x hx
    have : (S.T.take m).length = m ∨ (S.T.take m).length = S.T.length := by simp; omega
    rcases this with e | e <;> rw [e] <;> assumption
  blk := fun b d cells hb hφ => by
    obtain ⟨hbn, hb'⟩ := take_some hb
    obtain ⟨h1, us, u, fr, h2, h3, h4, h5⟩ := inv.blk b d cells hb' (take_some hφ).2
    exact ⟨h1, us, u, fr, h2, h3, h4, fun i hi hi' => ⟨(h5 i hi hi').1.cut (AV.low_mono (by omega) (inv.low b cells hb' _ (List.getElem_mem hi))), (h5 i hi hi').2.cut (ht b cells hbn hb' _ (List.getElem_mem hi))⟩⟩
  imm := fun d o v h => by
    obtain ⟨h1, h2⟩ := inv.imm d o v h
    exact ⟨h1, fun b hb => h2 b (take_some hb).2⟩
  own := fun id ow h => by
    obtain ⟨hid, h'⟩ := take_some h
    obtain ⟨h1, h2, h3⟩ := inv.own id ow h'
    refine ⟨by show (S.T.take m)[id]? = _; rw [List.getElem?_take, if_pos hid]; exact h1, h2, fun hlt => ?_⟩
    obtain ⟨d, o, k1, k2, k3, rest⟩ := h3 hlt
    exact ⟨d, o, k1, k2, fun b hb => k3 b (take_some hb).2, rest⟩
  dis := fun i j oi oj d o o' hne hi hj => inv.dis i j oi oj d o o' hne (take_some hi).2 (take_some hj).2
  ty := inv.ty
  glob := fun g cs h => ⟨(inv.glob g cs h).1.cut (AV.low_mono (Nat.zero_le _) (inv.glob g cs h).2), (inv.glob g cs h).2⟩
  know := inv.know

theorem Grows.cut {G0 : Gh} {T0 : List Nat} {T : List Nat} (g : Grows G0 T0 G T) {n m : Nat} (hn : G0.φ.length ≤ n) (hm : T0.length ≤ m) : Grows G0 T0 (G.cut n m) (T.take m) := by
  refine ⟨⟨fun b d h => ?_, g.mono.I, g.mono.ty⟩, fun b hb => ?_, fun id k hk => ?_⟩
  · show (G.φ.take n)[b]? = _
    rw [List.getElem?_take, if_pos (Nat.lt_of_lt_of_le (φ_some h) hn)]
    exact g.mono.φ b d h
  · show (G.φ.take n)[b]? = _
    rw [List.getElem?_take, if_pos (by omega)]
    exact g.φ b hb
  · have hid : id < T0.length := by
      rcases Nat.lt_or_ge id T0.length with hl | hl
      · exact hl
      · rw [List.getElem?_eq_none hl] at hk; cases hk
    obtain ⟨n', h1, h2, h3⟩ := g.T id k hk
    refine ⟨n', by rw [List.getElem?_take, if_pos (by omega)]; exact h1, h2, fun e => ?_⟩
    show (G.own.take m)[id]? = _
    rw [List.getElem?_take, if_pos (by omega)]
    exact h3 e
end
end Go.Ab
end
section
/- OLDER BLOCKS GET NO NEW TOKENS. -/
namespace Go.Ab

/-- a move of the state, seen from a frame whose own blocks begin at n0 -/
structure Steps1 (n0 : Nat) (S S' : St) : Prop where
  len : S.H.length ≤ S'.H.length
  tags : ∀ n m, n ≤ n0 → TagsLow n m S → TagsLow n m S'
theorem Steps1.refl (n0 : Nat) (S : St) : Steps1 n0 S S := ⟨Nat.le_refl _, fun _ _ _ h => h⟩
theorem Steps1.trans {n0 : Nat} {S S' S'' : St} (h : Steps1 n0 S S') (k : Steps1 n0 S' S'') : Steps1 n0 S S'' := ⟨Nat.le_trans h.len k.len, fun n m hn ht => k.tags n m hn (h.tags n m hn ht)⟩
theorem Steps1.mono {n0 n1 : Nat} {S S' : St} (h : Steps1 n0 S S') (hn : n1 ≤ n0) : Steps1 n1 S S' := ⟨h.len, fun n m hl ht => h.tags n m (Nat.le_trans hl hn) ht⟩

def CallTags (call : CallFn) : Prop := ∀ (f : FuncId) (args : List SV) (S : St) (out : COut) (S' : St), call f args S = some (out, S') → Steps1 S.H.length S S'

theorem steps_append {n0 : Nat} {S : St} (h : n0 ≤ S.H.length) (bs : List Blk) (T : List Nat) : Steps1 n0 S ⟨S.H ++ bs, T⟩ := by
  refine ⟨by simp, fun n m hn ht b cells hb hc => ?_⟩
  simp only at hc
  rw [List.getElem?_append_left (by omega)] at hc
  exact ht b cells hb hc
theorem steps_same {n0 : Nat} {S S' : St} (h : S'.H = S.H) : Steps1 n0 S S' := ⟨by rw [h]; exact Nat.le_refl _, fun n m hn ht b cells hb hc => ht b cells hb (by rw [← h]; exact hc)⟩

theorem keepIn_tag {b : Nat} {old new : SV} {m : Nat} (h : old.2.low m = true) : (Ab.keepIn true b old new).2.low m = true := by
  unfold Ab.keepIn
  split
  · simp only
    unfold keepTag
    split
    · simp only [if_true]
      split
      · rename_i j hj
        split
        · rename_i hij
          subst hij
          rw [hj] at h
          exact h
        · rfl
      · rfl
    · rfl
    · rfl
  · rfl

theorem steps_store {n0 : Nat} {S : St} {b o : Nat} {cells new : List SV} (hb : S.H[b]? = some cells) : Steps1 n0 S ⟨S.H.set b (Ab.storeCells n0 b o cells new), S.T⟩ := by
  refine ⟨by simp, fun n m hn ht b' cells' hb' hc => ?_⟩
  simp only at hc
  by_cases e : b' = b
  · subst e
    have hlt : b' < S.H.length := by
      rcases Nat.lt_or_ge b' S.H.length with hl | hl
      · exact hl
      · rw [List.getElem?_eq_none hl] at hb; cases hb
    simp [hlt] at hc
    subst hc
    intro x hx
    unfold Ab.storeCells at hx
    have hold := ht b' cells hb' hb
    rcases replaceAt_mem hx with h | h
    · exact hold x h
    · obtain ⟨q, hq, rfl⟩ := List.mem_map.1 h
      have : decide (b' < n0) = true := by simp; omega
      rw [this]
      refine keepIn_tag ?_
      rcases Nat.lt_or_ge (o + q.2) cells.length with hl | hl
      · have e2 : cells.getD (o + q.2) (.undef, .no) = cells[o + q.2] := by simp [List.getD, List.getElem?_eq_getElem hl]
        rw [e2]; exact hold _ (List.getElem_mem hl)
      · have e2 : cells.getD (o + q.2) (AV.undef, Tag.no) = (.undef, .no) := by simp [List.getD, List.getElem?_eq_none hl]
        rw [e2]; rfl
  · rw [List.getElem?_set_ne (fun h => e h.symm)] at hc
    exact ht b' cells' hb' hc

theorem appendL_H {e : Env0} {t t2 : TypeId} {a x : SV} {S : St} {r : ARes} (h : e.appendL t t2 a x S = some r) : ∃ v S', r = .ok v S' ∧ S'.H = S.H := by
  unfold Env0.appendL at h
  split at h <;> first | (cases h; done) | skip
  split at h <;> first | (cases h; done) | skip
  have h := (Option.ite_none_right_eq_some.1 h).2
  split at h
  · have h := (Option.ite_none_right_eq_some.1 h).2
    split at h <;> cases h <;> exact ⟨_, _, rfl, rfl⟩
  · split at h <;> cases h <;> exact ⟨_, _, rfl, rfl⟩
  · cases h

theorem act_steps {e : Env0} (hcall : CallTags e.call) {op : Op} {ρ : Operand → SV} {S : St} {r : ARes} (hn : e.n0 ≤ S.H.length) (h : e.act op ρ S = some r) :
    Steps1 e.n0 S (match r with | .ok _ S' => S' | .panic _ S' => S') := by
  cases op <;> first
    | (simp [Env0.act] at h; done)
    | skip
  · simp only [Env0.act] at h
    have h := (Option.ite_none_right_eq_some.1 h).2
    split at h
    · cases h
      exact steps_append hn _ _
    · have h := (Option.ite_none_right_eq_some.1 h).2
      cases h
      exact steps_append hn _ _
  · simp only [Env0.act] at h
    have h := (Option.ite_none_right_eq_some.1 h).2
    cases h
    exact steps_append hn _ _
  · simp only [Env0.act] at h
    split at h <;> first | (cases h; done) | skip
    split at h <;> first | (cases h; done) | skip
    rename_i hb
    have h := (Option.ite_none_right_eq_some.1 h).2
    cases h
    exact steps_store hb
  · simp only [Env0.act] at h
    split at h <;> first | (cases h; done) | skip
    split at h <;> first | (cases h; done) | skip
    split at h <;> first | (cases h; done) | skip
    cases h
    exact steps_append hn _ _
  · simp only [Env0.act] at h
    split at h <;> first | (cases h; done) | skip
    have h := (Option.ite_none_right_eq_some.1 h).2
    cases h
    exact steps_append hn _ _
  · rename_i cl
    obtain ⟨callee, args, ts⟩ := cl
    cases callee with
    | invoke => simp [Env0.act] at h
    | builtin b =>
      cases b <;> first
        | (simp [Env0.act] at h; done)
        | skip
      · simp only [Env0.act] at h
        split at h <;> first | (cases h; done) | skip
        unfold Env0.append at h
        split at h
        · split at h <;> first | (cases h; done) | skip
          have h := (Option.ite_none_right_eq_some.1 h).2
          obtain ⟨r', hr, hb⟩ := Option.bind_eq_some_iff.1 h
          obtain ⟨v, S', rfl, hS⟩ := appendL_H hr
          cases hb
          exact steps_same hS
        · obtain ⟨v, S', rfl, hS⟩ := appendL_H h
          exact steps_same hS
      all_goals
        simp only [Env0.act] at h
        split at h <;> first | (cases h; done) | skip
        split at h <;> first | (cases h; done) | skip
        have h := (Option.ite_none_right_eq_some.1 h).2
        cases h
        exact .refl _ _
    | value f =>
      simp only [Env0.act] at h
      split at h <;> first | (cases h; done) | skip
      split at h <;> first | (cases h; done) | skip
      · rename_i hc
        cases h
        exact (hcall _ _ _ _ _ hc).mono hn
      · rename_i hc
        cases h
        exact (hcall _ _ _ _ _ hc).mono hn
  · simp only [Env0.act] at h
    split at h <;> first | (cases h; done) | skip
    cases h
    exact .refl _ _

theorem step_steps {e : Env0} (hcall : CallTags e.call) {ops : Array Oper} {o : Oper} {fr : Fr} {S : St} {r : ORes} (hn : e.n0 ≤ S.H.length) (h : e.step ops o fr S = some r) :
    Steps1 e.n0 S (match r with | .ok _ S' => S' | .panic _ _ S' => S') := by
  unfold Env0.step at h
  split at h <;> first | (cases h; done) | skip
  · cases h; exact .refl _ _
  · split at h
    · split at h <;> first | (cases h; done) | skip
      cases h; exact .refl _ _
    · split at h
      · cases h; exact .refl _ _
      · split at h
        · cases h; exact .refl _ _
        · split at h <;> first | (cases h; done) | skip
          · rename_i ha
            cases h
            exact act_steps hcall hn ha
          · rename_i ha
            cases h
            exact act_steps hcall hn ha
theorem ops_steps {e : Env0} (hcall : CallTags e.call) {ops : Array Oper} : ∀ (rest : List Oper) (fr : Fr) (S : St) (r : ORes), e.n0 ≤ S.H.length → e.ops ops rest fr S = some r →
    Steps1 e.n0 S (match r with | .ok _ S' => S' | .panic _ _ S' => S') := by
  intro rest
  induction rest with
  | nil => intro fr S r hn h; simp only [Env0.ops] at h; cases h; exact .refl _ _
  | cons o rest ih =>
    intro fr S r hn h
    simp only [Env0.ops] at h
    split at h
    · rename_i fr' S' hs
      have h1 := step_steps hcall hn hs
      exact h1.trans (ih fr' S' r (Nat.le_trans hn h1.len) h)
    · have := step_steps hcall hn h
      cases r <;> exact this
end Go.Ab
end
