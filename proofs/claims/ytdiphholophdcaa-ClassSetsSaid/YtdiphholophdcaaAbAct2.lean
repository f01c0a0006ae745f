import Derived.Test.YtdiphholophdcaaAbAct
set_option linter.unusedVariables false
set_option linter.unusedSimpArgs false
namespace Go.Ab
open Go.RowKit
section
variable {c : Ctx} {B : Bd} {w0 : World} {G : Gh} {S : St} {w : World}

/-- a token's slice has grown: in new memory -/
theorem lt_T (inv : Inv c B w0 G S w) {id : Nat} {ow : Own} (h : G.own[id]? = some ow) : id < S.T.length ∧ id < G.own.length := by
  have : id < G.own.length := by
    rcases Nat.lt_or_ge id G.own.length with hl | hl
    · exact hl
    · rw [List.getElem?_eq_none hl] at h; cases h
  exact ⟨by rw [← inv.lenO]; exact this, this⟩

def Gh.setOwn (G : Gh) (id : Nat) (ow : Own) : Gh := { G with own := G.own.set id ow }

/-- what a token stands for is changed, its length grows -/
theorem grows_setOwn {T : List Nat} {id n m : Nat} {ow : Own} (hT : T[id]? = some n) (hlt : n < m) : Grows G T (G.setOwn id ow) (T.set id m) := by
  refine ⟨⟨fun _ _ h => h, fun _ _ _ h => h⟩, fun _ _ => rfl, fun j k hj => ?_⟩
  by_cases e : id = j
  · subst e
    rw [hT] at hj
    cases hj
    have hl : id < T.length := by
      rcases Nat.lt_or_ge id T.length with hl | hl
      · exact hl
      · rw [List.getElem?_eq_none hl] at hT; cases hT
    exact ⟨m, by simp [hl], by omega, fun h => by omega⟩
  · exact ⟨k, by rw [List.getElem?_set_ne e]; exact hj, Nat.le_refl k, fun _ => by simp [Gh.setOwn, List.getElem?_set_ne e]⟩

/-- THE TOKEN's SLICE NOW LIES IN A NEW ROW (a block that is new in w). -/
theorem Inv.setOwn (inv : Inv c B w0 G S w) {id : Nat} {old ow : Own} (hold : G.own[id]? = some old) (hlt : old.len < ow.len) (hcap : ow.len ≤ ow.cap)
    (hsp : ow.len < ow.cap → ∃ d o, ow.base = some ⟨d, o, none⟩ ∧ B.free d ∧ (∀ b : Nat, G.φ[b]? ≠ some (some d)) ∧
      ∃ vs t fr, w.heap[d]? = some (.cells vs t fr) ∧ o + ow.cap * ow.sz ≤ vs.size ∧ ∀ i, o + ow.len * ow.sz ≤ i → ¬ (fr.1 ≤ i ∧ i < fr.2) ∧ G.I d i = none)
    (hdis : ∀ (j : Nat) (oj : Own) (d o o' : Nat), j ≠ id → G.own[j]? = some oj → ow.len < ow.cap → oj.len < oj.cap → ow.base = some ⟨d, o, none⟩ → oj.base ≠ some ⟨d, o', none⟩) :
    Inv c B w0 (G.setOwn id ow) ⟨S.H, S.T.set id ow.len⟩ w ∧ Grows G S.T (G.setOwn id ow) (S.T.set id ow.len) := by
  have hid := lt_T inv hold
  have hT := (inv.own id old hold).1
  have gr : Grows G S.T (G.setOwn id ow) (S.T.set id ow.len) := grows_setOwn hT hlt
  have get : ∀ (j : Nat) (oj : Own), (G.own.set id ow)[j]? = some oj → (j = id ∧ oj = ow) ∨ (j ≠ id ∧ G.own[j]? = some oj) := by
    intro j oj h
    by_cases e : id = j
    · subst e; simp [hid.2] at h; exact .inl ⟨rfl, h.symm⟩
    · rw [List.getElem?_set_ne e] at h; exact .inr ⟨fun h => e h.symm, h⟩
  refine ⟨{
    below := inv.below
    base := inv.base
    iD := inv.iD
    lenφ := inv.lenφ
    lenO := by simp [Gh.setOwn, inv.lenO]
    inj := inv.inj
    low := inv.low
    tag := fun b cs hb x hx => Tag.low_mono (by simp) (inv.tag b cs hb x hx)
    blk := fun b d cells hb hφ => by
      obtain ⟨h1, us, u, fr, h2, h3, h4, h5⟩ := inv.blk b d cells hb hφ
      exact ⟨h1, us, u, fr, h2, h3, h4, fun i hi hi' => (h5 i hi hi').later gr.later⟩
    imm := inv.imm
    own := fun j oj h => by
      rcases get j oj h with ⟨rfl, rfl⟩ | ⟨hne, h'⟩
      · exact ⟨by simp [hid.1], ⟨hcap, fun h => by omega⟩, hsp⟩
      · obtain ⟨h1, h2, h3⟩ := inv.own j oj h'
        exact ⟨by show (S.T.set id ow.len)[j]? = _; rw [List.getElem?_set_ne (fun e => hne e.symm)]; exact h1, h2, h3⟩
    dis := fun i j oi oj d o o' hne hi hj li lj hb => by
      rcases get i oi hi with ⟨rfl, rfl⟩ | ⟨hni, hi'⟩
      · rcases get j oj hj with ⟨rfl, rfl⟩ | ⟨hnj, hj'⟩
        · exact absurd rfl hne
        · exact hdis j oj d o o' hnj hj' li lj hb
      · rcases get j oj hj with ⟨rfl, rfl⟩ | ⟨hnj, hj'⟩
        · intro hb'; exact hdis i oi d o' o hni hi' lj li hb' hb
        · exact inv.dis i j oi oj d o o' hne hi' hj' li lj hb
    glob := fun g cs h => ⟨(inv.glob g cs h).1.mono gr.mono, (inv.glob g cs h).2⟩ }, gr⟩

/-- CELLS BEHIND A TOKEN's SLICE ARE WRITTEN, AND STAY AS THEY ARE FROM NOW ON. -/
def Gh.span (G : Gh) (d o n : Nat) (f : Nat → Value) : Gh := { G with I := fun d' i => if d' = d ∧ o ≤ i ∧ i < o + n then some (f (i - o)) else G.I d' i }

theorem Inv.inPlace (inv : Inv c B w0 G S w) {id : Nat} {ow : Own} (hown : G.own[id]? = some ow) {d o : Nat} (hb : ow.base = some ⟨d, o, none⟩) {n : Nat} (hn : 1 ≤ n) (hcap : ow.len + n ≤ ow.cap) (hsz : 1 ≤ ow.sz)
    {w' : World} {us vs : Array Value} {t : TypeId} {fr : Nat × Nat} (hu : w.heap[d]? = some (.cells us t fr)) (hw : Writes w w' d (.cells vs t fr)) (hvs : vs.size = us.size) {f : Nat → Value}
    (hnew : ∀ i, i < n * ow.sz → vs[o + ow.len * ow.sz + i]? = some (f i)) (hkeep : ∀ i, i < o + ow.len * ow.sz ∨ o + (ow.len + n) * ow.sz ≤ i → vs[i]? = us[i]?) :
    Inv c B w0 ((G.span d (o + ow.len * ow.sz) (n * ow.sz) f).setOwn id { ow with len := ow.len + n }) ⟨S.H, S.T.set id (ow.len + n)⟩ w' ∧
    Grows G S.T ((G.span d (o + ow.len * ow.sz) (n * ow.sz) f).setOwn id { ow with len := ow.len + n }) (S.T.set id (ow.len + n)) := by
  obtain ⟨hT, hle, hspare⟩ := inv.own id ow hown
  obtain ⟨d', o', k1, k2, k3, us', t', fr', k4, k5, k6⟩ := hspare (by omega)
  rw [hb] at k1
  cases k1
  rw [hu] at k4
  cases k4
  have hmul : o + (ow.len + n) * ow.sz = o + ow.len * ow.sz + n * ow.sz := by rw [Nat.add_mul]; omega
  have mono : Mono G (G.span d (o + ow.len * ow.sz) (n * ow.sz) f) := by
    refine ⟨fun _ _ h => h, fun d1 i v h => ?_⟩
    simp only [Gh.span]
    split
    · rename_i hc
      obtain ⟨rfl, hc1, hc2⟩ := hc
      rw [(k6 i hc1).2] at h
      cases h
    · exact h
  have inv1 : Inv c B w0 (G.span d (o + ow.len * ow.sz) (n * ow.sz) f) S w' → False ∨ True := fun _ => .inr trivial
  have hid := lt_T inv hown
  have gr0 : Grows G S.T (G.span d (o + ow.len * ow.sz) (n * ow.sz) f) S.T := ⟨mono, fun _ _ => rfl, fun _ k h => ⟨k, h, Nat.le_refl k, fun _ => rfl⟩⟩
  have gr1 : Grows (G.span d (o + ow.len * ow.sz) (n * ow.sz) f) S.T ((G.span d (o + ow.len * ow.sz) (n * ow.sz) f).setOwn id { ow with len := ow.len + n }) (S.T.set id (ow.len + n)) :=
    grows_setOwn hT (by omega)
  have gr := gr0.trans gr1
  have get : ∀ (j : Nat) (oj : Own), (G.own.set id { ow with len := ow.len + n })[j]? = some oj → (j = id ∧ oj = { ow with len := ow.len + n }) ∨ (j ≠ id ∧ G.own[j]? = some oj) := by
    intro j oj h
    by_cases e : id = j
    · subst e; simp [hid.2] at h; exact .inl ⟨rfl, h.symm⟩
    · rw [List.getElem?_set_ne e] at h; exact .inr ⟨fun h => e h.symm, h⟩
  refine ⟨{
    below := hw.below inv.below k2
    base := fun d hd => inv.base d (by rw [hw.size] at hd; exact hd)
    iD := fun d1 i hd1 => by
      have : d1 ≠ d := fun e => k2 (e ▸ hd1)
      show (if d1 = d ∧ o + ow.len * ow.sz ≤ i ∧ i < o + ow.len * ow.sz + n * ow.sz then some (f (i - (o + ow.len * ow.sz))) else G.I d1 i) = _
      rw [if_neg (fun h => this h.1)]
      exact inv.iD d1 i hd1
    lenφ := inv.lenφ
    lenO := by simp [Gh.setOwn, Gh.span, inv.lenO]
    inj := inv.inj
    low := inv.low
    tag := fun b cs hb x hx => Tag.low_mono (by simp) (inv.tag b cs hb x hx)
    blk := fun b d1 cells hb1 hφ => by
      obtain ⟨h1, us1, u, fr1, h2, h3, h4, h5⟩ := inv.blk b d1 cells hb1 hφ
      have hne : d1 ≠ d := fun e => k3 b (e ▸ hφ)
      exact ⟨h1, us1, u, fr1, by rw [hw.other d1 hne]; exact h2, h3, h4, fun i hi hi' => (h5 i hi hi').later gr.later⟩
    imm := fun d1 i v h => by
      have h' : (if d1 = d ∧ o + ow.len * ow.sz ≤ i ∧ i < o + ow.len * ow.sz + n * ow.sz then some (f (i - (o + ow.len * ow.sz))) else G.I d1 i) = some v := h
      split at h'
      · rename_i hc
        obtain ⟨rfl, hc1, hc2⟩ := hc
        cases h'
        refine ⟨?_, k3⟩
        rw [cell_of_heap hw.at_]
        have := hnew (i - (o + ow.len * ow.sz)) (by omega)
        rw [show o + ow.len * ow.sz + (i - (o + ow.len * ow.sz)) = i by omega] at this
        exact this
      · rename_i hc
        obtain ⟨h1, h2⟩ := inv.imm d1 i v h'
        refine ⟨?_, h2⟩
        by_cases e : d1 = d
        · subst e
          rw [cell_of_heap hu] at h1
          rw [cell_of_heap hw.at_, hkeep i]
          · exact h1
          · rw [hmul]; omega
        · rw [hw.cell e]; exact h1
    own := fun j oj h => by
      rcases get j oj h with ⟨rfl, rfl⟩ | ⟨hne, h'⟩
      · refine ⟨by simp [hid.1], ⟨hcap, fun h => by simp only at h; omega⟩, fun hlt => ⟨d, o, hb, k2, k3, vs, t, fr, hw.at_, by rw [hvs]; exact k5, fun i hi => ?_⟩⟩
        simp only at hi
        rw [hmul] at hi
        refine ⟨(k6 i (by omega)).1, ?_⟩
        show (if d = d ∧ o + ow.len * ow.sz ≤ i ∧ i < o + ow.len * ow.sz + n * ow.sz then some (f (i - (o + ow.len * ow.sz))) else G.I d i) = none
        rw [if_neg (by omega)]
        exact (k6 i (by omega)).2
      · obtain ⟨h1, h2, h3⟩ := inv.own j oj h'
        refine ⟨by show (S.T.set id (ow.len + n))[j]? = _; rw [List.getElem?_set_ne (fun e => hne e.symm)]; exact h1, h2, fun hlt => ?_⟩
        obtain ⟨d2, o2, q1, q2, q3, us2, u2, fr2, q4, q5, q6⟩ := h3 hlt
        have hd2 : d2 ≠ d := fun e => inv.dis j id oj ow d2 o2 o hne h' hown hlt (by omega) q1 (by rw [e]; exact hb)
        refine ⟨d2, o2, q1, q2, q3, us2, u2, fr2, by rw [hw.other d2 hd2]; exact q4, q5, fun i hi => ⟨(q6 i hi).1, ?_⟩⟩
        show (if d2 = d ∧ o + ow.len * ow.sz ≤ i ∧ i < o + ow.len * ow.sz + n * ow.sz then some (f (i - (o + ow.len * ow.sz))) else G.I d2 i) = none
        rw [if_neg (fun e => hd2 e.1)]
        exact (q6 i hi).2
    dis := fun i j oi oj d1 o1 o1' hne hi hj li lj hb1 => by
      rcases get i oi hi with ⟨rfl, rfl⟩ | ⟨hni, hi'⟩
      · rcases get j oj hj with ⟨rfl, rfl⟩ | ⟨hnj, hj'⟩
        · exact absurd rfl hne
        · exact inv.dis i j ow oj d1 o1 o1' hne hown hj' (by simp only at li; omega) lj hb1
      · rcases get j oj hj with ⟨rfl, rfl⟩ | ⟨hnj, hj'⟩
        · exact inv.dis i j oi ow d1 o1 o1' hne hi' hown li (by simp only at lj; omega) hb1
        · exact inv.dis i j oi oj d1 o1 o1' hne hi' hj' li lj hb1
    glob := fun g cs h => ⟨(inv.glob g cs h).1.mono gr.mono, (inv.glob g cs h).2⟩ }, gr⟩

/-- A NEW TOKEN, for a slice in a new row. -/
theorem Inv.pushOwn (inv : Inv c B w0 G S w) (ow : Own) (hcap : ow.ok)
    (hsp : ow.len < ow.cap → ∃ d o, ow.base = some ⟨d, o, none⟩ ∧ B.free d ∧ (∀ b : Nat, G.φ[b]? ≠ some (some d)) ∧
      ∃ vs t fr, w.heap[d]? = some (.cells vs t fr) ∧ o + ow.cap * ow.sz ≤ vs.size ∧ ∀ i, o + ow.len * ow.sz ≤ i → ¬ (fr.1 ≤ i ∧ i < fr.2) ∧ G.I d i = none)
    (hdis : ∀ (j : Nat) (oj : Own) (d o o' : Nat), G.own[j]? = some oj → ow.len < ow.cap → oj.len < oj.cap → ow.base = some ⟨d, o, none⟩ → oj.base ≠ some ⟨d, o', none⟩) :
    Inv c B w0 { G with own := G.own ++ [ow] } ⟨S.H, S.T ++ [ow.len]⟩ w ∧ Grows G S.T { G with own := G.own ++ [ow] } (S.T ++ [ow.len]) := by
  have ltT : ∀ (id n : Nat), S.T[id]? = some n → id < S.T.length := by
    intro id n h
    rcases Nat.lt_or_ge id S.T.length with hl | hl
    · exact hl
    · rw [List.getElem?_eq_none hl] at h; cases h
  have gr : Grows G S.T { G with own := G.own ++ [ow] } (S.T ++ [ow.len]) := by
    refine ⟨⟨fun _ _ h => h, fun _ _ _ h => h⟩, fun _ _ => rfl, fun id n hn => ⟨n, ?_, Nat.le_refl n, fun _ => ?_⟩⟩
    · rw [List.getElem?_append_left (ltT id n hn)]; exact hn
    · show (G.own ++ _)[id]? = _
      rw [List.getElem?_append_left (by rw [inv.lenO]; exact ltT id n hn)]
  have get : ∀ (i : Nat) (oi : Own), (G.own ++ [ow])[i]? = some oi → G.own[i]? = some oi ∨ (i = G.own.length ∧ oi = ow) := by
    intro i oi h
    rcases Nat.lt_trichotomy i G.own.length with hl | hl | hl
    · rw [List.getElem?_append_left hl] at h; exact .inl h
    · subst hl; simp at h; exact .inr ⟨rfl, h.symm⟩
    · rw [List.getElem?_append_right (by omega), List.getElem?_eq_none (by simp; omega)] at h; cases h
  have ltO : ∀ (i : Nat) (oi : Own), G.own[i]? = some oi → i < G.own.length := by
    intro i oi h
    rcases Nat.lt_or_ge i G.own.length with hl | hl
    · exact hl
    · rw [List.getElem?_eq_none hl] at h; cases h
  refine ⟨{
    below := inv.below
    base := inv.base
    iD := inv.iD
    lenφ := inv.lenφ
    lenO := by simp [inv.lenO]
    inj := inv.inj
    low := inv.low
    tag := fun b cs hb x hx => Tag.low_mono (by simp) (inv.tag b cs hb x hx)
    blk := fun b d cells hb hφ => by
      obtain ⟨h1, us, u, fr, h2, h3, h4, h5⟩ := inv.blk b d cells hb hφ
      exact ⟨h1, us, u, fr, h2, h3, h4, fun i hi hi' => (h5 i hi hi').later gr.later⟩
    imm := inv.imm
    own := fun j oj h => by
      rcases get j oj h with h' | ⟨rfl, rfl⟩
      · obtain ⟨h1, h2, h3⟩ := inv.own j oj h'
        exact ⟨by show (S.T ++ _)[j]? = _; rw [List.getElem?_append_left (ltT j _ h1)]; exact h1, h2, h3⟩
      · exact ⟨by show (S.T ++ _)[G.own.length]? = _; rw [inv.lenO]; simp, hcap, hsp⟩
    dis := fun i j oi oj d o o' hne hi hj li lj hb => by
      rcases get i oi hi with hi' | ⟨rfl, rfl⟩
      · rcases get j oj hj with hj' | ⟨rfl, rfl⟩
        · exact inv.dis i j oi oj d o o' hne hi' hj' li lj hb
        · intro hb'; exact hdis i oi d o' o hi' lj li hb' hb
      · rcases get j oj hj with hj' | ⟨rfl, rfl⟩
        · exact hdis j oj d o o' hj' li lj hb
        · exact absurd rfl hne
    glob := fun g cs h => ⟨(inv.glob g cs h).1.mono gr.mono, (inv.glob g cs h).2⟩ }, gr⟩
end
end Go.Ab
