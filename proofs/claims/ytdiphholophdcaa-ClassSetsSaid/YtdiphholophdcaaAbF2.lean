import Derived.Test.YtdiphholophdcaaAbF
set_option linter.unusedVariables false
set_option linter.unusedSimpArgs false
/- THE STATE THAT A CALL IS HANDED, AND THE CALLER'S BEHIND IT. -/
namespace Go.Ab
open Go.RowKit

theorem low1_ren {P : Nat → Prop} {r : Nat → Nat} {n n' : Nat} (hr : ∀ b, P b → b < n → r b < n') {x : AV} (hx : x.ok1 P) (hl : x.low n = true) : (x.ren1 r).low n' = true := by
  cases x <;> first
    | (have h0 : AV.low 0 _ = true := hx
       rw [AV.ren1_low0 h0]
       exact AV.low_mono (Nat.zero_le _) h0)
    | skip
  · simp only [AV.low, decide_eq_true_eq, AV.ren1] at hl ⊢; exact hr _ hx hl
  · simp only [AV.low, decide_eq_true_eq, AV.ren1] at hl ⊢; exact hr _ hx hl
theorem scalar_cases (x : AV) : (∃ f a b, x = .fn f a b) ∨ (∃ cs, x = .agg cs) ∨ (∃ cs, x = .tup cs) ∨ ((∀ P, x.ok P = x.ok1 P) ∧ ∀ r, x.ren r = x.ren1 r) := by
  cases x with
  | fn f a b => exact .inl ⟨f, a, b, rfl⟩
  | agg cs => exact .inr (.inl ⟨cs, rfl⟩)
  | tup cs => exact .inr (.inr (.inl ⟨cs, rfl⟩))
  | _ => exact .inr (.inr (.inr ⟨fun _ => rfl, fun _ => rfl⟩))
theorem low_ren {P : Nat → Prop} {r : Nat → Nat} {n n' : Nat} (hr : ∀ b, P b → b < n → r b < n') {x : AV} (hx : x.ok P) (hl : x.low n = true) : (x.ren r).low n' = true := by
  rcases scalar_cases x with ⟨f, a, b, rfl⟩ | ⟨cs, rfl⟩ | ⟨cs, rfl⟩ | ⟨h1, h2⟩
  · simp only [AV.low, AV.ren, Bool.and_eq_true, lows_iff] at hl ⊢
    refine ⟨fun y hy => ?_, fun y hy => ?_⟩
    · obtain ⟨z, hz, rfl⟩ := List.mem_map.1 hy; exact low1_ren hr (hx.1 z hz) (hl.1 z hz)
    · obtain ⟨z, hz, rfl⟩ := List.mem_map.1 hy; exact low1_ren hr (hx.2 z hz) (hl.2 z hz)
  · simp only [AV.low, AV.ren, lows_iff] at hl ⊢
    intro y hy
    obtain ⟨z, hz, rfl⟩ := List.mem_map.1 hy; exact low1_ren hr (hx z hz) (hl z hz)
  · simp only [AV.low, AV.ren, lows_iff] at hl ⊢
    intro y hy
    obtain ⟨z, hz, rfl⟩ := List.mem_map.1 hy; exact low1_ren hr (hx z hz) (hl z hz)
  · rw [h2]
    rw [h1] at hx
    exact low1_ren hr hx hl
theorem tagLow1_ren {P : Nat → Prop} {t : Nat → Nat} {m m' : Nat} (ht : ∀ i, P i → i < m → t i < m') {tg : Tag} (hx : tg.ok1 P) (hl : tg.low1 m = true) : (tg.ren1 t).low1 m' = true := by
  cases tg with
  | tok i => simp only [Tag.low1, decide_eq_true_eq, Tag.ren1] at hl ⊢; exact ht i hx hl
  | _ => rfl
theorem tagLow_ren {P : Nat → Prop} {t : Nat → Nat} {m m' : Nat} (ht : ∀ i, P i → i < m → t i < m') {tg : Tag} (hx : tg.ok P) (hl : tg.low m = true) : (tg.ren t).low m' = true := by
  cases tg with
  | tok i => exact tagLow1_ren (tg := .tok i) ht hx hl
  | agg ts =>
    simp only [Tag.low, Tag.ren, List.all_eq_true] at hl ⊢
    intro y hy
    obtain ⟨z, hz, rfl⟩ := List.mem_map.1 hy
    exact tagLow1_ren ht (hx z hz) (hl z hz)
  | _ => rfl

def noOwn : Own := ⟨none, 0, 0, 0⟩
section
variable {c : Ctx} {B : Bd} {w0 : World} {G : Gh} {S : St} {w : World}

def Gh.pick (G : Gh) (ps ts : List Nat) : Gh := ⟨ps.map (fun p => G.φ.getD p none), G.I, ts.map (fun t => G.own.getD t noOwn)⟩
/-- what a call that is handed these may not touch -/
def bdOf (G : Gh) (w : World) (ps ts : List Nat) : Bd :=
  ⟨fun d => d < w.heap.size ∧ (∀ p ∈ ps, G.φ[p]? ≠ some (some d)) ∧ (∀ t ∈ ts, ∀ ow o, G.own[t]? = some ow → ow.len < ow.cap → ow.base ≠ some ⟨d, o, none⟩), G.I⟩
def downBlk (ps ts : List Nat) (cells : Blk) : Blk := cells.map (SV.ren (ps.idxOf ·) (ts.idxOf ·))
def St.pick (S : St) (ps ts : List Nat) : St := ⟨ps.map (fun p => downBlk ps ts (S.H.getD p [])), ts.map (fun t => S.T.getD t 0)⟩

theorem getD_some {α : Type} {l : List α} {i : Nat} {d x : α} (h : l[i]? = some x) : l.getD i d = x := by simp [List.getD, h]
theorem pick_φ {ps ts : List Nat} {n : Nat} (hP : Picks ps n) (hn : n = G.φ.length) {i d : Nat} : (G.pick ps ts).φ[i]? = some (some d) ↔ ∃ hi : i < ps.length, G.φ[ps[i]]? = some (some d) := by
  simp only [Gh.pick, List.getElem?_map]
  constructor
  · intro h
    obtain ⟨p, hp, he⟩ := Option.map_eq_some_iff.1 h
    obtain ⟨hi, rfl⟩ := List.getElem?_eq_some_iff.1 hp
    refine ⟨hi, ?_⟩
    have hlt : ps[i] < G.φ.length := by rw [← hn]; exact hP.lt _ (List.getElem_mem hi)
    rw [List.getElem?_eq_getElem hlt]
    simp only [List.getD, List.getElem?_eq_getElem hlt, Option.getD_some] at he
    rw [he]
  · rintro ⟨hi, h⟩
    rw [List.getElem?_eq_getElem hi, Option.map_some, getD_some h]
theorem pick_own {ps ts : List Nat} {n : Nat} (hT : Picks ts n) (hn : n = G.own.length) {i : Nat} {ow : Own} : (G.pick ps ts).own[i]? = some ow ↔ ∃ hi : i < ts.length, G.own[ts[i]]? = some ow := by
  simp only [Gh.pick, List.getElem?_map]
  constructor
  · intro h
    obtain ⟨p, hp, he⟩ := Option.map_eq_some_iff.1 h
    obtain ⟨hi, rfl⟩ := List.getElem?_eq_some_iff.1 hp
    refine ⟨hi, ?_⟩
    have hlt : ts[i] < G.own.length := by rw [← hn]; exact hT.lt _ (List.getElem_mem hi)
    rw [List.getElem?_eq_getElem hlt]
    simp only [List.getD, List.getElem?_eq_getElem hlt, Option.getD_some] at he
    rw [he]
  · rintro ⟨hi, h⟩
    rw [List.getElem?_eq_getElem hi, Option.map_some, getD_some h]
theorem pick_H {ps ts : List Nat} (hP : Picks ps S.H.length) {i : Nat} {cells : Blk} (h : (S.pick ps ts).H[i]? = some cells) : ∃ hi : i < ps.length, ∃ cs, S.H[ps[i]]? = some cs ∧ cells = downBlk ps ts cs := by
  simp only [St.pick, List.getElem?_map] at h
  obtain ⟨p, hp, he⟩ := Option.map_eq_some_iff.1 h
  obtain ⟨hi, rfl⟩ := List.getElem?_eq_some_iff.1 hp
  have hlt := hP.lt _ (List.getElem_mem hi)
  refine ⟨hi, S.H[ps[i]], List.getElem?_eq_getElem hlt, ?_⟩
  rw [← he, getD_some (List.getElem?_eq_getElem hlt)]
theorem mem_idx {ps : List Nat} {b : Nat} (h : b ∈ ps) : ∃ hi : ps.idxOf b < ps.length, ps[ps.idxOf b] = b := ⟨List.idxOf_lt_length_of_mem h, List.getElem_idxOf _⟩

/-- what holds of a value holds of it in the call's state -/
theorem RS.down (inv : Inv c B w0 G S w) {ps ts : List Nat} (hP : Picks ps S.H.length) (hT : Picks ts S.T.length) {x : SV} {v : Value} (h : RS G S.T x v) (hx : x.1.ok (· ∈ ps)) (ht : x.2.ok (· ∈ ts)) :
    RS (G.pick ps ts) (S.pick ps ts).T (x.ren (ps.idxOf ·) (ts.idxOf ·)) v := by
  refine RS.ren (G := G) (T := S.T) (G' := G.pick ps ts) (T' := (S.pick ps ts).T) (P := (· ∈ ps)) (Pt := (· ∈ ts)) (r := (ps.idxOf ·)) (t := (ts.idxOf ·)) (fun b d hb hd => ?_) (fun _ _ _ hv => hv) (fun i hi => ?_) h hx ht
  · obtain ⟨hlt, he⟩ := mem_idx hb
    exact (pick_φ hP inv.lenφ.symm).2 ⟨hlt, by rw [he]; exact hd⟩
  · obtain ⟨hlt, he⟩ := mem_idx hi
    have hlt2 := hT.lt _ hi
    refine ⟨?_, ?_⟩
    · simp only [St.pick, List.getElem?_map]
      rw [List.getElem?_eq_getElem hlt, Option.map_some, he, List.getElem?_eq_getElem hlt2, getD_some (List.getElem?_eq_getElem hlt2)]
    · have hlt3 : i < G.own.length := by rw [inv.lenO]; exact hlt2
      rw [List.getElem?_eq_getElem hlt3]
      exact (pick_own hT inv.lenO.symm).2 ⟨hlt, by rw [he]; exact List.getElem?_eq_getElem hlt3⟩

/-- THE STATE THAT A CALL IS HANDED -/
theorem Inv.down (inv : Inv c B w0 G S w) {ps ts : List Nat} (hP : Picks ps S.H.length) (hT : Picks ts S.T.length)
    (hcells : ∀ p ∈ ps, ∀ cells, S.H[p]? = some cells → ∀ x ∈ cells, x.1.ok (· ∈ ps) ∧ x.2.ok (· ∈ ts)) : Inv c (bdOf G w ps ts) w (G.pick ps ts) (S.pick ps ts) w where
  below := .refl _ _
  base := fun d hd h => Nat.lt_irrefl d (Nat.lt_of_lt_of_le h.1 hd)
  iD := fun _ _ _ => rfl
  lenφ := by simp [Gh.pick, St.pick]
  lenO := by simp [Gh.pick, St.pick]
  inj := fun i j d hi hj => by
    obtain ⟨h1, h2⟩ := (pick_φ hP inv.lenφ.symm).1 hi
    obtain ⟨h3, h4⟩ := (pick_φ hP inv.lenφ.symm).1 hj
    have := inv.inj _ _ d h2 h4
    rw [← hP.idx h1, ← hP.idx h3, this]
  low := fun b cells h x hx => by
    obtain ⟨hb, cs, hcs, rfl⟩ := pick_H hP h
    obtain ⟨y, hy, rfl⟩ := List.mem_map.1 hx
    refine low_ren (fun b' hb' hlt => ?_) (hcells _ (List.getElem_mem hb) cs hcs y hy).1 (inv.low _ _ hcs y hy)
    obtain ⟨h1, h2⟩ := mem_idx hb'
    rcases Nat.lt_or_ge b (ps.idxOf b') with hl | hl
    · have := hP.inc _ _ hb h1 hl; omega
    · omega
  tag := fun b cells h x hx => by
    obtain ⟨hb, cs, hcs, rfl⟩ := pick_H hP h
    obtain ⟨y, hy, rfl⟩ := List.mem_map.1 hx
    refine tagLow_ren (fun i hi _ => ?_) (hcells _ (List.getElem_mem hb) cs hcs y hy).2 (inv.tag _ _ hcs y hy)
    obtain ⟨h1, _⟩ := mem_idx hi
    simpa [St.pick] using h1
  blk := fun b d cells h hφ => by
    obtain ⟨hb, cs, hcs, rfl⟩ := pick_H hP h
    obtain ⟨_, h2⟩ := (pick_φ hP inv.lenφ.symm).1 hφ
    obtain ⟨h3, vs, t, fr, h4, h5, h6, h7⟩ := inv.blk _ d cs hcs h2
    refine ⟨fun hD => hD.2.1 _ (List.getElem_mem hb) h2, vs, t, fr, h4, by simpa [downBlk] using h5, by simpa [downBlk] using h6, fun i hi hi' => ?_⟩
    simp only [downBlk, List.length_map] at hi
    simp only [downBlk, List.getElem_map]
    have hok := hcells _ (List.getElem_mem hb) cs hcs _ (List.getElem_mem hi)
    exact RS.down inv hP hT (h7 i hi hi') hok.1 hok.2
  imm := fun d o v h => by
    obtain ⟨h1, h2⟩ := inv.imm d o v h
    exact ⟨h1, fun b hb => by obtain ⟨_, h3⟩ := (pick_φ hP inv.lenφ.symm).1 hb; exact h2 _ h3⟩
  own := fun id ow h => by
    obtain ⟨hid, h1⟩ := (pick_own hT inv.lenO.symm).1 h
    obtain ⟨h2, h3, h4⟩ := inv.own _ ow h1
    refine ⟨?_, h3, fun hlt => ?_⟩
    · simp only [St.pick, List.getElem?_map]
      rw [List.getElem?_eq_getElem hid, Option.map_some, getD_some h2]
    · obtain ⟨d, o, k1, k2, k3, vs, t, fr, k4, k5, k6⟩ := h4 hlt
      exact ⟨d, o, k1, fun hD => hD.2.2 _ (List.getElem_mem hid) ow o h1 hlt k1, fun b hb => by obtain ⟨_, h3⟩ := (pick_φ hP inv.lenφ.symm).1 hb; exact k3 _ h3, vs, t, fr, k4, k5, k6⟩
  dis := fun i j oi oj d o o' hne hi hj li lj hb => by
    obtain ⟨h1, h2⟩ := (pick_own hT inv.lenO.symm).1 hi
    obtain ⟨h3, h4⟩ := (pick_own hT inv.lenO.symm).1 hj
    refine inv.dis _ _ oi oj d o o' (fun e => hne ?_) h2 h4 li lj hb
    rw [← hT.idx h1, ← hT.idx h3, e]
  glob := fun g cs h => ⟨(inv.glob g cs h).1.low0 (inv.glob g cs h).2 (fun _ _ _ hv => hv), (inv.glob g cs h).2⟩

/-! ### behind the call -/
variable {ps ts : List Nat} {G0' : Gh} {S0' : St} {w' : World}
def Gh.merge (G : Gh) (ps ts : List Nat) (G0' : Gh) : Gh := ⟨G.φ ++ G0'.φ.drop ps.length, G0'.I, mergeAll ts G0'.own G.own⟩
def upBlk (ps ts : List Nat) (n m : Nat) (cells : Blk) : Blk := cells.map (SV.ren (upN ps n) (upN ts m))
def St.merge (S : St) (ps ts : List Nat) (S0' : St) : St := ⟨mergeAll ps (S0'.H.map (upBlk ps ts S.H.length S.T.length)) S.H, mergeAll ts S0'.T S.T⟩

theorem merge_φ_up (inv : Inv c B w0 G S w) (hP : Picks ps S.H.length) (g : Grows (G.pick ps ts) (S.pick ps ts).T G0' S0'.T) {b d : Nat} (h : G0'.φ[b]? = some (some d)) : (G.merge ps ts G0').φ[upN ps S.H.length b]? = some (some d) := by
  simp only [Gh.merge]
  rcases Nat.lt_or_ge b ps.length with hb | hb
  · rw [g.φ b (by simpa [Gh.pick] using hb)] at h
    obtain ⟨hb', h2⟩ := (pick_φ hP inv.lenφ.symm).1 h
    rw [upN_lt hb, List.getElem?_append_left (by rw [inv.lenφ]; exact hP.lt _ (List.getElem_mem hb))]
    exact h2
  · rw [upN_ge hb, List.getElem?_append_right (by rw [inv.lenφ]; omega), inv.lenφ, List.getElem?_drop, show ps.length + (S.H.length + (b - ps.length) - S.H.length) = b by omega]
    exact h
theorem merge_φ (inv : Inv c B w0 G S w) (hP : Picks ps S.H.length) (g : Grows (G.pick ps ts) (S.pick ps ts).T G0' S0'.T) (hl : ps.length ≤ G0'.φ.length) {b d : Nat} (h : (G.merge ps ts G0').φ[b]? = some (some d)) :
    (∃ i, b = upN ps S.H.length i ∧ G0'.φ[i]? = some (some d)) ∨ (b ∉ ps ∧ b < S.H.length ∧ G.φ[b]? = some (some d)) := by
  simp only [Gh.merge] at h
  rcases Nat.lt_or_ge b S.H.length with hb | hb
  · rw [List.getElem?_append_left (by rw [inv.lenφ]; exact hb)] at h
    by_cases hm : b ∈ ps
    · obtain ⟨h1, h2⟩ := mem_idx hm
      refine .inl ⟨ps.idxOf b, by rw [upN_lt h1]; exact h2.symm, ?_⟩
      rw [g.φ _ (by simpa [Gh.pick] using h1)]
      exact (pick_φ hP inv.lenφ.symm).2 ⟨h1, by rw [h2]; exact h⟩
    · exact .inr ⟨hm, hb, h⟩
  · rw [List.getElem?_append_right (by rw [inv.lenφ]; exact hb), inv.lenφ, List.getElem?_drop] at h
    exact .inl ⟨_, by rw [upN_ge (by omega)]; omega, h⟩

theorem RS.up (inv : Inv c B w0 G S w) (hP : Picks ps S.H.length) (hT : Picks ts S.T.length) (i0 : Inv c (bdOf G w ps ts) w G0' S0' w') (g : Grows (G.pick ps ts) (S.pick ps ts).T G0' S0'.T) {x : SV} {v : Value} (h : RS G0' S0'.T x v) (hx : x.1.ok fun _ => True)
    (ht : x.2.ok (· < S0'.T.length)) : RS (G.merge ps ts G0') (S.merge ps ts S0').T (x.ren (upN ps S.H.length) (upN ts S.T.length)) v := by
  have hlT : ts.length ≤ S0'.T.length := by have := g.len_T; simpa [St.pick] using this
  refine RS.ren (G := G0') (T := S0'.T) (G' := G.merge ps ts G0') (T' := (S.merge ps ts S0').T) (P := fun _ => True) (Pt := (· < S0'.T.length)) (r := upN ps S.H.length) (t := upN ts S.T.length) (fun b d _ hd => merge_φ_up inv hP g hd) (fun _ _ _ hv => hv) (fun i hi => ⟨?_, ?_⟩) h hx ht
  · rw [List.getElem?_eq_getElem hi]
    exact mergeAll_up hT hi hlT
  · have hi' : i < G0'.own.length := by rw [i0.lenO]; exact hi
    rw [List.getElem?_eq_getElem hi']
    have := mergeAll_up (old := G.own) (new := G0'.own) (by rw [inv.lenO]; exact hT) hi' (by rw [i0.lenO]; exact hlT)
    rw [inv.lenO] at this
    exact this
theorem ok_of_low {x : Tag} {m : Nat} (h : x.low m = true) : x.ok (· < m) := by
  cases x with
  | tok i => simpa [Tag.low, Tag.low1, Tag.ok, Tag.ok1] using h
  | agg ts =>
    simp only [Tag.low, List.all_eq_true] at h
    intro y hy
    have := h y hy
    cases y with
    | tok i => simpa [Tag.low1, Tag.ok1] using this
    | _ => trivial
  | _ => trivial

/-- THE CALLER's STATE BEHIND THE CALL -/
theorem Inv.up (inv : Inv c B w0 G S w) (hP : Picks ps S.H.length) (hT : Picks ts S.T.length) (i0 : Inv c (bdOf G w ps ts) w G0' S0' w') (g : Grows (G.pick ps ts) (S.pick ps ts).T G0' S0'.T)
    (hcells : ∀ cells ∈ S0'.H, ∀ x ∈ cells, x.1.ok fun _ => True) : Inv c B w0 (G.merge ps ts G0') (S.merge ps ts S0') w' ∧ Grows G S.T (G.merge ps ts G0') (S.merge ps ts S0').T := by
  have hlφ : ps.length ≤ G0'.φ.length := by have := len_le_of g.φ; simpa [Gh.pick] using this
  have hlH : ps.length ≤ S0'.H.length := by rw [← i0.lenφ]; exact hlφ
  have hlT : ts.length ≤ S0'.T.length := by have := g.len_T; simpa [St.pick] using this
  have hlO : ts.length ≤ G0'.own.length := by rw [i0.lenO]; exact hlT
  have hPo : Picks ts G.own.length := by rw [inv.lenO]; exact hT
  -- what the caller has beside is not touched
  have prot : ∀ b d, b ∉ ps → G.φ[b]? = some (some d) → d < w.heap.size → (bdOf G w ps ts).D d ∨ ∃ t ∈ ts, ∃ ow o, G.own[t]? = some ow ∧ ow.len < ow.cap ∧ ow.base = some ⟨d, o, none⟩ := by
    intro b d hb hd hlt
    by_cases hc : ∃ t ∈ ts, ∃ ow o, G.own[t]? = some ow ∧ ow.len < ow.cap ∧ ow.base = some ⟨d, o, none⟩
    · exact .inr hc
    · exact .inl ⟨hlt, fun p hp h => hb (inv.inj b p d hd h ▸ hp), fun t ht ow o h1 h2 h3 => hc ⟨t, ht, ow, o, h1, h2, h3⟩⟩
  have protB : ∀ b d cells, b ∉ ps → S.H[b]? = some cells → G.φ[b]? = some (some d) → (bdOf G w ps ts).D d := by
    intro b d cells hb hc hd
    obtain ⟨_, vs, t, fr, h4, _⟩ := inv.blk b d cells hc hd
    rcases prot b d hb hd (lt_of_heap h4) with h | ⟨t, ht, ow, o, h1, h2, h3⟩
    · exact h
    · obtain ⟨_, _, h5⟩ := inv.own t ow h1
      obtain ⟨d', o', k1, _, k3, _⟩ := h5 h2
      rw [h3] at k1
      cases k1
      exact absurd hd (k3 b)
  have bD : ∀ d, B.D d → (bdOf G w ps ts).D d := by
    intro d hd
    refine ⟨?_, fun p hp h => ?_, fun t ht ow o h1 h2 h3 => ?_⟩
    · rcases Nat.lt_or_ge d w.heap.size with hl | hl
      · exact hl
      · exact absurd hd (inv.base d hl)
    · have hlt := hP.lt p hp
      exact (inv.blk p d _ (List.getElem?_eq_getElem hlt) h).1 hd
    · obtain ⟨_, _, h5⟩ := inv.own t ow h1
      obtain ⟨d', o', k1, k2, _⟩ := h5 h2
      rw [h3] at k1
      cases k1
      exact k2 hd
  have hown : ∀ id ow, (G.merge ps ts G0').own[id]? = some ow → (∃ i, id = upN ts S.T.length i ∧ G0'.own[i]? = some ow) ∨ (id ∉ ts ∧ id < G.own.length ∧ G.own[id]? = some ow) := by
    intro id ow h
    rcases mergeAll_at hPo hlO id with ⟨i, hi, h1, h2⟩ | ⟨h1, h2, h3⟩ | h1
    · refine .inl ⟨i, by rw [h1, inv.lenO], ?_⟩
      rw [List.getElem?_eq_getElem hi, ← h2]; exact h
    · exact .inr ⟨h1, h2, by rw [← h3]; exact h⟩
    · rw [show (G.merge ps ts G0').own = mergeAll ts G0'.own G.own from rfl, h1] at h; cases h
  have gr : Grows G S.T (G.merge ps ts G0') (S.merge ps ts S0').T := by
    refine ⟨⟨fun b d h => ?_, fun d o v h => g.mono.I d o v h⟩, fun b hb => ?_, fun id n hn => ?_⟩
    · have hlt : b < G.φ.length := by
        rcases Nat.lt_or_ge b G.φ.length with hl | hl
        · exact hl
        · rw [List.getElem?_eq_none hl] at h; cases h
      show (G.φ ++ _)[b]? = _
      rw [List.getElem?_append_left hlt]; exact h
    · show (G.φ ++ _)[b]? = _
      rw [List.getElem?_append_left hb]
    · have hlt : id < S.T.length := by
        rcases Nat.lt_or_ge id S.T.length with hl | hl
        · exact hl
        · rw [List.getElem?_eq_none hl] at hn; cases hn
      by_cases hm : id ∈ ts
      · obtain ⟨h1, h2⟩ := mem_idx hm
        obtain ⟨n', k1, k2, k3⟩ := g.T (ts.idxOf id) n (by
          simp only [St.pick, List.getElem?_map]
          rw [List.getElem?_eq_getElem h1, Option.map_some, h2, getD_some hn])
        have e1 : upN ts S.T.length (ts.idxOf id) = id := by rw [upN_lt h1]; exact h2
        refine ⟨n', ?_, k2, fun e => ?_⟩
        · obtain ⟨hi, he⟩ := List.getElem?_eq_some_iff.1 k1
          have := mergeAll_up hT hi hlT
          rw [e1] at this
          show (mergeAll ts S0'.T S.T)[id]? = _
          rw [this, he]
        · have := k3 e
          have hi : ts.idxOf id < G0'.own.length := by omega
          have h3 := mergeAll_up hPo hi hlO
          rw [inv.lenO, e1] at h3
          show (mergeAll ts G0'.own G.own)[id]? = _
          rw [h3, ← List.getElem?_eq_getElem hi, this]
          have hlt3 : id < G.own.length := by rw [inv.lenO]; exact hlt
          rw [List.getElem?_eq_getElem hlt3]
          exact (pick_own hT inv.lenO.symm).2 ⟨h1, by rw [h2]; exact List.getElem?_eq_getElem hlt3⟩
      · refine ⟨n, ?_, Nat.le_refl n, fun _ => ?_⟩
        · rcases mergeAll_at (new := S0'.T) hT hlT id with ⟨i, hi, h1, h2⟩ | ⟨h1, h2, h3⟩ | h1
          · exfalso
            rcases Nat.lt_or_ge i ts.length with hl | hl
            · rw [upN_lt hl] at h1; exact hm (h1 ▸ List.getElem_mem hl)
            · rw [upN_ge hl] at h1; omega
          · show (mergeAll ts S0'.T S.T)[id]? = _
            rw [h3]; exact hn
          · exfalso
            have := List.getElem?_eq_none_iff.1 h1
            rw [mergeAll_len hlT] at this; omega
        · have hlt3 : id < G.own.length := by rw [inv.lenO]; exact hlt
          rcases mergeAll_at (new := G0'.own) hPo hlO id with ⟨i, hi, h1, h2⟩ | ⟨h1, h2, h3⟩ | h1
          · exfalso
            rcases Nat.lt_or_ge i ts.length with hl | hl
            · rw [upN_lt hl] at h1; exact hm (h1 ▸ List.getElem_mem hl)
            · rw [upN_ge hl] at h1; omega
          · exact h3
          · exfalso
            have := List.getElem?_eq_none_iff.1 h1
            rw [mergeAll_len hlO] at this; omega
  have hPH := hP
  have blkAt : ∀ b cells, (S.merge ps ts S0').H[b]? = some cells → (∃ i cs, b = upN ps S.H.length i ∧ S0'.H[i]? = some cs ∧ cells = upBlk ps ts S.H.length S.T.length cs) ∨ (b ∉ ps ∧ b < S.H.length ∧ S.H[b]? = some cells) := by
    intro b cells h
    rcases mergeAll_at (new := S0'.H.map (upBlk ps ts S.H.length S.T.length)) hP (by simpa using hlH) b with ⟨i, hi, h1, h2⟩ | ⟨h1, h2, h3⟩ | h1
    · rw [show (S.merge ps ts S0').H = mergeAll ps (S0'.H.map (upBlk ps ts S.H.length S.T.length)) S.H from rfl, h2] at h
      have hi' : i < S0'.H.length := by simpa using hi
      refine .inl ⟨i, S0'.H[i], h1, List.getElem?_eq_getElem hi', ?_⟩
      cases h
      simp
    · exact .inr ⟨h1, h2, by rw [← h3]; exact h⟩
    · rw [show (S.merge ps ts S0').H = mergeAll ps (S0'.H.map (upBlk ps ts S.H.length S.T.length)) S.H from rfl, h1] at h; cases h
  have notUp : ∀ {b i}, b ∉ ps → b < S.H.length → b ≠ upN ps S.H.length i := by
    intro b i h1 h2 e
    rcases Nat.lt_or_ge i ps.length with hl | hl
    · rw [upN_lt hl] at e; exact h1 (e ▸ List.getElem_mem hl)
    · rw [upN_ge hl] at e; omega
  have hTlen : (S.merge ps ts S0').T.length = S.T.length + (S0'.T.length - ts.length) := mergeAll_len hlT
  have upLt : ∀ i, i < S0'.T.length → upN ts S.T.length i < (S.merge ps ts S0').T.length := by
    intro i hi
    rw [hTlen]
    rcases Nat.lt_or_ge i ts.length with hl | hl
    · rw [upN_lt hl]; have := hT.lt _ (List.getElem_mem hl); omega
    · rw [upN_ge hl]; omega
  refine ⟨{
    below := inv.below.trans ⟨i0.below.os, i0.below.tape, i0.below.output, i0.below.size, fun k hk => i0.below.block k (bD k hk)⟩
    base := fun d hd => inv.base d (Nat.le_trans i0.below.size hd)
    iD := fun d o hd => (i0.iD d o (bD d hd)).trans (inv.iD d o hd)
    lenφ := by
      show (G.φ ++ G0'.φ.drop ps.length).length = (mergeAll ps (S0'.H.map (upBlk ps ts S.H.length S.T.length)) S.H).length
      rw [mergeAll_len (by simpa using hlH)]
      simp [inv.lenφ, i0.lenφ]
    lenO := by
      show (mergeAll ts G0'.own G.own).length = (mergeAll ts S0'.T S.T).length
      rw [mergeAll_len hlO, mergeAll_len hlT, inv.lenO, i0.lenO]
    inj := fun i j d hi hj => by
      rcases merge_φ inv hP g hlφ hi with ⟨i', rfl, h1⟩ | ⟨h1, h2, h3⟩
      · rcases merge_φ inv hP g hlφ hj with ⟨j', rfl, k1⟩ | ⟨k1, k2, k3⟩
        · rw [i0.inj i' j' d h1 k1]
        · have hi' : i' < S0'.H.length := by
            rw [← i0.lenφ]
            rcases Nat.lt_or_ge i' G0'.φ.length with hl | hl
            · exact hl
            · rw [List.getElem?_eq_none hl] at h1; cases h1
          exact absurd (protB j d _ k1 (List.getElem?_eq_getElem k2) k3) (i0.blk i' d _ (List.getElem?_eq_getElem hi') h1).1
      · rcases merge_φ inv hP g hlφ hj with ⟨j', rfl, k1⟩ | ⟨k1, k2, k3⟩
        · have hj' : j' < S0'.H.length := by
            rw [← i0.lenφ]
            rcases Nat.lt_or_ge j' G0'.φ.length with hl | hl
            · exact hl
            · rw [List.getElem?_eq_none hl] at k1; cases k1
          exact absurd (protB i d _ h1 (List.getElem?_eq_getElem h2) h3) (i0.blk j' d _ (List.getElem?_eq_getElem hj') k1).1
        · exact inv.inj i j d h3 k3
    low := fun b cells h x hx => by
      rcases blkAt b cells h with ⟨i, cs, rfl, h1, rfl⟩ | ⟨h1, h2, h3⟩
      · obtain ⟨y, hy, rfl⟩ := List.mem_map.1 hx
        exact low_ren (P := fun _ => True) (fun b' _ hlt => by
          rcases Nat.lt_or_ge b' i with hl | hl
          · have := upN_mono hP hl; omega
          · have : b' = i := by omega
            rw [this]; omega) (hcells cs (List.mem_of_getElem? h1) y hy) (i0.low i cs h1 y hy)
      · exact inv.low b cells h3 x hx
    tag := fun b cells h x hx => by
      rcases blkAt b cells h with ⟨i, cs, rfl, h1, rfl⟩ | ⟨h1, h2, h3⟩
      · obtain ⟨y, hy, rfl⟩ := List.mem_map.1 hx
        have := i0.tag i cs h1 y hy
        exact tagLow_ren (P := (· < S0'.T.length)) (fun i hi _ => upLt i hi) (ok_of_low this) this
      · exact Tag.low_mono (by rw [hTlen]; omega) (inv.tag b cells h3 x hx)
    blk := fun b d cells h hφ => by
      rcases blkAt b cells h with ⟨i, cs, rfl, h1, rfl⟩ | ⟨h1, h2, h3⟩
      · have hφ' : G0'.φ[i]? = some (some d) := by
          rcases merge_φ inv hP g hlφ hφ with ⟨i', e, k1⟩ | ⟨k1, k2, _⟩
          · rw [upN_inj hP e]; exact k1
          · exact absurd rfl (notUp k1 k2)
        obtain ⟨k1, vs, t, fr, k2, k3, k4, k5⟩ := i0.blk i d cs h1 hφ'
        refine ⟨fun hd => k1 (bD d hd), vs, t, fr, k2, by simpa [upBlk] using k3, by simpa [upBlk] using k4, fun j hj hj' => ?_⟩
        simp only [upBlk, List.length_map] at hj
        simp only [upBlk, List.getElem_map]
        exact RS.up inv hP hT i0 g (k5 j hj hj') (hcells cs (List.mem_of_getElem? h1) _ (List.getElem_mem hj)) (ok_of_low (i0.tag i cs h1 _ (List.getElem_mem hj)))
      · have hφ' : G.φ[b]? = some (some d) := by
          rcases merge_φ inv hP g hlφ hφ with ⟨i', e, _⟩ | ⟨_, _, k3⟩
          · exact absurd e (notUp h1 h2)
          · exact k3
        obtain ⟨k1, vs, t, fr, k2, k3, k4, k5⟩ := inv.blk b d cells h3 hφ'
        exact ⟨k1, vs, t, fr, by rw [i0.below.block d (protB b d cells h1 h3 hφ')]; exact k2, k3, k4, fun j hj hj' => (k5 j hj hj').later gr.later⟩
    imm := fun d o v h => by
      obtain ⟨h1, h2⟩ := i0.imm d o v h
      refine ⟨h1, fun b hb => ?_⟩
      rcases merge_φ inv hP g hlφ hb with ⟨i, _, k1⟩ | ⟨k1, k2, k3⟩
      · exact h2 i k1
      · have hD := protB b d _ k1 (List.getElem?_eq_getElem k2) k3
        have h3 := i0.iD d o hD
        rw [show G0'.I d o = some v from h] at h3
        exact (inv.imm d o v h3.symm).2 b k3
    own := fun id ow h => by
      rcases hown id ow h with ⟨i, rfl, h1⟩ | ⟨h1, h2, h3⟩
      · obtain ⟨k1, k2, k3⟩ := i0.own i ow h1
        refine ⟨?_, k2, fun hlt => ?_⟩
        · obtain ⟨hi, he⟩ := List.getElem?_eq_some_iff.1 k1
          have := mergeAll_up hT hi hlT
          show (mergeAll ts S0'.T S.T)[upN ts S.T.length i]? = _
          rw [this, he]
        · obtain ⟨d, o, q1, q2, q3, vs, t, fr, q4, q5, q6⟩ := k3 hlt
          refine ⟨d, o, q1, fun hd => q2 (bD d hd), fun b hb => ?_, vs, t, fr, q4, q5, q6⟩
          rcases merge_φ inv hP g hlφ hb with ⟨i', _, m1⟩ | ⟨m1, m2, m3⟩
          · exact q3 i' m1
          · exact q2 (protB b d _ m1 (List.getElem?_eq_getElem m2) m3)
      · obtain ⟨k1, k2, k3⟩ := inv.own id ow h3
        refine ⟨?_, k2, fun hlt => ?_⟩
        · rcases mergeAll_at (new := S0'.T) hT hlT id with ⟨i, hi, m1, m2⟩ | ⟨m1, m2, m3⟩ | m1
          · exfalso
            rcases Nat.lt_or_ge i ts.length with hl | hl
            · rw [upN_lt hl] at m1; exact h1 (m1 ▸ List.getElem_mem hl)
            · rw [upN_ge hl] at m1; rw [inv.lenO] at h2; omega
          · show (mergeAll ts S0'.T S.T)[id]? = _
            rw [m3]; exact k1
          · exfalso
            have := List.getElem?_eq_none_iff.1 m1
            rw [mergeAll_len hlT] at this; rw [inv.lenO] at h2; omega
        · obtain ⟨d, o, q1, q2, q3, vs, t, fr, q4, q5, q6⟩ := k3 hlt
          have hD : (bdOf G w ps ts).D d := by
            refine ⟨lt_of_heap q4, fun p _ hp => q3 p hp, fun t' ht' ow' o' m1 m2 m3 => ?_⟩
            exact inv.dis id t' ow ow' d o o' (fun e => h1 (e ▸ ht')) h3 m1 hlt m2 q1 m3
          refine ⟨d, o, q1, q2, fun b hb => ?_, vs, t, fr, by rw [i0.below.block d hD]; exact q4, q5, fun i hi => ⟨(q6 i hi).1, ?_⟩⟩
          · rcases merge_φ inv hP g hlφ hb with ⟨i', _, m1⟩ | ⟨m1, m2, m3⟩
            · have hi' : i' < S0'.H.length := by
                rw [← i0.lenφ]
                rcases Nat.lt_or_ge i' G0'.φ.length with hl | hl
                · exact hl
                · rw [List.getElem?_eq_none hl] at m1; cases m1
              exact (i0.blk i' d _ (List.getElem?_eq_getElem hi') m1).1 hD
            · exact q3 b m3
          · exact (i0.iD d i hD).trans (q6 i hi).2
    dis := fun i j oi oj d o o' hne hi hj li lj hb => by
      rcases hown i oi hi with ⟨i', rfl, h1⟩ | ⟨h1, h2, h3⟩
      · rcases hown j oj hj with ⟨j', rfl, k1⟩ | ⟨k1, k2, k3⟩
        · exact i0.dis i' j' oi oj d o o' (fun e => hne (by rw [e])) h1 k1 li lj hb
        · intro hb'
          obtain ⟨_, _, q⟩ := inv.own j oj k3
          obtain ⟨d', o2, q1, q2, q3, vs, t, fr, q4, _⟩ := q lj
          rw [hb'] at q1
          cases q1
          have hD : (bdOf G w ps ts).D d := by
            refine ⟨lt_of_heap q4, fun p _ hp => q3 p hp, fun t' ht' ow' o3 m1 m2 m3 => ?_⟩
            exact inv.dis j t' oj ow' d o' o3 (fun e => k1 (e ▸ ht')) k3 m1 lj m2 hb' m3
          obtain ⟨_, _, q'⟩ := i0.own i' oi h1
          obtain ⟨d', o3, r1, r2, _⟩ := q' li
          rw [hb] at r1
          cases r1
          exact r2 hD
      · rcases hown j oj hj with ⟨j', rfl, k1⟩ | ⟨k1, k2, k3⟩
        · intro hb'
          obtain ⟨_, _, q⟩ := inv.own i oi h3
          obtain ⟨d', o2, q1, q2, q3, vs, t, fr, q4, _⟩ := q li
          rw [hb] at q1
          cases q1
          have hD : (bdOf G w ps ts).D d := by
            refine ⟨lt_of_heap q4, fun p _ hp => q3 p hp, fun t' ht' ow' o3 m1 m2 m3 => ?_⟩
            exact inv.dis i t' oi ow' d o o3 (fun e => h1 (e ▸ ht')) h3 m1 li m2 hb m3
          obtain ⟨_, _, q'⟩ := i0.own j' oj k1
          obtain ⟨d', o3, r1, r2, _⟩ := q' lj
          rw [hb'] at r1
          cases r1
          exact r2 hD
        · exact inv.dis i j oi oj d o o' hne h3 k3 li lj hb
    glob := fun g2 cs h => ⟨(inv.glob g2 cs h).1.low0 (inv.glob g2 cs h).2 (fun d o v hv => g.mono.I d o v hv), (inv.glob g2 cs h).2⟩ }, gr⟩
end
end Go.Ab
