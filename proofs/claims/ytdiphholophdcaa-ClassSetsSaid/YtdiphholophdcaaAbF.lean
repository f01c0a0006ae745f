import Derived.Test.YtdiphholophdcaaAbH
set_option linter.unusedVariables false
set_option linter.unusedSimpArgs false
/- A CALL SEES ONLY WHAT IT IS HANDED: the state is cut to those blocks and tokens, and put together again. -/
namespace Go.Ab
open Go.RowKit

def AV.ren1 (r : Nat → Nat) : AV → AV
  | .ptr b o => .ptr (r b) o
  | .slr b o n => .slr (r b) o n
  | x => x
def AV.ren (r : Nat → Nat) : AV → AV
  | .agg cs => .agg (cs.map (AV.ren1 r))
  | .tup cs => .tup (cs.map (AV.ren1 r))
  | .fn f a b => .fn f (a.map (AV.ren1 r)) (b.map (AV.ren1 r))
  | x => x.ren1 r
def Tag.ren1 (t : Nat → Nat) : Tag → Tag
  | .tok i => .tok (t i)
  | .full => .full
  | _ => .no
def Tag.ren (t : Nat → Nat) : Tag → Tag
  | .agg ts => .agg (ts.map (Tag.ren1 t))
  | x => x.ren1 t
def SV.ren (r t : Nat → Nat) (x : SV) : SV := (x.1.ren r, x.2.ren t)

/-- pointers lead to P; what lies deeper holds none -/
def AV.ok1 (P : Nat → Prop) : AV → Prop
  | .ptr b _ => P b
  | .slr b _ _ => P b
  | x => x.low 0 = true
def AV.ok (P : Nat → Prop) : AV → Prop
  | .agg cs => ∀ x ∈ cs, x.ok1 P
  | .tup cs => ∀ x ∈ cs, x.ok1 P
  | .fn _ a b => (∀ x ∈ a, x.ok1 P) ∧ (∀ x ∈ b, x.ok1 P)
  | x => x.ok1 P
def Tag.ok1 (P : Nat → Prop) : Tag → Prop
  | .tok i => P i
  | _ => True
def Tag.ok (P : Nat → Prop) : Tag → Prop
  | .agg ts => ∀ x ∈ ts, x.ok1 P
  | x => x.ok1 P

theorem R.low0 {G G' : Gh} {x : AV} {v : Value} (h : R G x v) (hl : x.low 0 = true) (hI : ∀ c o v, G.I c o = some v → G'.I c o = some v) : R G' x v := by
  have h1 : R (G.cut 0 0) x v := h.cut hl
  have hm : Mono (G.cut 0 0) G' := ⟨fun b c hb => by simp [Gh.cut] at hb, hI⟩
  exact h1.mono hm
theorem AV.ren1_low0 {x : AV} {r : Nat → Nat} (hl : x.low 0 = true) : x.ren1 r = x := by
  cases x <;> first | rfl | (simp [AV.low] at hl)
theorem R.ren1 {G G' : Gh} {P : Nat → Prop} {r : Nat → Nat} (hφ : ∀ b c, P b → G.φ[b]? = some (some c) → G'.φ[r b]? = some (some c)) (hI : ∀ c o v, G.I c o = some v → G'.I c o = some v)
    {x : AV} {v : Value} (h : R G x v) (hx : x.ok1 P) : R G' (x.ren1 r) v := by
  cases x <;> first
    | (have hl : AV.low 0 _ = true := hx
       rw [AV.ren1_low0 hl]
       exact h.low0 hl hI)
    | skip
  · cases h with | ptr b o c hb => exact .ptr _ _ _ (hφ _ _ hx hb)
  · cases h with | slr b o n c cap hb hc => exact .slr _ _ _ _ _ (hφ _ _ hx hb) hc
theorem R.ren {G G' : Gh} {P : Nat → Prop} {r : Nat → Nat} (hφ : ∀ b c, P b → G.φ[b]? = some (some c) → G'.φ[r b]? = some (some c)) (hI : ∀ c o v, G.I c o = some v → G'.I c o = some v)
    {x : AV} {v : Value} (h : R G x v) (hx : x.ok P) : R G' (x.ren r) v := by
  cases x <;> first
    | exact h.ren1 hφ hI hx
    | skip
  · cases h with
    | fn _ _ _ va vb ha hb hra hrb =>
      exact .fn _ _ _ va vb (by simpa using ha) (by simpa using hb) (fun i h1 h2 => by
        simp only [List.length_map] at h1
        simp only [List.getElem_map]
        exact (hra i h1 h2).ren1 hφ hI (hx.1 _ (List.getElem_mem h1))) (fun i h1 h2 => by
        simp only [List.length_map] at h1
        simp only [List.getElem_map]
        exact (hrb i h1 h2).ren1 hφ hI (hx.2 _ (List.getElem_mem h1)))
  · cases h with
    | agg cs vs hl hr =>
      exact .agg _ vs (by simpa using hl) fun i h1 h2 => by
        simp only [List.length_map] at h1
        simp only [List.getElem_map]
        exact (hr i h1 h2).ren1 hφ hI (hx _ (List.getElem_mem h1))
  · cases h with
    | tup cs vs hl hr =>
      exact .tup _ vs (by simpa using hl) fun i h1 h2 => by
        simp only [List.length_map] at h1
        simp only [List.getElem_map]
        exact (hr i h1 h2).ren1 hφ hI (hx _ (List.getElem_mem h1))

theorem ren1_len (r : Nat → Nat) (x : AV) : (x.ren1 r).len = x.len := by cases x <;> rfl
theorem ren_len (r : Nat → Nat) (x : AV) : (x.ren r).len = x.len := by cases x <;> rfl
theorem ren1_sl {r : Nat → Nat} {x : AV} {ys : List AV} (h : x.ren1 r = .sl ys) : x = .sl ys := by
  cases x <;> first | exact h | (simp [AV.ren1] at h)
theorem ren_sl {r : Nat → Nat} {x : AV} {ys : List AV} (h : x.ren r = .sl ys) : x = .sl ys := by
  cases x <;> first | exact h | (simp [AV.ren, AV.ren1] at h)

/-- tokens under new numbers -/
theorem RT1.ren {G G' : Gh} {T T' : List Nat} {P : Nat → Prop} {t : Nat → Nat} (hT : ∀ i, P i → T'[t i]? = T[i]? ∧ G'.own[t i]? = G.own[i]?) {x x' : AV} (hl : x'.len = x.len) (hs : ∀ ys, x' = .sl ys → x = .sl ys) {tg : Tag} {v : Value}
    (h : RT1 G T x tg v) (ht : tg.ok1 P) : RT1 G' T' x' (tg.ren1 t) v := by
  cases tg with
  | no => trivial
  | full => exact h
  | agg _ => trivial
  | tok i =>
    obtain ⟨n, h1, h2, h3⟩ := h
    obtain ⟨e1, e2⟩ := hT i ht
    refine ⟨n, by rw [e1]; exact h1, by rw [hl]; exact h2, fun e b l cc hv => ?_⟩
    obtain ⟨ow, k1, k2, k3⟩ := h3 (by rw [← hl]; exact e) b l cc hv
    exact ⟨ow, by rw [e2]; exact k1, k2, fun y ys hy => k3 y ys (hs _ hy)⟩
theorem RS.ren {G G' : Gh} {T T' : List Nat} {P Pt : Nat → Prop} {r t : Nat → Nat} (hφ : ∀ b c, P b → G.φ[b]? = some (some c) → G'.φ[r b]? = some (some c)) (hI : ∀ c o v, G.I c o = some v → G'.I c o = some v)
    (hT : ∀ i, Pt i → T'[t i]? = T[i]? ∧ G'.own[t i]? = G.own[i]?) {x : SV} {v : Value} (h : RS G T x v) (hx : x.1.ok P) (ht : x.2.ok Pt) : RS G' T' (x.ren r t) v := by
  have hR := h.1.ren hφ hI hx
  have h1 := h.2.1
  have h2 := h.2.2
  clear h
  obtain ⟨x, tg⟩ := x
  simp only at h1 h2 hx ht hR
  cases tg with
  | agg ts =>
    have getD : ∀ i, (ts.map (Tag.ren1 t)).getD i .no = (ts.getD i .no).ren1 t := fun i => by
      simp only [List.getD_eq_getElem?_getD, List.getElem?_map]
      cases ts[i]? <;> rfl
    have okD : ∀ i, (ts.getD i .no).ok1 Pt := fun i => by
      rcases Nat.lt_or_ge i ts.length with hi | hi
      · have e : ts.getD i .no = ts[i] := by simp [List.getD, List.getElem?_eq_getElem hi]
        rw [e]; exact ht _ (List.getElem_mem hi)
      · have e : ts.getD i .no = .no := by simp [List.getD, List.getElem?_eq_none hi]
        rw [e]; trivial
    refine ⟨hR, trivial, ?_⟩
    cases x with
    | agg cs =>
      cases v with
      | agg vs =>
        intro i a1 a2
        simp only [List.length_map] at a1
        simp only [List.getElem_map, getD]
        exact RT1.ren hT (ren1_len r _) (fun ys e => ren1_sl e) (h2 i a1 a2) (okD i)
      | _ => exact True.intro
    | tup cs =>
      cases v with
      | tuple vs =>
        intro i a1 a2
        simp only [List.length_map] at a1
        simp only [List.getElem_map, getD]
        exact RT1.ren hT (ren1_len r _) (fun ys e => ren1_sl e) (h2 i a1 a2) (okD i)
      | _ => exact True.intro
    | _ => exact True.intro
  | no => exact ⟨hR, RT.no⟩
  | full => exact ⟨hR, RT.flat (t := .full) h1⟩
  | tok i => exact ⟨hR, RT.flat (t := .tok (t i)) (RT1.ren hT (ren_len r x) (fun ys e => ren_sl e) h1 ht)⟩

/-! ### putting together -/
/-- the members of some places are replaced -/
def mergeFrom {α : Type} (ps : List Nat) (new : List α) : Nat → List α → List α
  | _, [] => []
  | b, x :: xs => (if ps.contains b then new.getD (ps.idxOf b) x else x) :: mergeFrom ps new (b + 1) xs
theorem mergeFrom_at {α : Type} (ps : List Nat) (new : List α) : ∀ (l : List α) (b i : Nat), (mergeFrom ps new b l)[i]? = (l[i]?).map fun x => if ps.contains (b + i) then new.getD (ps.idxOf (b + i)) x else x := by
  intro l
  induction l with
  | nil => intro b i; simp [mergeFrom]
  | cons x xs ih =>
    intro b i
    cases i with
    | zero => simp [mergeFrom]
    | succ i =>
      simp only [mergeFrom, List.getElem?_cons_succ]
      rw [ih (b + 1) i, show b + 1 + i = b + (i + 1) by omega]
theorem mergeFrom_len {α : Type} (ps : List Nat) (new : List α) : ∀ (l : List α) (b : Nat), (mergeFrom ps new b l).length = l.length := by
  intro l
  induction l with
  | nil => intro b; rfl
  | cons x xs ih => intro b; simp [mergeFrom, ih]
/-- how a call's numbers become the caller's -/
def upN (ps : List Nat) (n i : Nat) : Nat := if i < ps.length then ps.getD i 0 else n + (i - ps.length)
def mergeAll {α : Type} (ps : List Nat) (new old : List α) : List α := mergeFrom ps new 0 old ++ new.drop ps.length

structure Picks (ps : List Nat) (n : Nat) : Prop where
  lt : ∀ p ∈ ps, p < n
  inc : ∀ i j (hi : i < ps.length) (hj : j < ps.length), i < j → ps[i] < ps[j]
theorem Picks.idx {ps : List Nat} {n : Nat} (h : Picks ps n) {i : Nat} (hi : i < ps.length) : ps.idxOf ps[i] = i := by
  have hm : ps[i] ∈ ps := List.getElem_mem hi
  have h1 := List.idxOf_lt_length_of_mem hm
  have h2 : ps[ps.idxOf ps[i]] = ps[i] := List.getElem_idxOf h1
  rcases Nat.lt_trichotomy (ps.idxOf ps[i]) i with hl | hl | hl
  · have := h.inc _ _ h1 hi hl; omega
  · exact hl
  · have := h.inc _ _ hi h1 hl; omega
theorem upN_lt {ps : List Nat} {n i : Nat} (hi : i < ps.length) : upN ps n i = ps[i] := by
  simp [upN, hi]
theorem upN_ge {ps : List Nat} {n i : Nat} (hi : ps.length ≤ i) : upN ps n i = n + (i - ps.length) := by
  simp [upN, Nat.not_lt.2 hi]
/-- what stands at a place behind -/
theorem mergeAll_at {α : Type} {ps : List Nat} {old new : List α} (h : Picks ps old.length) (hn : ps.length ≤ new.length) (b : Nat) :
    (∃ i, ∃ hi : i < new.length, b = upN ps old.length i ∧ (mergeAll ps new old)[b]? = some new[i]) ∨ (b ∉ ps ∧ b < old.length ∧ (mergeAll ps new old)[b]? = old[b]?) ∨ (mergeAll ps new old)[b]? = none := by
  unfold mergeAll
  rcases Nat.lt_or_ge b old.length with hb | hb
  · rw [List.getElem?_append_left (by rw [mergeFrom_len]; exact hb), mergeFrom_at, Nat.zero_add, List.getElem?_eq_getElem hb, Option.map_some]
    by_cases hm : b ∈ ps
    · have hlt := List.idxOf_lt_length_of_mem hm
      have he : ps[ps.idxOf b] = b := List.getElem_idxOf hlt
      refine .inl ⟨ps.idxOf b, by omega, by rw [upN_lt hlt]; exact he.symm, ?_⟩
      rw [if_pos (by simpa using hm)]
      simp [List.getD, List.getElem?_eq_getElem (show ps.idxOf b < new.length by omega)]
    · exact .inr (.inl ⟨hm, hb, by rw [if_neg (by simpa using hm)]⟩)
  · rw [List.getElem?_append_right (by rw [mergeFrom_len]; exact hb), mergeFrom_len, List.getElem?_drop]
    rcases Nat.lt_or_ge (ps.length + (b - old.length)) new.length with hl | hl
    · exact .inl ⟨_, hl, by rw [upN_ge (by omega)]; omega, List.getElem?_eq_getElem hl⟩
    · exact .inr (.inr (List.getElem?_eq_none hl))
theorem mergeAll_up {α : Type} {ps : List Nat} {old new : List α} (h : Picks ps old.length) {i : Nat} (hi : i < new.length) (hn : ps.length ≤ new.length) : (mergeAll ps new old)[upN ps old.length i]? = some new[i] := by
  unfold mergeAll
  rcases Nat.lt_or_ge i ps.length with hl | hl
  · have hb := h.lt _ (List.getElem_mem hl)
    rw [upN_lt hl, List.getElem?_append_left (by rw [mergeFrom_len]; exact hb), mergeFrom_at, Nat.zero_add, List.getElem?_eq_getElem hb, Option.map_some, if_pos (by simp), h.idx hl]
    simp [List.getD, List.getElem?_eq_getElem hi]
  · rw [upN_ge hl, List.getElem?_append_right (by rw [mergeFrom_len]; omega), mergeFrom_len, List.getElem?_drop, show ps.length + (old.length + (i - ps.length) - old.length) = i by omega]
    exact List.getElem?_eq_getElem hi
theorem mergeAll_len {α : Type} {ps : List Nat} {old new : List α} (hn : ps.length ≤ new.length) : (mergeAll ps new old).length = old.length + (new.length - ps.length) := by
  simp [mergeAll, mergeFrom_len]
theorem upN_inj {ps : List Nat} {n i j : Nat} (h : Picks ps n) (e : upN ps n i = upN ps n j) : i = j := by
  rcases Nat.lt_or_ge i ps.length with hi | hi <;> rcases Nat.lt_or_ge j ps.length with hj | hj
  · rw [upN_lt hi, upN_lt hj] at e
    rcases Nat.lt_trichotomy i j with hl | hl | hl
    · have := h.inc _ _ hi hj hl; omega
    · exact hl
    · have := h.inc _ _ hj hi hl; omega
  · rw [upN_lt hi, upN_ge hj] at e; have := h.lt _ (List.getElem_mem hi); omega
  · rw [upN_ge hi, upN_lt hj] at e; have := h.lt _ (List.getElem_mem hj); omega
  · rw [upN_ge hi, upN_ge hj] at e; omega
theorem upN_mono {ps : List Nat} {n i j : Nat} (h : Picks ps n) (e : i < j) : upN ps n i < upN ps n j := by
  rcases Nat.lt_or_ge i ps.length with hi | hi <;> rcases Nat.lt_or_ge j ps.length with hj | hj
  · rw [upN_lt hi, upN_lt hj]; exact h.inc _ _ hi hj e
  · rw [upN_lt hi, upN_ge hj]; have := h.lt _ (List.getElem_mem hi); omega
  · omega
  · rw [upN_ge hi, upN_ge hj]; omega
end Go.Ab
