import Derived.Test.YtdiphholophdcaaAbCode
set_option linter.unusedVariables false
set_option linter.unusedSimpArgs false
/- WHAT IS FORGOTTEN: blocks and tokens of a round, of a call. -/
namespace Go.Ab
open Go.RowKit

def Gh.cut (G : Gh) (n m : Nat) : Gh := { G with φ := G.φ.take n, own := G.own.take m }

theorem low_cells {n : Nat} {x : AV} (h : x.low n = true) : ∀ y ∈ x.cells, y.low n = true := by
  cases x with
  | agg cs => rw [AV.low, lows_iff] at h; exact h
  | _ => intro y hy; simp only [AV.cells, List.mem_singleton] at hy; subst hy; exact h
theorem R.cut {G : Gh} {n m : Nat} {x : AV} {v : Value} (h : R G x v) (hl : x.low n = true) : R (G.cut n m) x v := by
  have φc : ∀ b d : Nat, b < n → G.φ[b]? = some (some d) → (G.cut n m).φ[b]? = some (some d) := by
    intro b d hb h
    show (G.φ.take n)[b]? = _
    rw [List.getElem?_take, if_pos hb]; exact h
  induction h with
  | undef v => exact .undef v
  | int k n => exact .int k n
  | bool b => exact .bool b
  | str s => exact .str s
  | nilptr => exact .nilptr
  | ptr b o c h => exact .ptr b o c (φc b c (by simpa [AV.low] using hl) h)
  | iptr cs c o f h _ ih =>
    simp only [AV.low, lows_iff] at hl
    exact .iptr cs c o f h fun i hi => ih i hi (hl _ (List.getElem_mem hi))
  | nils => exact .nils
  | sl sz xs c o cap f hs hc h _ h1 ih =>
    simp only [AV.low, lows_iff] at hl
    refine .sl sz xs c o cap f hs hc h (fun i hi => ih i hi ?_) h1
    obtain ⟨x, hx, hy⟩ := List.mem_flatMap.1 (show (fl xs)[i] ∈ xs.flatMap AV.cells from List.getElem_mem hi)
    exact low_cells (hl x hx) _ hy
  | slr b o n c cap h hc => exact .slr b o n c cap (φc b c (by simpa [AV.low] using hl) h) hc
  | nilfn => exact .nilfn
  | fn f a b va vb ha hb _ _ iha ihb =>
    simp only [AV.low, Bool.and_eq_true, lows_iff] at hl
    exact .fn f a b va vb ha hb (fun i h h' => iha i h h' (hl.1 _ (List.getElem_mem h))) (fun i h h' => ihb i h h' (hl.2 _ (List.getElem_mem h)))
  | nili => exact .nili
  | iface t x v _ ih => exact .iface t x v (ih (by simpa [AV.low] using hl))
  | agg cs vs hl' _ ih =>
    simp only [AV.low, lows_iff] at hl
    exact .agg cs vs hl' fun i h h' => ih i h h' (hl _ (List.getElem_mem h))
  | tup cs vs hl' _ ih =>
    simp only [AV.low, lows_iff] at hl
    exact .tup cs vs hl' fun i h h' => ih i h h' (hl _ (List.getElem_mem h))

theorem RT1.cut {G : Gh} {T : List Nat} {n m : Nat} {x : AV} {tg : Tag} {v : Value} (h : RT1 G T x tg v) (hl : tg.low1 m = true) : RT1 (G.cut n m) (T.take m) x tg v := by
  cases tg with
  | tok id =>
    have hid : id < m := by simpa [Tag.low1] using hl
    obtain ⟨k, h1, h2, h3⟩ := h
    refine ⟨k, by rw [List.getElem?_take, if_pos hid]; exact h1, h2, fun e b l cc hv => ?_⟩
    obtain ⟨ow, ho, hr⟩ := h3 e b l cc hv
    refine ⟨ow, ?_, hr⟩
    show (G.own.take m)[id]? = _
    rw [List.getElem?_take, if_pos hid]; exact ho
  | _ => exact h
theorem Tag.low1_of {m : Nat} {tg : Tag} (h : tg.low m = true) : tg.low1 m = true := by
  cases tg <;> first | exact h | rfl
theorem RT.cut {G : Gh} {T : List Nat} {n m : Nat} {x : AV} {tg : Tag} {v : Value} (h : RT G T x tg v) (hl : tg.low m = true) : RT (G.cut n m) (T.take m) x tg v := by
  refine ⟨h.1.cut (Tag.low1_of hl), ?_⟩
  have h2 := h.2
  have elem : ∀ (ts : List Tag) (i : Nat), ts.all (Tag.low1 m) = true → (ts.getD i .no).low1 m = true := by
    intro ts i h
    rw [List.all_eq_true] at h
    rcases Nat.lt_or_ge i ts.length with hi | hi
    · have e : ts.getD i .no = ts[i] := by simp [List.getD, List.getElem?_eq_getElem hi]
      rw [e]; exact h _ (List.getElem_mem hi)
    · have e : ts.getD i .no = .no := by simp [List.getD, List.getElem?_eq_none hi]
      rw [e]; rfl
  split at h2
  · exact fun i a b => (h2 i a b).cut (elem _ i (by simpa [Tag.low] using hl))
  · exact fun i a b => (h2 i a b).cut (elem _ i (by simpa [Tag.low] using hl))
  · trivial
theorem RS.cut {G : Gh} {T : List Nat} {n m : Nat} {x : SV} {v : Value} (h : RS G T x v) (hl : x.1.low n = true) (ht : x.2.low m = true) : RS (G.cut n m) (T.take m) x v := ⟨h.1.cut hl, h.2.cut ht⟩

def TagsLow (n m : Nat) (S : St) : Prop := ∀ (b : Nat) (cells : Blk), b < n → S.H[b]? = some cells → ∀ x ∈ cells, x.2.low m = true

section
variable {c : Ctx} {B : Bd} {w0 : World} {G : Gh} {S : St} {w : World}

theorem take_some {α : Type} {l : List α} {n i : Nat} {x : α} (h : (l.take n)[i]? = some x) : i < n ∧ l[i]? = some x := by
  rw [List.getElem?_take] at h
  split at h
  · exact ⟨‹_›, h⟩
  · cases h

/-- what is known of this value stays known -/
def KeepsT (G : Gh) (T : List Nat) (n m : Nat) (x : SV) : Prop := ∀ v, RT G T x.1 x.2 v → RT (G.cut n m) (T.take m) x.1 x.2 v
theorem keeps_of_low {G : Gh} {T : List Nat} {n m : Nat} {x : SV} (h : x.2.low m = true) : KeepsT G T n m x := fun _ hv => hv.cut h
theorem RT1.same {G G' : Gh} {T : List Nat} {x : AV} {tg : Tag} {v : Value} (ho : G'.own = G.own) (h : RT1 G T x tg v) : RT1 G' T x tg v := by
  cases tg with
  | tok id =>
    obtain ⟨k, h1, h2, h3⟩ := h
    exact ⟨k, h1, h2, fun e b l cc hv => by obtain ⟨ow, ho', hr⟩ := h3 e b l cc hv; exact ⟨ow, by rw [ho]; exact ho', hr⟩⟩
  | _ => exact h
theorem RT.same {G G' : Gh} {T : List Nat} {x : AV} {tg : Tag} {v : Value} (ho : G'.own = G.own) (h : RT G T x tg v) : RT G' T x tg v := by
  refine ⟨h.1.same ho, ?_⟩
  have h2 := h.2
  split at h2
  · exact fun i a b => (h2 i a b).same ho
  · exact fun i a b => (h2 i a b).same ho
  · trivial
theorem keeps_all {G : Gh} {T : List Nat} {n : Nat} {x : SV} (hl : G.own.length = T.length) : KeepsT G T n T.length x := fun v hv => by
  rw [List.take_length]
  refine hv.same ?_
  show G.own.take T.length = G.own
  rw [← hl, List.take_length]
theorem Inv.cut (inv : Inv c B w0 G S w) {n m : Nat} (ht : TagsLow n m S) : Inv c B w0 (G.cut n m) ⟨S.H.take n, S.T.take m⟩ w where
  below := inv.below
  base := inv.base
  iD := inv.iD
  lenφ := by simp [Gh.cut, inv.lenφ]
  lenO := by simp [Gh.cut, inv.lenO]
  inj := fun i j d hi hj => inv.inj i j d (take_some hi).2 (take_some hj).2
  low := fun b cells h => inv.low b cells (take_some h).2
  tag := fun b cells h x hx => by
    have h1 := ht b cells (take_some h).1 (take_some h).2 x hx
    have h2 := inv.tag b cells (take_some h).2 x hx
    have : (S.T.take m).length = m ∨ (S.T.take m).length = S.T.length := by simp; omega
    rcases this with e | e <;> rw [e] <;> assumption
  blk := fun b d cells hb hφ => by
    obtain ⟨hbn, hb'⟩ := take_some hb
    obtain ⟨h1, us, u, fr, h2, h3, h4, h5⟩ := inv.blk b d cells hb' (take_some hφ).2
    exact ⟨h1, us, u, fr, h2, h3, h4, fun i hi hi' => ⟨(h5 i hi hi').1.cut (AV.low_mono (by omega) (inv.low b cells hb' _ (List.getElem_mem hi))), (h5 i hi hi').2.cut (ht b cells hbn hb' _ (List.getElem_mem hi))⟩⟩
  imm := fun d o v h => by
    obtain ⟨h1, h2⟩ := inv.imm d o v h
    exact ⟨h1, fun b hb => h2 b (take_some hb).2⟩
  own := fun id ow h => by
    obtain ⟨hid, h'⟩ := take_some h
    obtain ⟨h1, h2, h3⟩ := inv.own id ow h'
    refine ⟨by show (S.T.take m)[id]? = _; rw [List.getElem?_take, if_pos hid]; exact h1, h2, fun hlt => ?_⟩
    obtain ⟨d, o, k1, k2, k3, rest⟩ := h3 hlt
    exact ⟨d, o, k1, k2, fun b hb => k3 b (take_some hb).2, rest⟩
  dis := fun i j oi oj d o o' hne hi hj => inv.dis i j oi oj d o o' hne (take_some hi).2 (take_some hj).2
  glob := fun g cs h => ⟨(inv.glob g cs h).1.cut (AV.low_mono (Nat.zero_le _) (inv.glob g cs h).2), (inv.glob g cs h).2⟩

theorem Grows.cut {G0 : Gh} {T0 : List Nat} {T : List Nat} (g : Grows G0 T0 G T) {n m : Nat} (hn : G0.φ.length ≤ n) (hm : T0.length ≤ m) : Grows G0 T0 (G.cut n m) (T.take m) := by
  refine ⟨⟨fun b d h => ?_, g.mono.I⟩, fun b hb => ?_, fun id k hk => ?_⟩
  · show (G.φ.take n)[b]? = _
    rw [List.getElem?_take, if_pos (Nat.lt_of_lt_of_le (φ_some h) hn)]
    exact g.mono.φ b d h
  · show (G.φ.take n)[b]? = _
    rw [List.getElem?_take, if_pos (by omega)]
    exact g.φ b hb
  · have hid : id < T0.length := by
      rcases Nat.lt_or_ge id T0.length with hl | hl
      · exact hl
      · rw [List.getElem?_eq_none hl] at hk; cases hk
    obtain ⟨n', h1, h2, h3⟩ := g.T id k hk
    refine ⟨n', by rw [List.getElem?_take, if_pos (by omega)]; exact h1, h2, fun e => ?_⟩
    show (G.own.take m)[id]? = _
    rw [List.getElem?_take, if_pos (by omega)]
    exact h3 e
end
end Go.Ab
