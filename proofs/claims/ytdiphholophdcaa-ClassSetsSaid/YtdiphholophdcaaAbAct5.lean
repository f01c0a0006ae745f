import Derived.Test.YtdiphholophdcaaAbAct4
set_option linter.unusedVariables false
set_option linter.unusedSimpArgs false
namespace Go.Ab
open Go.RowKit
section
variable {c : Ctx} {B : Bd} {w0 : World} {G : Gh} {S : St} {w : World} {ρ : Operand → SV} {σ : Operand → Value}

/-- the slice that is appended to: its elements, their cells in memory -/
structure Old (c : Ctx) (G : Gh) (w : World) (sz : Nat) (xs : List AV) (base : Option Addr) (len cap : Nat) (olds : List Value) : Prop where
  hlen : len = xs.length
  hcap : len ≤ cap
  szs : ∀ x ∈ xs, x.cells.length = sz
  read : (Builtin.firstCells sz len (.slice base len cap)).run c.P w.drew = .ok olds.toArray w.drew
  num : olds.length = (fl xs).length
  val : ∀ i (h : i < (fl xs).length) (h' : i < olds.length), R G (fl xs)[i] olds[i]
  one : ∀ u ∈ olds, u.oneCell' = true

theorem old_nil (sz : Nat) : Old c G w sz [] none 0 0 [] :=
  ⟨rfl, Nat.le_refl _, by simp, by simp [Builtin.firstCells], rfl, fun i h => absurd h (by simp [fl]), by simp⟩
theorem old_sl (inv : Inv c B w0 G S w) {sz : Nat} {xs : List AV} {v : Value} (h : R G (.sl xs) v) (hz : szOk xs sz = true) : ∃ base cap olds, v = .slice base xs.length cap ∧ Old c G w sz xs base xs.length cap olds := by
  cases h with
  | nils => exact ⟨none, 0, [], rfl, old_nil sz⟩
  | sl sz0 _ cc oo cap f hs0 hc hI hR h1c =>
    have hs := szOk_all hs0 hz
    refine ⟨some ⟨cc, oo, none⟩, cap, (List.range (fl xs).length).map f, rfl, rfl, hc, hs, ?_, by simp, fun i h h' => by simpa using hR i h, fun u hu => ?_⟩
    · exact olds_sound inv hs hI w.drew rfl
    · obtain ⟨i, hi, rfl⟩ := List.mem_map.1 hu
      exact h1c i (by simpa using hi)

theorem append_grows (inv : Inv c B w0 G S w) {t tx ty elem : TypeId} {xs ys : List AV} {base : Option Addr} {len cap : Nat} {olds news : List Value} {x : Value}
    (hk : tk c.P t = .slice elem) (hz1 : 1 ≤ tsz c.P elem) (hb : c.P.bytesOf elem ≤ 4096) (hhz : hasZero c.P elem = true) (htz : (tz c.P elem).length = tsz c.P elem)
    (old : Old c G w (tsz c.P elem) xs base len cap olds) (src : Src c.P (tsz c.P elem) tx x ys.length news w) (hnn : news.length = (fl ys).length)
    (hnR : ∀ i (h : i < (fl ys).length) (h' : i < news.length), R G (fl ys)[i] news[i]) (hys : ∀ y ∈ ys, y.cells.length = tsz c.P elem)
    (hmax : xs.length + ys.length ≤ Ab.maxLen) (hroom : cap < xs.length + ys.length) :
    ∃ G1 w' cap', (Builtin.append_ #[t, tx] ty #[.slice base len cap, x]).run c.P w = .ok (.slice (some ⟨w.heap.size, 0, none⟩) (xs.length + ys.length) cap') w' ∧
      Inv c B w0 G1 S w' ∧ Grows G S.T G1 S.T ∧ G1.own = G.own ∧ xs.length + ys.length ≤ cap' ∧ R G1 (.sl (xs ++ ys)) (.slice (some ⟨w.heap.size, 0, none⟩) (xs.length + ys.length) cap') ∧
      (xs.length + ys.length < cap' → ∃ d o, some (⟨w.heap.size, 0, none⟩ : Addr) = some ⟨d, o, none⟩ ∧ B.free d ∧ (∀ b : Nat, G1.φ[b]? ≠ some (some d)) ∧
        ∃ vs t fr, w'.heap[d]? = some (.cells vs t fr) ∧ o + cap' * tsz c.P elem ≤ vs.size ∧ ∀ i, o + (xs.length + ys.length) * tsz c.P elem ≤ i → ¬ (fr.1 ≤ i ∧ i < fr.2) ∧ G1.I d i = none) := by
  obtain ⟨i, z, hi, hz⟩ := of_hasZero hhz
  have hsz : tsz c.P elem = i.size := by simp [tsz, hi]
  have hbi : i.bytes ≤ 4096 := by simpa [Program.bytesOf, hi] using hb
  have hzc : z.cells.size = tsz c.P elem := by rw [← htz]; simp [tz, hi, hz]
  have hl := old.hlen
  subst hl
  have hmax' : xs.length + ys.length ≤ 4294967296 := by unfold Ab.maxLen at hmax; omega
  have hnext : Builtin.nextslicecap (xs.length + ys.length) cap * i.bytes ≤ 281474976710656 := by
    have h1 := Go.Room.nextslicecap_le' hroom
    calc Builtin.nextslicecap (xs.length + ys.length) cap * i.bytes ≤ (2 * (xs.length + ys.length)) * 4096 := Nat.mul_le_mul h1 hbi
      _ ≤ 281474976710656 := by omega
  have hread := old.read
  rw [hsz] at hread
  have hsrc := src
  rw [hsz] at hsrc
  have run := run_append_grow_src (P := c.P) w t tx ty elem i z (tk_slice hk) hi hz base xs.length cap olds hread x ys.length news hsrc hroom (by omega) hnext
  have hge := grownCap_ge w (xs.length + ys.length) cap elem
  obtain ⟨G1, h1, h2, h3, h4, h5⟩ := grown_row inv old.szs hys old.num old.val old.one hnn hnR src.one hge z.cells hzc elem
  exact ⟨G1, _, _, run, h1, h2, h3, hge, h4, h5⟩

/-- a slice that has grown in place -/
theorem R_more {G' : Gh} {sz : Nat} {xs ys : List AV} {d oo cap : Nat} {news : List Value} (hz : szOk xs sz = true) (h : R G (.sl xs) (.slice (some ⟨d, oo, none⟩) xs.length cap)) (m : Mono G G') (hn : news.length = (fl ys).length)
    (hnR : ∀ i (h : i < (fl ys).length) (h' : i < news.length), R G (fl ys)[i] news[i]) (hn1 : ∀ u ∈ news, u.oneCell' = true) (hys : ∀ y ∈ ys, y.cells.length = sz) (hcap : xs.length + ys.length ≤ cap)
    (hI' : ∀ j, j < news.length → G'.I d (oo + ((fl xs).length + j)) = some (news.getD j undef)) : R G' (.sl (xs ++ ys)) (.slice (some ⟨d, oo, none⟩) (xs.length + ys.length) cap) := by
  cases h with
  | sl sz0 _ _ _ _ f hs0 hc hI hR h1c =>
    have hs := szOk_all hs0 hz
    rw [← List.length_append]
    have hgetD : ∀ j (hj : j < news.length), news.getD j undef = news[j] := fun j hj => by simp [List.getD, List.getElem?_eq_getElem hj]
    have hl : (fl (xs ++ ys)).length = (fl xs).length + (fl ys).length := by rw [fl_append, List.length_append]
    refine .sl sz _ _ _ _ (fun i => if i < (fl xs).length then f i else news.getD (i - (fl xs).length) undef) (fun x hx => ?_) (by rw [List.length_append]; exact hcap) (fun i hi => ?_) (fun i hi => ?_) (fun i hi => ?_)
    · rcases List.mem_append.1 hx with h | h
      · exact hs x h
      · exact hys x h
    · by_cases h : i < (fl xs).length
      · simp only [h, if_true]; exact m.I _ _ _ (hI i h)
      · simp only [h, if_false]
        have := hI' (i - (fl xs).length) (by omega)
        rw [show (fl xs).length + (i - (fl xs).length) = i by omega] at this
        exact this
    · have e2 : (fl (xs ++ ys))[i] = (fl xs ++ fl ys)[i]'(by rw [← fl_append]; exact hi) := by simp only [fl_append]
      rw [e2]
      by_cases h : i < (fl xs).length
      · simp only [h, if_true]
        rw [List.getElem_append_left h]
        exact (hR i h).mono m
      · simp only [h, if_false]
        rw [List.getElem_append_right (by omega), hgetD _ (by omega)]
        exact (hnR _ (by omega) (by omega)).mono m
    · by_cases h : i < (fl xs).length
      · simp only [h, if_true]; exact h1c i h
      · simp only [h, if_false]
        rw [hgetD _ (by omega)]
        exact hn1 _ (List.getElem_mem _)

theorem d_append {e : Env0} (he : e.c = c) {o : Oper} {ops : Array Operand} {ts : Array TypeId} {x : SV} {S' : St} (hop : o.op = .call { callee := .builtin .append, args := ops, argTypes := ts })
    (inv : Inv c B w0 G S w) (hρ : ∀ x, RS G S.T (ρ x) (σ x)) (h : e.act (.call { callee := .builtin .append, args := ops, argTypes := ts }) ρ S = some (.ok x S')) : Does c B w0 G S w σ o x S' := by
  subst he
  simp only [Env0.act] at h
  split at h <;> first | (cases h; done) | skip
  rename_i a b t t2 hl ht
  have eo : ops = #[a, b] := by rw [← hl]
  have et : ts = #[t, t2] := by rw [← ht]
  have fin : ∀ v w' G', (Builtin.append_ #[t, t2] o.type #[σ a, σ b]).run e.c.P w = .ok v w' → Inv e.c B w0 G' S' w' → Grows G S.T G' S'.T → RS G' S'.T x v → Does e.c B w0 G S w σ o x S' := by
    intro v w' G' h1 h2 h3 h4
    refine ⟨w', G', .value v, v, ?_, .inl rfl, h2, h3, h4⟩
    simp [execOp, hop, resolve, invoke, builtin, eo, et, h1]
  unfold Env0.append at h
  split at h <;> first | (cases h; done) | skip
  rename_i elem hk
  split at h <;> first | (cases h; done) | skip
  rename_i xs ys hxs hys
  obtain ⟨⟨hmax, hz1, hz256, hbytes, hhz, htz⟩, h⟩ := Option.ite_none_right_eq_some.1 h
  have hra := hρ a
  have hrb := hρ b
  obtain ⟨i, hi, hsz⟩ := info_of_tsz hz1
  obtain ⟨news, src, hnn, hnR, hysz⟩ := added_sound inv rfl hys hrb hz1
  -- the slice in front
  obtain ⟨hx, hzz⟩ : (ρ a).1 = .sl xs ∧ szOk xs (tsz e.c.P elem) = true := by
    split at hxs <;> first | (cases hxs; done) | skip
    rename_i zs hx
    obtain ⟨hzz, hxs'⟩ := Option.ite_none_right_eq_some.1 hxs
    cases hxs'
    exact ⟨hx, hzz⟩
  have hra1 := hra.1
  rw [hx] at hra1
  obtain ⟨base, cap, olds, hsa, old⟩ := old_sl inv hra1 hzz
  have hlen : (ρ a).1.len = xs.length := by rw [hx]; rfl
  have hxy : ∀ y zs, AV.sl (xs ++ ys) = .sl (y :: zs) → tsz e.c.P elem = y.cells.length := fun y zs h => by
    have h1 := AV.sl.inj h
    have : y ∈ xs ++ ys := by rw [h1]; exact List.mem_cons_self ..
    rcases List.mem_append.1 this with h | h
    · exact (old.szs y h).symm
    · exact (hysz y h).symm
  -- nothing is appended
  have nothing : ys.isEmpty = true → x = ρ a → S' = S → Does e.c B w0 G S w σ o x S' := by
    intro hy hx hS
    subst hx
    subst hS
    have hy' : ys = [] := by simpa using hy
    subst hy'
    have hn0 : news = [] := by
      have : news.length = 0 := by rw [hnn]; rfl
      simpa using this
    subst hn0
    have src' := src
    rw [hsz] at src'
    have run := run_append_nothing (P := e.c.P) w t t2 o.type elem i (tk_slice hk) hi base xs.length cap old.hcap (σ b) src'
    refine fin (σ a) w G ?_ inv (.refl _ _) hra
    rw [hsa]; exact run
  have hpos : ys.isEmpty = false → 1 ≤ ys.length := by
    intro h
    cases ys with
    | nil => simp at h
    | cons => simp
  split at h
  · -- a token
    rename_i id htag
    obtain ⟨hT, h⟩ := Option.ite_none_right_eq_some.1 h
    split at h
    · rename_i hy
      cases h
      exact nothing hy rfl rfl
    · rename_i hy
      cases h
      have hy1 := hpos (by simpa using hy)
      have hrt := hra.2.1
      rw [htag] at hrt
      obtain ⟨n, hn1, hn2, hn3⟩ := hrt
      rw [hT] at hn1
      cases hn1
      obtain ⟨ow, how, hval, hsz'⟩ := hn3 hlen _ _ _ hsa
      rw [hsa] at hval
      obtain ⟨obase, olen, ocap, osz⟩ := ow
      simp only [Own.val, Value.slice.injEq] at hval
      obtain ⟨rfl, rfl, rfl⟩ := hval
      by_cases hroom : cap < xs.length + ys.length
      · obtain ⟨G1, w', cap', run, i1, g1, ho1, hge, hR, hsp⟩ := append_grows (ty := o.type) inv hk hz1 hbytes hhz htz old src hnn hnR hysz hmax hroom
        have := Inv.setOwn (ow := ⟨some ⟨w.heap.size, 0, none⟩, xs.length + ys.length, cap', tsz e.c.P elem⟩) i1 (by rw [ho1]; exact how) (by simp only; omega) hge hsp (fun j oj d oo oo' hne hj l1 l2 hb hb' => by
          cases hb
          rw [ho1] at hj
          obtain ⟨_, _, h3⟩ := inv.own j oj hj
          obtain ⟨d', o', k1, _, _, us, u, fr, k4, _⟩ := h3 l2
          rw [hb'] at k1
          cases k1
          exact absurd (lt_of_heap k4) (by omega))
        obtain ⟨i2, g2⟩ := this
        refine fin _ w' _ (by rw [hsa]; exact run) i2 (g1.trans g2) ⟨hR.mono g2.mono, ⟨xs.length + ys.length, ?_, by simp [AV.len], fun _ b l cc hv => ⟨⟨some ⟨w.heap.size, 0, none⟩, xs.length + ys.length, cap', tsz e.c.P elem⟩, ?_, rfl, hxy⟩⟩, ?_⟩
        · have := (lt_T inv how).1
          simp [this]
        · have := (lt_T inv how).2
          simp [Gh.setOwn, ho1, this]
        · trivial
      · -- in place
        obtain ⟨hTo, hle, hspare⟩ := inv.own id _ how
        simp only at hle hspare
        obtain ⟨d, oo, k1, k2, k3, us, u, fr, k4, k5, k6⟩ := hspare (by omega)
        subst k1
        have hosz : osz = tsz e.c.P elem := by
          cases hxe : xs with
          | nil =>
            rw [hxe] at hle hroom
            have := hle.2 rfl
            simp only at this
            simp at hroom; omega
          | cons y zs =>
            exact (hsz' y zs (by rw [hx, hxe])).trans (old.szs y (by rw [hxe]; exact List.mem_cons_self ..))
        subst hosz
        rw [hsa] at hra1
        have hnl : news.length = ys.length * tsz e.c.P elem := by rw [hnn, fl_length hysz]
        have hmulc := Nat.mul_le_mul_right (tsz e.c.P elem) (show xs.length + ys.length ≤ cap by omega)
        rw [Nat.add_mul] at hmulc
        have src' := src
        rw [hsz] at src'
        have run := run_append_room_src (P := e.c.P) w t t2 o.type elem i (tk_slice hk) hi d oo xs.length cap (σ b) ys.length news src' (by omega)
          (fun j hj => by rw [← hsz, cell_of_heap k4, Array.getElem?_eq_getElem (by omega)]; rfl)
          (fun j hj => by rw [← hsz]; exact frozen_of k4 (k6 _ (by omega)).1)
        rw [← hsz] at run
        have hw := setCells_spec d u fr news (oo + xs.length * tsz e.c.P elem) w us k4
        obtain ⟨i2, g2⟩ := inv.inPlace (n := ys.length) (f := fun j => news.getD j undef) how rfl hy1 (by simp only; omega) (by simp only; omega) k4 hw (putRow_size _ _ _)
          (fun j hj => by
            simp only at hj ⊢
            rw [putRow_get, if_pos (by simp; omega)]
            simp [List.getD]
            rw [List.getElem?_eq_getElem (by omega)]; rfl)
          (fun j hj => by
            simp only at hj
            rw [putRow_get, if_neg]
            simp
            rw [Nat.add_mul] at hj
            omega)
        refine fin (.slice (some ⟨d, oo, none⟩) (xs.length + ys.length) cap) _ _ (by rw [hsa]; exact run) i2 g2 ⟨?_, ⟨xs.length + ys.length, ?_, by simp [AV.len], fun _ b l cc hv => ⟨⟨some ⟨d, oo, none⟩, xs.length + ys.length, cap, tsz e.c.P elem⟩, ?_, rfl, hxy⟩⟩, ?_⟩
        · exact R_more hzz hra1 g2.mono hnn hnR src.one hysz (by omega) (fun j hj => by
            have hfx := fl_length old.szs
            show (if d = d ∧ oo + xs.length * tsz e.c.P elem ≤ oo + ((fl xs).length + j) ∧ oo + ((fl xs).length + j) < oo + xs.length * tsz e.c.P elem + ys.length * tsz e.c.P elem then some (news.getD (oo + ((fl xs).length + j) - (oo + xs.length * tsz e.c.P elem)) undef) else G.I d (oo + ((fl xs).length + j))) = some (news.getD j undef)
            rw [if_pos (by omega), show oo + ((fl xs).length + j) - (oo + xs.length * tsz e.c.P elem) = j by omega])
        · have := (lt_T inv how).1
          simp [this]
        · have := (lt_T inv how).2
          simp [Gh.setOwn, Gh.span, this]
        · trivial
  · -- full
    rename_i htag
    split at h
    · rename_i hy
      cases h
      exact nothing hy rfl rfl
    · rename_i hy
      cases h
      have hy1 := hpos (by simpa using hy)
      have hroom : cap < xs.length + ys.length := by
        have h2 := hra.2.1
        rw [htag] at h2
        have := h2 _ _ _ hsa
        omega
      obtain ⟨G1, w', cap', run, i1, g1, ho1, hge, hR, hsp⟩ := append_grows (ty := o.type) inv hk hz1 hbytes hhz htz old src hnn hnR hysz hmax hroom
      obtain ⟨i2, g2⟩ := Inv.pushOwn i1 ⟨some ⟨w.heap.size, 0, none⟩, xs.length + ys.length, cap', tsz e.c.P elem⟩ ⟨hge, fun h => by simp only at h; omega⟩ hsp (fun j oj d oo oo' hj l1 l2 hb hb' => by
        cases hb
        rw [ho1] at hj
        obtain ⟨_, _, h3⟩ := inv.own j oj hj
        obtain ⟨d', o', k1, _, _, us, u, fr, k4, _⟩ := h3 l2
        rw [hb'] at k1
        cases k1
        exact absurd (lt_of_heap k4) (by omega))
      refine fin _ w' _ (by rw [hsa]; exact run) i2 (g1.trans g2) ⟨hR.mono g2.mono, ⟨xs.length + ys.length, ?_, by simp [AV.len], fun _ b l cc hv => ⟨⟨some ⟨w.heap.size, 0, none⟩, xs.length + ys.length, cap', tsz e.c.P elem⟩, ?_, rfl, hxy⟩⟩, ?_⟩
      · simp
      · show (G1.own ++ _)[S.T.length]? = _
        rw [ho1, ← inv.lenO]; simp
      · trivial
  · cases h
end
end Go.Ab
