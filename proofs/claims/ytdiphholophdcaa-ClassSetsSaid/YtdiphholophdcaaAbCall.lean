import Derived.Test.YtdiphholophdcaaAbCode2
import Derived.Laws.Sem
set_option linter.unusedVariables false
set_option linter.unusedSimpArgs false
/- A CALL's END. -/
namespace Go.Ab
open Go.RowKit

section
variable {c : Ctx} {B : Bd} {w0 : World} {G : Gh} {S : St} {w : World}

theorem asAddr_run (P : Program) (x : Addr) : (asAddr (.pointer (some x))).run P w = .ok x w := by simp [asAddr]

theorem result_sound (inv : Inv c B w0 G S w) {env : Env} {a : Act} (he : EnvR G S.T env a) {r : ResultVar} {x : SV} (h : c.result env S r = some x) :
    ∃ v, (match r with
      | .tmp t => (pure (a.tmps.getD t undef) : Sem Value)
      | .cell a' t => (do loadVar t (← asAddr (a.tmps.getD a' undef)) : Sem Value)).run c.P w = .ok v w ∧ RS G S.T x v := by
  cases r with
  | tmp t =>
    simp only [Ctx.result] at h
    cases h
    exact ⟨_, Sem.run_pure _ _ _, eval_sound inv he (.tmp t)⟩
  | cell ad t =>
    simp only [Ctx.result] at h
    have hr := (eval_sound inv he (.tmp ad)).1
    simp only [Ctx.eval, Act.eval] at hr
    split at h <;> first | (cases h; done) | skip
    rename_i b oo hb
    rw [hb] at hr
    split at h <;> first | (cases h; done) | skip
    rename_i cells hc
    generalize hv : a.tmps.getD ad undef = v at hr
    cases hr with
    | ptr _ _ d hφ =>
      obtain ⟨hB, us, u, fr, hu, hus, hfr, hR⟩ := inv.blk b d cells hc hφ
      obtain ⟨v, h1, h2⟩ := loadVar_sound (T := S.T) (w := w) (d := d) (o := 0) (fun i => us.getD i undef) (fun i hi => by
        rw [cell_of_heap hu, Nat.zero_add, Array.getElem?_eq_getElem (by omega)]
        simp [Array.getD, show i < us.size by omega]) (fun i hi => by
        have := hR i hi (by omega)
        simpa [Array.getD, show i < us.size by omega] using this) h
      rw [Nat.zero_add] at h1
      exact ⟨v, by simp only [hv, Sem.run_bind, asAddr_run, Result.andThen_ok]; exact h1, h2⟩

/-- values that stand for one another, side by side -/
inductive RSl (G : Gh) (T : List Nat) : List SV → List Value → Prop
  | nil : RSl G T [] []
  | cons {x v xs vs} : RS G T x v → RSl G T xs vs → RSl G T (x :: xs) (v :: vs)
theorem RSl.later {G' : Gh} {T T' : List Nat} (l : Later G T G' T') {xs : List SV} {vs : List Value} (h : RSl G T xs vs) : RSl G' T' xs vs := by
  induction h with
  | nil => exact .nil
  | cons h _ ih => exact .cons (h.later l) ih
theorem RSl.len {T : List Nat} {xs : List SV} {vs : List Value} (h : RSl G T xs vs) : xs.length = vs.length := by
  induction h with
  | nil => rfl
  | cons _ _ ih => simp [ih]
theorem RSl.at_ {T : List Nat} {xs : List SV} {vs : List Value} (h : RSl G T xs vs) : ∀ i (h1 : i < xs.length) (h2 : i < vs.length), RS G T xs[i] vs[i] := by
  induction h with
  | nil => intro i h1; simp at h1
  | cons h _ ih => intro i h1 h2; cases i with
    | zero => exact h
    | succ i => simpa using ih i (by simpa using h1) (by simpa using h2)

theorem results_list (inv : Inv c B w0 G S w) {env : Env} {a : Act} (he : EnvR G S.T env a) : ∀ (rs : List ResultVar) (vs : List SV), allSome (rs.map (c.result env S)) = some vs →
    ∃ us, (rs.mapM (fun r => match r with
      | .tmp t => (pure (a.tmps.getD t undef) : Sem Value)
      | .cell a' t => (do loadVar t (← asAddr (a.tmps.getD a' undef)) : Sem Value)) : Sem (List Value)).run c.P w = .ok us w ∧ RSl G S.T vs us := by
  intro rs
  induction rs with
  | nil => intro vs h; simp only [List.map_nil, allSome] at h; cases h; exact ⟨[], by simp, .nil⟩
  | cons r rs ih =>
    intro vs h
    simp only [List.map_cons] at h
    cases hr : c.result env S r with
    | none => rw [hr] at h; cases h
    | some x =>
      rw [hr] at h
      simp only [allSome, Option.map_eq_some_iff] at h
      obtain ⟨xs, hxs, rfl⟩ := h
      obtain ⟨us, h1, h2⟩ := ih xs hxs
      obtain ⟨v, h3, h4⟩ := result_sound inv he hr
      refine ⟨v :: us, ?_, .cons h4 h2⟩
      simp only [List.mapM_cons, Sem.run_bind, h3, Result.andThen_ok, h1, Sem.run_pure]

def oneOf (us : List Value) : Value := if h : us.toArray.size = 1 then us.toArray[0] else .tuple us.toArray

theorem results_sound (inv : Inv c B w0 G S w) {env : Env} {a : Act} (he : EnvR G S.T env a) {fn : Func} {vs : List SV} (h : allSome (fn.results.toList.map (c.result env S)) = some vs) :
    ∃ us, (results fn a.tmps).run c.P w = .ok (oneOf us) w ∧ RSl G S.T vs us := by
  obtain ⟨us, h1, h2⟩ := results_list inv he _ _ h
  refine ⟨us, ?_, h2⟩
  unfold results oneOf
  simp only [Array.mapM_eq_mapM_toList, Sem.run_bind, Sem.run_map]
  have : ((List.mapM (fun r => match r with
      | .tmp t => (pure (a.tmps.getD t undef) : Sem Value)
      | .cell a' t => (do loadVar t (← asAddr (a.tmps.getD a' undef)) : Sem Value)) fn.results.toList : Sem (List Value)).run c.P w) = .ok us w := h1
  erw [this]
  rfl

theorem RSl.tuple {T : List Nat} {xs : List SV} {us : List Value} (h : RSl G T xs us) : RS G T (.tup (xs.map (·.1)), .agg (xs.map (·.2))) (.tuple us.toArray) := by
  have hl := h.len
  refine ⟨.tup _ _ (by simpa using hl) fun i h1 h' => ?_, trivial, fun i h1 h' => ?_⟩
  · simp only [List.getElem_map]
    exact (h.at_ i (by simpa using h1) (by simpa using h')).1
  · have k := (h.at_ i (by simpa using h1) (by simpa using h')).2.1
    simp only [List.getElem_map]
    have e2 : (xs.map (·.2)).getD i Tag.no = (xs[i]'(by simpa using h1)).2 := by
      simp only [List.getD_eq_getElem?_getD, List.getElem?_map, List.getElem?_eq_getElem (show i < xs.length by simpa using h1), Option.map_some, Option.getD_some]
    rw [e2]
    simpa using k
theorem RSl.one {T : List Nat} {xs : List SV} {us : List Value} (h : RSl G T xs us) : RS G T (asOne xs) (oneOf us) := by
  have ht := h.tuple
  cases h with
  | nil =>
    have e : oneOf [] = .tuple ([] : List Value).toArray := dif_neg (by simp)
    rw [e]
    exact ht
  | cons h1 h2 =>
    cases h2 with
    | nil => simpa [oneOf, asOne] using h1
    | cons h3 h4 =>
      rename_i x u y v ys vs
      have e : oneOf (u :: v :: vs) = .tuple (u :: v :: vs).toArray := dif_neg (by simp)
      rw [e]
      exact ht

theorem Tag.low1_low {m id : Nat} (h : id < m) : (Tag.tok id).low m = true := by simp [Tag.low, Tag.low1, h]

/-- results leave the frame -/
theorem leaveTags_sound {n0 m0 : Nat} (inv : Inv c B w0 G S w) (hm : m0 ≤ S.T.length) (i1 : Inv c B w0 (G.cut n0 m0) ⟨S.H.take n0, S.T.take m0⟩ w) :
    ∀ (vs : List SV) (us : List Value), RSl G S.T vs us → (∀ x ∈ vs, x.1.low n0 = true) →
      ∃ G', Inv c B w0 G' ⟨S.H.take n0, S.T.take m0 ++ (leaveTags m0 S.T vs).2⟩ w ∧ Grows (G.cut n0 m0) (S.T.take m0) G' (S.T.take m0 ++ (leaveTags m0 S.T vs).2) ∧
        RSl G' (S.T.take m0 ++ (leaveTags m0 S.T vs).2) (leaveTags m0 S.T vs).1 us := by
  have hlen : (S.T.take m0).length = m0 := by simp; omega
  have hleno : (G.cut n0 m0).own.length = m0 := by rw [i1.lenO]; exact hlen
  have rest : ∀ {G' : Gh} {T' : List Nat} (_ : Mono (G.cut n0 m0) G') {xs : List SV} {us : List Value}, RSl G S.T xs us → (∀ x ∈ xs, x.1.low n0 = true) → RSl G' T' (xs.map (fun z => (z.1, Tag.no))) us := by
    intro G' T' m xs us h hl
    induction h with
    | nil => exact .nil
    | cons h _ ih => exact .cons (.no ((h.1.cut (hl _ (List.mem_cons_self ..))).mono m)) (ih fun x hx => hl x (List.mem_cons_of_mem _ hx))
  intro vs
  induction vs with
  | nil =>
    intro us h _
    cases h
    simp only [leaveTags, List.append_nil]
    exact ⟨_, i1, .refl _ _, .nil⟩
  | cons x xs ih =>
    intro us h hl
    cases h with
    | cons h1 h2 =>
      rename_i u us
      have hx := hl x (List.mem_cons_self ..)
      have hxs : ∀ y ∈ xs, y.1.low n0 = true := fun y hy => hl y (List.mem_cons_of_mem _ hy)
      have hR := h1.1.cut (m := m0) hx
      -- a tag that stays
      have stay : ∀ tg, leaveTag m0 S.T x = (tg, []) → RS (G.cut n0 m0) (S.T.take m0) (x.1, tg) u →
          ∃ G', Inv c B w0 G' ⟨S.H.take n0, S.T.take m0 ++ (leaveTags m0 S.T (x :: xs)).2⟩ w ∧ Grows (G.cut n0 m0) (S.T.take m0) G' (S.T.take m0 ++ (leaveTags m0 S.T (x :: xs)).2) ∧
            RSl G' (S.T.take m0 ++ (leaveTags m0 S.T (x :: xs)).2) (leaveTags m0 S.T (x :: xs)).1 (u :: us) := by
        intro tg e hrs
        have e2 : leaveTags m0 S.T (x :: xs) = ((x.1, tg) :: (leaveTags m0 S.T xs).1, (leaveTags m0 S.T xs).2) := by simp [leaveTags, e]
        rw [e2]
        obtain ⟨G', a1, a2, a3⟩ := ih us h2 hxs
        exact ⟨G', a1, a2, .cons (hrs.later a2.later) a3⟩
      -- a tag of the frame's own
      have fresh : ∀ (ow : Own), leaveTag m0 S.T x = (.tok m0, [ow.len]) → x.1.len = ow.len → (∀ b l k, u = .slice b l k → u = ow.val ∧ ∀ y ys, x.1 = .sl (y :: ys) → ow.sz = y.cells.length) → ow.ok →
          (ow.len < ow.cap → ∃ d o, ow.base = some ⟨d, o, none⟩ ∧ B.free d ∧ (∀ b : Nat, (G.cut n0 m0).φ[b]? ≠ some (some d)) ∧
            ∃ vs t fr, w.heap[d]? = some (.cells vs t fr) ∧ o + ow.cap * ow.sz ≤ vs.size ∧ ∀ i, o + ow.len * ow.sz ≤ i → ¬ (fr.1 ≤ i ∧ i < fr.2) ∧ (G.cut n0 m0).I d i = none) →
          (∀ (j : Nat) (oj : Own) (d o o' : Nat), (G.cut n0 m0).own[j]? = some oj → ow.len < ow.cap → oj.len < oj.cap → ow.base = some ⟨d, o, none⟩ → oj.base ≠ some ⟨d, o', none⟩) →
          ∃ G', Inv c B w0 G' ⟨S.H.take n0, S.T.take m0 ++ (leaveTags m0 S.T (x :: xs)).2⟩ w ∧ Grows (G.cut n0 m0) (S.T.take m0) G' (S.T.take m0 ++ (leaveTags m0 S.T (x :: xs)).2) ∧
            RSl G' (S.T.take m0 ++ (leaveTags m0 S.T (x :: xs)).2) (leaveTags m0 S.T (x :: xs)).1 (u :: us) := by
        intro ow e hlx hu hcap hsp hdis
        have e2 : leaveTags m0 S.T (x :: xs) = ((x.1, .tok m0) :: xs.map (fun z => (z.1, .no)), [ow.len]) := by simp [leaveTags, e]
        rw [e2]
        obtain ⟨a1, a2⟩ := i1.pushOwn ow hcap hsp hdis
        refine ⟨_, a1, a2, .cons ⟨hR.mono a2.mono, ⟨ow.len, ?_, Nat.le_of_eq hlx, fun _ b l k hv => ?_⟩, ?_⟩ (rest a2.mono h2 hxs)⟩
        · show (S.T.take m0 ++ [ow.len])[m0]? = _
          rw [List.getElem?_append_right (by omega), hlen]; simp
        · obtain ⟨k1, k2⟩ := hu b l k hv
          refine ⟨ow, ?_, k1, k2⟩
          show ((G.cut n0 m0).own ++ [ow])[m0]? = _
          rw [List.getElem?_append_right (by omega), hleno]; simp
        · split <;> first | trivial | (rename_i hh; cases hh)
      obtain ⟨y, tg⟩ := x
      simp only at hx hR
      by_cases c1 : ∃ ys, y = .sl ys
      · obtain ⟨ys, rfl⟩ := c1
        have hfull : ∃ base cap, u = .slice base ys.length cap ∧ ys.length ≤ cap := by
          have := h1.1
          cases this with
          | nils => exact ⟨none, 0, rfl, Nat.le_refl _⟩
          | sl _ _ cc o cap f hs hc hh hr h1' => exact ⟨_, cap, rfl, hc⟩
        obtain ⟨base, cap, rfl, hcap⟩ := hfull
        cases tg with
        | no => exact stay .no rfl (.no hR)
        | agg ts => exact stay .no rfl (.no hR)
        | full =>
          have hlc : ys.length = cap := h1.2.1 base ys.length cap rfl
          refine fresh ⟨base, ys.length, cap, headSz ys⟩ rfl rfl (fun b l k hv => ⟨rfl, fun y' ys' hy => by cases hy; rfl⟩) ⟨Nat.le_of_eq hlc, fun h => by simp only at h ⊢; omega⟩ (fun hlt => by simp only at hlt; omega) (fun j oj d o o' hj hlt => by simp only at hlt; omega)
        | tok id =>
          obtain ⟨⟨n, hn, hle, hown⟩, _⟩ := h1.2
          by_cases hid : id < m0
          · refine stay (.tok id) (by simp [leaveTag, hid]) ⟨hR, ?_⟩
            exact h1.2.cut (Tag.low1_low hid)
          · by_cases hT : S.T[id]? = some ys.length
            · rw [hT] at hn
              cases hn
              obtain ⟨ow, ho, hval, hsz⟩ := hown rfl base ys.length cap rfl
              obtain ⟨k1, k2, k3⟩ := inv.own id ow ho
              have hl2 : ow.len = ys.length := by rw [hT] at k1; exact (Option.some.inj k1).symm
              refine fresh ow (by simp [leaveTag, hid, hT, hl2]) hl2.symm (fun b l k hv => ⟨hval, hsz⟩) k2 (fun hlt => ?_) (fun j oj d o o' hj hlt hlt' hb => ?_)
              · obtain ⟨d, o, q1, q2, q3, q4⟩ := k3 hlt
                exact ⟨d, o, q1, q2, fun b hb => q3 b (take_some hb).2, q4⟩
              · obtain ⟨hj1, hj2⟩ := take_some hj
                exact inv.dis id j ow oj d o o' (by omega) ho hj2 hlt hlt' hb
            · exact stay .no (by simp [leaveTag, hid, hT]) (.no hR)
      · refine stay .no ?_ (.no hR)
        unfold leaveTag
        split
        · rename_i hh; cases hh; exact absurd ⟨_, rfl⟩ c1
        · rename_i hh; cases hh; exact absurd ⟨_, rfl⟩ c1
        · rfl

theorem leave_sound {n0 m0 : Nat} {G0 : Gh} {T0 : List Nat} (inv : Inv c B w0 G S w) (g : Grows G0 T0 G S.T) (hn : G0.φ.length = n0) (hm : T0.length = m0) (ht : TagsLow n0 m0 S) {vs : List SV} {us : List Value} (h : RSl G S.T vs us) :
    ∃ G', Inv c B w0 G' (leave n0 m0 S vs).2 w ∧ Grows G0 T0 G' (leave n0 m0 S vs).2.T ∧ OutR G' (leave n0 m0 S vs).2.T (leave n0 m0 S vs).1 (.returned (oneOf us)) := by
  unfold leave
  split
  · rename_i hl
    have hm' : m0 ≤ S.T.length := by rw [← hm]; exact g.len_T
    have i1 := inv.cut (n := n0) (m := m0) ht
    have g1 := g.cut (n := n0) (m := m0) (by omega) (by omega)
    obtain ⟨G', a1, a2, a3⟩ := leaveTags_sound inv hm' i1 vs us h (fun x hx => List.all_eq_true.1 hl x hx)
    exact ⟨G', a1, g1.trans a2, a3.one⟩
  · exact ⟨G, inv, g, h.one⟩
end
end Go.Ab
