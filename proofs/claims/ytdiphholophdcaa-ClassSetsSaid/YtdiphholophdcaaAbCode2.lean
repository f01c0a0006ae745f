import Derived.Test.YtdiphholophdcaaAbTags2
import Derived.LoopN
set_option linter.unusedVariables false
set_option linter.unusedSimpArgs false
/- CODE: loops, blocks, branches. -/
namespace Go.Ab
open Go.RowKit

theorem Tag.low1_of_max {t : Tag} {m : Nat} (h : t.max1 ≤ m) : t.low1 m = true := by
  cases t with
  | tok id => simp only [Tag.max1] at h; simp only [Tag.low1, decide_eq_true_eq]; omega
  | _ => rfl
theorem foldl_max1 (ts : List Tag) : ∀ k, k ≤ ts.foldl (fun m t => max m t.max1) k ∧ ∀ t ∈ ts, t.max1 ≤ ts.foldl (fun m t => max m t.max1) k := by
  induction ts with
  | nil => intro k; exact ⟨Nat.le_refl _, fun _ h => by cases h⟩
  | cons t ts ih =>
    intro k
    simp only [List.foldl_cons]
    obtain ⟨h1, h2⟩ := ih (max k t.max1)
    refine ⟨by omega, fun x hx => ?_⟩
    rcases List.mem_cons.1 hx with rfl | hx
    · omega
    · exact h2 x hx
theorem Tag.low_of_max {t : Tag} {m : Nat} (h : t.maxTok ≤ m) : t.low m = true := by
  cases t with
  | agg ts =>
    simp only [Tag.maxTok] at h
    simp only [Tag.low, List.all_eq_true]
    exact fun x hx => Tag.low1_of_max (Nat.le_trans ((foldl_max1 ts 0).2 x hx) h)
  | tok id => exact Tag.low1_of_max (t := .tok id) h
  | _ => rfl
theorem maxTok_le (l : List SV) : ∀ m, m ≤ maxTok l m ∧ ∀ x ∈ l, x.2.maxTok ≤ maxTok l m := by
  induction l with
  | nil => intro m; exact ⟨Nat.le_refl _, fun _ h => by cases h⟩
  | cons t ts ih =>
    intro m
    unfold maxTok at *
    simp only [List.foldl_cons]
    obtain ⟨h1, h2⟩ := ih (max m t.2.maxTok)
    refine ⟨by omega, fun x hx => ?_⟩
    rcases List.mem_cons.1 hx with rfl | hx
    · omega
    · exact h2 x hx
theorem maxBlk_le (ls : List Blk) : ∀ m, m ≤ ls.foldl (fun m b => maxTok b m) m ∧ ∀ b ∈ ls, ∀ x ∈ b, x.2.maxTok ≤ ls.foldl (fun m b => maxTok b m) m := by
  induction ls with
  | nil => intro m; exact ⟨Nat.le_refl _, fun _ h => by cases h⟩
  | cons t ts ih =>
    intro m
    simp only [List.foldl_cons]
    obtain ⟨h1, h2⟩ := ih (maxTok t m)
    obtain ⟨k1, k2⟩ := maxTok_le t m
    refine ⟨by omega, fun b hb x hx => ?_⟩
    rcases List.mem_cons.1 hb with rfl | hb
    · exact Nat.le_trans (k2 x hx) h1
    · exact h2 b hb x hx

theorem tidyEnv_len (n : Nat) : ∀ (es fs : Env), (tidyEnv n es fs).length = fs.length := by
  intro es fs
  induction fs generalizing es with
  | nil => cases es <;> rfl
  | cons f fs ih => cases es with
    | nil => simp [tidyEnv, ih]
    | cons e es => simp [tidyEnv, ih]
/-- what a slot holds behind a round: what it held, or nothing -/
theorem tidyEnv_at (n : Nat) (fs : Env) : ∀ (es : Env) (i : Nat) (h : i < (tidyEnv n es fs).length) (h' : i < fs.length), (tidyEnv n es fs)[i] = (.undef, .no) ∨ (tidyEnv n es fs)[i] = SV.low' n fs[i] := by
  induction fs with
  | nil => intro es i h h'; simp at h'
  | cons f fs ih =>
    intro es i h h'
    cases i with
    | zero =>
      cases es with
      | nil => right; simp [tidyEnv]
      | cons e es =>
        simp only [tidyEnv, List.getElem_cons_zero]
        split
        · exact .inl rfl
        · exact .inr rfl
    | succ i =>
      have hl : i < fs.length := by simpa using h'
      cases es with
      | nil =>
        simp only [tidyEnv, List.getElem_cons_succ]
        exact ih [] i (by rw [tidyEnv_len]; exact hl) hl
      | cons e es =>
        simp only [tidyEnv, List.getElem_cons_succ]
        exact ih es i (by rw [tidyEnv_len]; exact hl) hl

theorem Grows.len_T {G G' : Gh} {T T' : List Nat} (g : Grows G T G' T') : T.length ≤ T'.length := by
  rcases Nat.lt_or_ge T'.length T.length with hl | hl
  · obtain ⟨n', h1, _⟩ := g.T T'.length T[T'.length] (List.getElem?_eq_getElem hl)
    rw [List.getElem?_eq_none (Nat.le_refl _)] at h1
    cases h1
  · exact hl

section
variable {c : Ctx} {B : Bd} {w0 : World}

/-- the invariants of a frame -/
structure Fit (e : Env0) (S : St) : Prop where
  n : e.n0 ≤ S.H.length
  m : e.m0 ≤ S.T.length
  tags : TagsLow e.n0 e.m0 S
theorem Fit.step {e : Env0} {S S' : St} (f : Fit e S) (s : Steps1 e.n0 S S') (hT : S.T.length ≤ S'.T.length) : Fit e S' := ⟨Nat.le_trans f.n s.len, Nat.le_trans f.m hT, s.tags _ _ (Nat.le_refl _) f.tags⟩

theorem RS.low' {G : Gh} {T : List Nat} {n M : Nat} {x : SV} {v : Value} (h : RS G T x v) (hk : KeepsT G T n M (SV.low' n x)) : RS (G.cut n M) (T.take M) (SV.low' n x) v := by
  unfold SV.low' at *
  split
  · rename_i hx
    simp only [hx, if_true] at hk
    exact ⟨h.1.cut hx, hk v h.2⟩
  · exact .no (.undef v)

theorem tidy_sound {e : Env0} {env0 : Env} {G0 G : Gh} {S0 S : St} {fr : Fr} {w : World} {a : Act} (i0 : G0.φ.length = S0.H.length) (inv : Inv c B w0 G S w) (g : Grows G0 S0.T G S.T) (hfr : FrR G S.T fr a) (hfit : Fit e S0) (hfit' : Fit e S) :
    ∃ G', Inv c B w0 G' (e.tidy env0 S0 fr S).2 w ∧ Grows G0 S0.T G' (e.tidy env0 S0 fr S).2.T ∧ FrR G' (e.tidy env0 S0 fr S).2.T (e.tidy env0 S0 fr S).1 a := by
  have main : ∀ M, S0.T.length ≤ M → (∀ x ∈ tidyEnv S0.H.length env0 fr.env, KeepsT G S.T S0.H.length M x) →
      (∀ (b : Nat) (cells : Blk), e.n0 ≤ b → b < S0.H.length → S.H[b]? = some cells → ∀ x ∈ cells, x.2.low M = true) →
      Inv c B w0 (G.cut S0.H.length M) ⟨S.H.take S0.H.length, S.T.take M⟩ w ∧ Grows G0 S0.T (G.cut S0.H.length M) (S.T.take M) ∧
        FrR (G.cut S0.H.length M) (S.T.take M) (e.tidy env0 S0 fr S).1 a := by
    intro M hM henv hblk
    refine ⟨inv.cut fun b cells hb hc x hx => ?_, g.cut (by omega) hM, ⟨⟨by simp [Env0.tidy, tidyEnv_len, hfr.env.len], fun i h h' => ?_⟩, ?_⟩⟩
    · rcases Nat.lt_or_ge b e.n0 with hl | hl
      · have := hfit'.tags b cells hl hc x hx
        exact Tag.low_mono (by have := hfit.m; omega) this
      · exact hblk b cells hl hb hc x hx
    · simp only [Env0.tidy] at h ⊢
      have hl : i < fr.env.length := by rw [tidyEnv_len] at h; exact h
      have hk := henv _ (List.getElem_mem h)
      rcases tidyEnv_at S0.H.length fr.env env0 i h hl with e1 | e1
      · rw [e1]; exact .no (.undef _)
      · rw [e1] at hk ⊢
        exact (hfr.env.at_ i hl h').low' hk
    · simp only [Env0.tidy]
      have hd := hfr.ds
      generalize fr.ds = xs at hd
      generalize a.defers = ds at hd
      induction xs generalizing ds with
      | nil => cases ds with
        | nil => trivial
        | cons => exact hd.elim
      | cons x xs ih => cases ds with
        | nil => exact hd.elim
        | cons d ds =>
          refine ⟨?_, ih _ hd.2⟩
          obtain ⟨cap, h1, h2, h3⟩ := hd.1
          refine ⟨cap, h1, by simpa using h2, fun i h h' => ?_⟩
          simp only [List.length_map] at h
          simp only [List.getElem_map]
          obtain ⟨r1, r2⟩ := h3 i h h'
          unfold SV.low'
          split
          · rename_i hx; exact ⟨r1.cut hx, r2⟩
          · exact ⟨.undef _, rfl⟩
  have hT : (e.tidy env0 S0 fr S).2 = ⟨S.H.take S0.H.length, tidyT S0.T.length S.T (tidyEnv S0.H.length env0 fr.env) ((S.H.take S0.H.length).drop e.n0)⟩ := rfl
  rw [hT]
  unfold tidyT
  split
  · rename_i hl
    have := main S.T.length (by omega) (fun x _ => keeps_all inv.lenO) (fun b cells _ _ hc x hx => inv.tag b cells hc x hx)
    rw [List.take_length] at this
    exact ⟨_, this⟩
  · have h1 := maxTok_le (tidyEnv S0.H.length env0 fr.env) S0.T.length
    have h2 := maxBlk_le ((S.H.take S0.H.length).drop e.n0) (maxTok (tidyEnv S0.H.length env0 fr.env) S0.T.length)
    refine ⟨_, main _ (Nat.le_trans h1.1 h2.1) (fun x hx => keeps_of_low (Tag.low_of_max (Nat.le_trans (h1.2 x hx) h2.1))) (fun b cells hb hb' hc x hx => Tag.low_of_max (h2.2 cells ?_ x hx))⟩
    refine List.mem_of_getElem? (i := b - e.n0) ?_
    rw [List.getElem?_drop, List.getElem?_take]
    rw [show e.n0 + (b - e.n0) = b by omega, if_pos hb']
    exact hc

/-- A REGION WHOSE ORDER IS OPEN. -/
def DrawSound (c : Ctx) (B : Bd) (w0 : World) (e : Env0) : Prop := ∀ (id : Nat) (ops : Array Oper) (fr : Fr) (S : St) (r : Ex × Fr × St) (a : Act) (w : World) (G : Gh) (Q : Exit → Act → World → Prop),
  e.draws ops fr S = some r → Inv c B w0 G S w → FrR G S.T fr a → Post c B w0 G S.T r Q → (Code.region id ops true).wp c.P Q a w

theorem post_of {G : Gh} {T : List Nat} {r : Ex × Fr × St} {Q Q' : Exit → Act → World → Prop} (h : Post c B w0 G T r Q)
    (hq : ∀ G' ex a' w', ExR G' r.1 ex → Inv c B w0 G' r.2.2 w' → Grows G T G' r.2.2.T → FrR G' r.2.2.T r.2.1 a' → Q ex a' w' → Q' ex a' w') : Post c B w0 G T r Q' :=
  fun G' ex a' w' h1 h2 h3 h4 => hq G' ex a' w' h1 h2 h3 h4 (h G' ex a' w' h1 h2 h3 h4)

theorem dropped_sound {G : Gh} {T : List Nat} {fr : Fr} {a : Act} (ts : List Tmp) (h : FrR G T fr a) : FrR G T (dropped ts fr) a := by
  refine ⟨?_, h.ds⟩
  have he := h.env
  simp only [dropped]
  generalize fr.env = env at he
  induction ts generalizing env with
  | nil => exact he
  | cons t ts ih =>
    refine ih (env.set t (.undef, .no)) ⟨by simp [he.len], fun i h1 h2 => ?_⟩
    simp only [List.length_set] at h1
    by_cases e : t = i
    · subst e; simp; exact .no (.undef _)
    · rw [List.getElem_set_ne e]; exact he.at_ i h1 h2

theorem code_sound {e : Env0} (he : e.c = c) (hcall : CallSound c e.call) (htags : CallTags e.call) (hd : DrawSound c B w0 e) (fuel : Nat) :
    ∀ (k : Code) (fr : Fr) (S : St) (r : Ex × Fr × St) (a : Act) (w : World) (G : Gh) (Q : Exit → Act → World → Prop), e.code fuel k fr S = some r → Inv c B w0 G S w → FrR G S.T fr a → Fit e S → Post c B w0 G S.T r Q → k.wp c.P Q a w := by
  intro k
  induction k with
  | skip => intro fr S r a w G Q h inv hfr hfit hq; simp only [Env0.code] at h; cases h; exact wp_skip (hq G .normal a w trivial inv (.refl _ _) hfr)
  | label => intro fr S r a w G Q h inv hfr hfit hq; simp only [Env0.code] at h; cases h; exact wp_label (hq G .normal a w trivial inv (.refl _ _) hfr)
  | exit id => intro fr S r a w G Q h inv hfr hfit hq; simp only [Env0.code] at h; cases h; exact wp_exit (hq G (.exit id) a w rfl inv (.refl _ _) hfr)
  | ret => intro fr S r a w G Q h inv hfr hfit hq; simp only [Env0.code] at h; cases h; exact wp_ret (hq G .ret a w trivial inv (.refl _ _) hfr)
  | region id ops draw =>
    intro fr S r a w G Q h inv hfr hfit hq
    simp only [Env0.code, Option.map_eq_some_iff] at h
    obtain ⟨q, h, rfl⟩ := h
    have hq' : Post c B w0 G S.T q Q := fun G' ex a' w' h1 h2 h3 h4 => hq G' ex a' w' h1 h2 h3 (dropped_sound _ h4)
    cases draw with
    | false => exact region_sound he hcall h inv hfr hq'
    | true =>
      simp only [Env0.region, if_true] at h
      exact hd id ops fr S q a w G Q h inv hfr hq'
  | seq x y ihx ihy =>
    intro fr S r a w G Q h inv hfr hfit hq
    simp only [Env0.code] at h
    cases hx : e.code fuel x fr S with
    | none => rw [hx] at h; cases h
    | some q =>
      have hst := code_steps htags fuel x fr S q hfit.n hx
      rw [hx] at h
      refine wp_seq (ihx fr S q a w G _ hx inv hfr hfit fun G' ex a' w' hex i' g' f' => ?_)
      obtain ⟨ex1, fr1, S1⟩ := q
      cases ex1 with
      | normal =>
        simp only at h
        cases ex <;> simp only [ExR] at hex
        exact ihy fr1 S1 r a' w' G' Q h i' f' (hfit.step hst g'.len_T) (hq.trans g')
      | _ =>
        simp only at h; cases h
        cases ex <;> simp only [ExR] at hex <;> exact hq G' _ a' w' hex i' g' f'
  | cond x p q ihp ihq =>
    intro fr S r a w G Q h inv hfr hfit hq
    simp only [Env0.code, he] at h
    have hx := (eval_sound inv hfr.env x).1
    generalize hv : a.eval x = v at hx
    split at h
    · rename_i hb; rw [hb] at hx; cases hx; exact wp_cond_true hv (ihp fr S r a w G Q h inv hfr hfit hq)
    · rename_i hb; rw [hb] at hx; cases hx; exact wp_cond_false hv (ihq fr S r a w G Q h inv hfr hfit hq)
    · cases h
  | block id body ih =>
    intro fr S r a w G Q h inv hfr hfit hq
    simp only [Env0.code] at h
    cases hx : e.code fuel body fr S with
    | none => rw [hx] at h; cases h
    | some q =>
      rw [hx] at h
      refine wp_block (ih fr S q a w G _ hx inv hfr hfit fun G' ex a' w' hex i' g' f' => ?_)
      obtain ⟨ex1, fr1, S1⟩ := q
      cases ex1 with
      | exit i =>
        simp only at h
        cases ex <;> simp only [ExR] at hex
        subst hex
        simp only [Exit.inBlock]
        split at h
        · rename_i hi; cases h; rw [if_pos hi]; exact hq G' .normal a' w' trivial i' g' f'
        · rename_i hi; cases h; rw [if_neg hi]; exact hq G' _ a' w' rfl i' g' f'
      | _ =>
        simp only at h; cases h
        cases ex <;> simp only [ExR] at hex <;> exact hq G' _ a' w' hex i' g' f'
  | loop body ih =>
    intro fr S r a w G Q h inv hfr hfit hq
    simp only [Env0.code] at h
    refine wp_loop_rounds fuel ?_
    have key : ∀ (k : Nat) (fr1 : Fr) (S1 : St) (a1 : Act) (w1 : World) (G1 : Gh), iter (fun fr S => e.code fuel body fr S) (e.tidy fr.env S) k fr1 S1 = some r → Inv c B w0 G1 S1 w1 → Grows G S.T G1 S1.T → FrR G1 S1.T fr1 a1 → Fit e S1 →
        Code.rounds c.P body Q k a1 w1 := by
      intro k
      induction k with
      | zero => intro fr1 S1 a1 w1 G1 h1; cases h1
      | succ k ihk =>
        intro fr1 S1 a1 w1 G1 h1 i1 g1 f1 fit1
        simp only [iter] at h1
        cases hx : e.code fuel body fr1 S1 with
        | none => rw [hx] at h1; cases h1
        | some q =>
          have hst := code_steps htags fuel body fr1 S1 q fit1.n hx
          rw [hx] at h1
          refine ih fr1 S1 q a1 w1 G1 _ hx i1 f1 fit1 fun G' ex a' w' hex i' g' f' => ?_
          obtain ⟨ex1, fr2, S2⟩ := q
          cases ex1 with
          | normal =>
            simp only at h1
            cases ex <;> simp only [ExR] at hex
            have fit2 : Fit e S2 := fit1.step hst g'.len_T
            obtain ⟨G3, i3, g3, f3⟩ := tidy_sound (env0 := fr.env) inv.lenφ i' (g1.trans g') f' hfit fit2
            refine ihk _ _ a' w' G3 h1 i3 g3 f3 ⟨?_, Nat.le_trans hfit.m g3.len_T, ?_⟩
            · have := fit2.n
              have := hfit.n
              simp [Env0.tidy]; omega
            · intro b cells hb hc
              simp only [Env0.tidy] at hc
              exact fit2.tags b cells hb (take_some hc).2
          | _ =>
            simp only at h1; cases h1
            cases ex <;> simp only [ExR] at hex <;> exact hq G' _ a' w' hex i' (g1.trans g') f'
    exact key fuel fr S a w G h inv (.refl _ _) hfr hfit
  | rangeFunc => intro fr S r a w G Q h; simp [Env0.code] at h
  | scope => intro fr S r a w G Q h; simp [Env0.code] at h
  | goto => intro fr S r a w G Q h; simp [Env0.code] at h
  | refuse => intro fr S r a w G Q h; simp [Env0.code] at h
end
end Go.Ab
