import Derived.Test.YtdiphholophdcaaAbTop
set_option linter.unusedVariables false
set_option linter.unusedSimpArgs false
/- CODE OVER ABSTRACT STATES: rules, with forgetting. -/
namespace Go.Ab
open Go.RowKit

abbrev Post1 := Ex → Fr → St → Prop

/-- what is asked behind code -/
def PostH (c : Ctx) (B : Bd) (w0 : World) (G0 : Gh) (T0 : List Nat) (Q : Post1) (Q' : Exit → Act → World → Prop) : Prop :=
  ∀ ex fr S, Q ex fr S → ∀ G ex' a w, ExR G ex ex' → Inv c B w0 G S w → Grows G0 T0 G S.T → FrR G S.T fr a → TagsLow G0.φ.length T0.length S → Q' ex' a w

/-- the code, begun in this frame and state, comes to Q -/
def CodeH (c : Ctx) (n0 m0 : Nat) (k : Code) (fr : Fr) (S : St) (Q : Post1) : Prop :=
  ∀ B w0 G0 T0 G a w Q', G0.φ.length = n0 → T0.length = m0 → Inv c B w0 G S w → Grows G0 T0 G S.T → FrR G S.T fr a → TagsLow n0 m0 S → PostH c B w0 G0 T0 Q Q' → k.wp c.P Q' a w

section
variable {c : Ctx} {n0 m0 : Nat}

theorem CodeH.mono {k : Code} {fr : Fr} {S : St} {Q Q2 : Post1} (h : CodeH c n0 m0 k fr S Q) (hq : ∀ ex fr S, Q ex fr S → Q2 ex fr S) : CodeH c n0 m0 k fr S Q2 :=
  fun B w0 G0 T0 G a w Q' h1 h2 h3 h4 h5 h6 h7 => h B w0 G0 T0 G a w Q' h1 h2 h3 h4 h5 h6 fun ex fr S q => h7 ex fr S (hq ex fr S q)

theorem CodeH.skip {fr : Fr} {S : St} {Q : Post1} (h : Q .normal fr S) : CodeH c n0 m0 .skip fr S Q :=
  fun _ _ _ _ G a w _ h1 h2 h3 h4 h5 h6 h7 => wp_skip (h7 _ _ _ h G .normal a w trivial h3 h4 h5 (by rw [h1, h2]; exact h6))
theorem CodeH.label {l : Nat} {fr : Fr} {S : St} {Q : Post1} (h : Q .normal fr S) : CodeH c n0 m0 (.label l) fr S Q :=
  fun _ _ _ _ G a w _ h1 h2 h3 h4 h5 h6 h7 => wp_label (h7 _ _ _ h G .normal a w trivial h3 h4 h5 (by rw [h1, h2]; exact h6))
theorem CodeH.exit {l : Nat} {fr : Fr} {S : St} {Q : Post1} (h : Q (.exit l) fr S) : CodeH c n0 m0 (.exit l) fr S Q :=
  fun _ _ _ _ G a w _ h1 h2 h3 h4 h5 h6 h7 => wp_exit (h7 _ _ _ h G (.exit l) a w rfl h3 h4 h5 (by rw [h1, h2]; exact h6))
theorem CodeH.ret {fr : Fr} {S : St} {Q : Post1} (h : Q .ret fr S) : CodeH c n0 m0 .ret fr S Q :=
  fun _ _ _ _ G a w _ h1 h2 h3 h4 h5 h6 h7 => wp_ret (h7 _ _ _ h G .ret a w trivial h3 h4 h5 (by rw [h1, h2]; exact h6))

theorem CodeH.seq {x y : Code} {fr : Fr} {S : St} {Q : Post1} (h : CodeH c n0 m0 x fr S fun ex fr S => match ex with
    | .normal => CodeH c n0 m0 y fr S Q
    | ex => Q ex fr S) : CodeH c n0 m0 (.seq x y) fr S Q := by
  intro B w0 G0 T0 G a w Q' h1 h2 h3 h4 h5 h6 h7
  refine wp_seq (h B w0 G0 T0 G a w _ h1 h2 h3 h4 h5 h6 fun ex fr1 S1 hq G1 ex' a1 w1 hex i1 g1 f1 t1 => ?_)
  cases ex with
  | normal =>
    cases ex' <;> simp only [ExR] at hex
    exact hq B w0 G0 T0 G1 a1 w1 Q' h1 h2 i1 g1 f1 (by rw [← h1, ← h2]; exact t1) h7
  | _ =>
    cases ex' <;> simp only [ExR] at hex <;> exact h7 _ _ _ hq G1 _ a1 w1 hex i1 g1 f1 t1

theorem CodeH.cond {x : Operand} {p q : Code} {fr : Fr} {S : St} {Q : Post1} {t : Bool} (hx : (c.eval fr.env x).1 = .bool t)
    (h1 : t = true → CodeH c n0 m0 p fr S Q) (h2 : t = false → CodeH c n0 m0 q fr S Q) : CodeH c n0 m0 (.cond x p q) fr S Q := by
  intro B w0 G0 T0 G a w Q' k1 k2 k3 k4 k5 k6 k7
  have hr := (eval_sound k3 k5.env x).1
  rw [hx] at hr
  generalize hv : a.eval x = v at hr
  cases hr
  cases t with
  | true => exact wp_cond_true hv (h1 rfl B w0 G0 T0 G a w Q' k1 k2 k3 k4 k5 k6 k7)
  | false => exact wp_cond_false hv (h2 rfl B w0 G0 T0 G a w Q' k1 k2 k3 k4 k5 k6 k7)

theorem CodeH.block {id : Nat} {body : Code} {fr : Fr} {S : St} {Q : Post1} (h : CodeH c n0 m0 body fr S fun ex fr S => match ex with
    | .exit id' => if id' = id then Q .normal fr S else Q (.exit id') fr S
    | ex => Q ex fr S) : CodeH c n0 m0 (.block id body) fr S Q := by
  intro B w0 G0 T0 G a w Q' h1 h2 h3 h4 h5 h6 h7
  refine wp_block (h B w0 G0 T0 G a w _ h1 h2 h3 h4 h5 h6 fun ex fr1 S1 hq G1 ex' a1 w1 hex i1 g1 f1 t1 => ?_)
  cases ex with
  | exit i =>
    cases ex' <;> simp only [ExR] at hex
    subst hex
    simp only [Exit.inBlock]
    simp only at hq
    split at hq
    · rename_i hi; rw [if_pos hi]; exact h7 _ _ _ hq G1 .normal a1 w1 trivial i1 g1 f1 t1
    · rename_i hi; rw [if_neg hi]; exact h7 _ _ _ hq G1 _ a1 w1 rfl i1 g1 f1 t1
  | _ =>
    cases ex' <;> simp only [ExR] at hex <;> exact h7 _ _ _ hq G1 _ a1 w1 hex i1 g1 f1 t1

/-! ### forgetting -/
/-- y says no more than x -/
def Wk (x y : SV) : Prop := y = (.undef, .no) ∨ (y.1 = x.1 ∧ (y.2 = x.2 ∨ y.2 = .no))
theorem Wk.refl (x : SV) : Wk x x := .inr ⟨rfl, .inl rfl⟩
theorem RS.wk {G : Gh} {T : List Nat} {x y : SV} {v : Value} (h : RS G T x v) (k : Wk x y) : RS G T y v := by
  rcases k with rfl | ⟨h1, h2 | h2⟩
  · exact .no (.undef v)
  · obtain ⟨y1, y2⟩ := y
    simp only at h1 h2
    subst h1; subst h2
    exact h
  · obtain ⟨y1, y2⟩ := y
    simp only at h1 h2
    subst h1; subst h2
    exact .no h.1
inductive WkL : List SV → List SV → Prop
  | nil : WkL [] []
  | keep {x xs ys} (h : WkL xs ys) : WkL (x :: xs) (x :: ys)
  | drop {x xs ys} (h : WkL xs ys) : WkL (x :: xs) ((.undef, .no) :: ys)
  | plain {x t xs ys} (h : WkL xs ys) : WkL ((x, t) :: xs) ((x, .no) :: ys)
theorem WkL.refl : ∀ (xs : List SV), WkL xs xs
  | [] => .nil
  | _ :: xs => .keep (WkL.refl xs)
theorem WkL.len {xs ys : List SV} (h : WkL xs ys) : xs.length = ys.length := by induction h <;> simp_all
theorem WkL.at_ {xs ys : List SV} (h : WkL xs ys) : ∀ i (h1 : i < xs.length) (h2 : i < ys.length), Wk xs[i] ys[i] := by
  induction h with
  | nil => intro i h1; simp at h1
  | keep _ ih => intro i h1 h2; cases i with
    | zero => exact .refl _
    | succ i => simpa using ih i (by simpa using h1) (by simpa using h2)
  | drop _ ih => intro i h1 h2; cases i with
    | zero => exact .inl rfl
    | succ i => simpa using ih i (by simpa using h1) (by simpa using h2)
  | plain _ ih => intro i h1 h2; cases i with
    | zero => exact .inr ⟨rfl, .inr rfl⟩
    | succ i => simpa using ih i (by simpa using h1) (by simpa using h2)
theorem EnvR.wk {G : Gh} {T : List Nat} {env env' : Env} {a : Act} (h : EnvR G T env a) (k : WkL env env') : EnvR G T env' a :=
  ⟨by rw [← k.len]; exact h.len, fun i h1 h2 => (h.at_ i (by rw [k.len]; exact h1) h2).wk (k.at_ i _ h1)⟩

/-- this frame and state may be taken for those -/
def Wkn (c : Ctx) (n0 m0 : Nat) (fr : Fr) (S : St) (fr2 : Fr) (S2 : St) : Prop :=
  ∀ B w0 G0 T0 G a w, G0.φ.length = n0 → T0.length = m0 → Inv c B w0 G S w → Grows G0 T0 G S.T → FrR G S.T fr a → TagsLow n0 m0 S → ∃ G2, Inv c B w0 G2 S2 w ∧ Grows G0 T0 G2 S2.T ∧ FrR G2 S2.T fr2 a ∧ TagsLow n0 m0 S2
theorem Wkn.refl (fr : Fr) (S : St) : Wkn c n0 m0 fr S fr S := fun _ _ _ _ G _ _ _ _ h3 h4 h5 h6 => ⟨G, h3, h4, h5, h6⟩
theorem Wkn.trans {fr fr2 fr3 : Fr} {S S2 S3 : St} (h : Wkn c n0 m0 fr S fr2 S2) (k : Wkn c n0 m0 fr2 S2 fr3 S3) : Wkn c n0 m0 fr S fr3 S3 := by
  intro B w0 G0 T0 G a w h1 h2 h3 h4 h5 h6
  obtain ⟨G2, i3, i4, i5, i6⟩ := h B w0 G0 T0 G a w h1 h2 h3 h4 h5 h6
  exact k B w0 G0 T0 G2 a w h1 h2 i3 i4 i5 i6
theorem CodeH.wkn {k : Code} {fr fr2 : Fr} {S S2 : St} {Q : Post1} (hw : Wkn c n0 m0 fr S fr2 S2) (h : CodeH c n0 m0 k fr2 S2 Q) : CodeH c n0 m0 k fr S Q := by
  intro B w0 G0 T0 G a w Q' h1 h2 h3 h4 h5 h6 h7
  obtain ⟨G2, i3, i4, i5, i6⟩ := hw B w0 G0 T0 G a w h1 h2 h3 h4 h5 h6
  exact h B w0 G0 T0 G2 a w Q' h1 h2 i3 i4 i5 i6 h7
/-- the frame is known less well -/
theorem Wkn.frame {env env' : Env} {ds : List (FuncId × List SV)} {S : St} (hw : WkL env env') : Wkn c n0 m0 ⟨env, ds⟩ S ⟨env', ds⟩ S :=
  fun _ _ _ _ G _ _ _ _ h3 h4 h5 h6 => ⟨G, h3, h4, ⟨h5.env.wk hw, h5.ds⟩, h6⟩

/-- a block is known less well -/
theorem Inv.wkBlk {B : Bd} {w0 w : World} {G : Gh} {S : St} {b : Nat} {cells cells' : Blk} (inv : Inv c B w0 G S w) (hb : S.H[b]? = some cells) (hw : WkL cells cells') : Inv c B w0 G ⟨S.H.set b cells', S.T⟩ w := by
  have hlt : b < S.H.length := by
    rcases Nat.lt_or_ge b S.H.length with hl | hl
    · exact hl
    · rw [List.getElem?_eq_none hl] at hb; cases hb
  have get : ∀ (i : Nat) (cs : Blk), (S.H.set b cells')[i]? = some cs → (i = b ∧ cs = cells') ∨ S.H[i]? = some cs := by
    intro i cs h
    by_cases e : b = i
    · subst e; simp [hlt] at h; exact .inl ⟨rfl, h.symm⟩
    · rw [List.getElem?_set_ne e] at h; exact .inr h
  have wkm : ∀ x ∈ cells', x = (.undef, .no) ∨ ∃ y ∈ cells, x.1 = y.1 ∧ (x.2 = y.2 ∨ x.2 = .no) := by
    intro x hx
    obtain ⟨i, hi, rfl⟩ := List.getElem_of_mem hx
    have hi' : i < cells.length := by rw [hw.len]; exact hi
    rcases hw.at_ i hi' hi with h | ⟨h1, h2⟩
    · exact .inl h
    · exact .inr ⟨_, List.getElem_mem hi', h1, h2⟩
  exact {
    below := inv.below
    base := inv.base
    iD := inv.iD
    lenφ := by simp [inv.lenφ]
    lenO := inv.lenO
    inj := inv.inj
    low := fun i cs h x hx => by
      rcases get i cs h with ⟨rfl, rfl⟩ | h
      · rcases wkm x hx with rfl | ⟨y, hy, h1, _⟩
        · rfl
        · rw [h1]; exact inv.low _ _ hb y hy
      · exact inv.low i cs h x hx
    tag := fun i cs h x hx => by
      rcases get i cs h with ⟨rfl, rfl⟩ | h
      · rcases wkm x hx with rfl | ⟨y, hy, _, h2 | h2⟩
        · rfl
        · rw [h2]; exact inv.tag _ _ hb y hy
        · rw [h2]; rfl
      · exact inv.tag i cs h x hx
    blk := fun i d cs h hφ => by
      rcases get i cs h with ⟨rfl, rfl⟩ | h
      · obtain ⟨h1, vs, t, fr, h2, h3, h4, h5⟩ := inv.blk i d cells hb hφ
        refine ⟨h1, vs, t, fr, h2, by rw [← hw.len]; exact h3, fun o ho => h4 o (by rw [hw.len]; exact ho), fun j hj hj' => ?_⟩
        exact (h5 j (by rw [hw.len]; exact hj) hj').wk (hw.at_ j _ hj)
      · exact inv.blk i d cs h hφ
    imm := inv.imm
    own := inv.own
    dis := inv.dis
    glob := inv.glob }
theorem Wkn.blk {fr : Fr} {S : St} {b : Nat} {cells cells' : Blk} (hb : S.H[b]? = some cells) (hw : WkL cells cells') : Wkn c n0 m0 fr S fr ⟨S.H.set b cells', S.T⟩ :=
  fun _ _ _ _ G _ _ _ _ h3 h4 h5 h6 => ⟨G, h3.wkBlk hb hw, h4, h5, fun i cs hi hc x hx => by
    have hlt : b < S.H.length := by
      rcases Nat.lt_or_ge b S.H.length with hl | hl
      · exact hl
      · rw [List.getElem?_eq_none hl] at hb; cases hb
    by_cases e : b = i
    · subst e
      simp [hlt] at hc
      subst hc
      obtain ⟨j, hj, rfl⟩ := List.getElem_of_mem hx
      have hj' : j < cells.length := by rw [hw.len]; exact hj
      rcases hw.at_ j hj' hj with h | ⟨_, h2 | h2⟩
      · rw [h]; rfl
      · rw [h2]; exact h6 b cells hi hb _ (List.getElem_mem hj')
      · rw [h2]; rfl
    · rw [List.getElem?_set_ne e] at hc; exact h6 i cs hi hc x hx⟩

/-- blocks and tokens of the code's own are forgotten -/
theorem Wkn.cut {fr : Fr} {S : St} (n m : Nat) (hn : n0 ≤ n) (hm : m0 ≤ m) (hlow : ∀ x ∈ fr.env, x.1.low n = true ∧ x.2.low m = true) (hds : fr.ds = []) (ht : ∀ (b : Nat) (cells : Blk), n0 ≤ b → b < n → S.H[b]? = some cells → ∀ x ∈ cells, x.2.low m = true)
    : Wkn c n0 m0 fr S fr ⟨S.H.take n, S.T.take m⟩ := by
  intro B w0 G0 T0 G a w h1 h2 h3 h4 h5 h6
  have htl : TagsLow n m S := fun b cells hb hc x hx => by
    rcases Nat.lt_or_ge b n0 with hl | hl
    · exact Tag.low_mono hm (h6 b cells hl hc x hx)
    · exact ht b cells hl hb hc x hx
  refine ⟨G.cut n m, h3.cut htl, h4.cut (by omega) (by omega), ⟨⟨h5.env.len, fun i a1 a2 => ?_⟩, ?_⟩, fun b cells hb hc x hx => h6 b cells hb (take_some hc).2 x hx⟩
  · have hx := hlow _ (List.getElem_mem a1)
    exact (h5.env.at_ i a1 a2).cut hx.1 hx.2
  · have := h5.ds
    rw [hds] at this ⊢
    cases hd2 : a.defers with
    | nil => trivial
    | cons x xs => rw [hd2] at this; exact this.elim

/-- a slice without spare room gets a token -/
theorem Wkn.own {env : Env} {ds : List (FuncId × List SV)} {S : St} (i : Nat) {xs : List AV} (hi : env[i]? = some (.sl xs, .full)) : Wkn c n0 m0 ⟨env, ds⟩ S ⟨env.set i (.sl xs, .tok S.T.length), ds⟩ ⟨S.H, S.T ++ [xs.length]⟩ := by
  intro B w0 G0 T0 G a w h1 h2 h3 h4 h5 h6
  obtain ⟨hlt, hxe⟩ := List.getElem?_eq_some_iff.1 hi
  have hlt' : i < a.tmps.size := by rw [← h5.env.len]; exact hlt
  have hr := h5.env.at_ i hlt hlt'
  simp only at hr
  rw [hxe] at hr
  obtain ⟨base, hv⟩ : ∃ base, a.tmps[i] = .slice base xs.length xs.length := by
    have e1 := hr.1
    have e2 := hr.2.1
    generalize a.tmps[i] = v at e1 e2
    cases e1 with
    | nils => exact ⟨none, rfl⟩
    | sl sz _ cc oo cap f hs hc hI hR h1c =>
      have := e2 _ _ _ rfl
      exact ⟨some ⟨cc, oo, none⟩, by rw [← this]⟩
  obtain ⟨i1, g1⟩ := h3.pushOwn ⟨base, xs.length, xs.length, headSz xs⟩ ⟨Nat.le_refl _, fun e => e⟩ (fun hl => by simp only at hl; omega) (fun j oj d o o' hj hl => by simp only at hl; omega)
  refine ⟨_, i1, h4.trans g1, ⟨⟨by simp [h5.env.len], fun j a1 a2 => ?_⟩, h5.ds.mono g1.mono⟩, fun b cells hb hc x hx => h6 b cells hb hc x hx⟩
  simp only at a1 ⊢
  by_cases e : i = j
  · subst e
    simp only [List.getElem_set_self]
    rw [hv]
    refine ⟨(by rw [← hv]; exact hr.1.mono g1.mono), ⟨xs.length, ?_, Nat.le_refl _, fun _ b l cc hv' => ⟨⟨base, xs.length, xs.length, headSz xs⟩, ?_, ?_, fun y ys hy => ?_⟩⟩, trivial⟩
    · rw [List.getElem?_append_right (by omega)]; simp
    · show (G.own ++ _)[S.T.length]? = _
      rw [← h3.lenO]; simp
    · rfl
    · cases hy; rfl
  · rw [List.getElem_set_ne e]
    exact (h5.env.at_ j (by simpa using a1) a2).later g1.later

/-! ### loops -/
theorem rounds_more {P : Program} {body : Code} {Q : Exit → Act → World → Prop} : ∀ {n : Nat} {a : Act} {w : World}, Code.rounds P body Q n a w → Code.rounds P body Q (n + 1) a w := by
  intro n
  induction n with
  | zero => intro a w h; exact h.elim
  | succ n ih =>
    intro a w h
    rw [rounds_succ] at h ⊢
    refine wp_mono h fun e a w q => ?_
    cases e <;> first | exact ih q | exact q
theorem rounds_le {P : Program} {body : Code} {Q : Exit → Act → World → Prop} {n m : Nat} (h : n ≤ m) {a : Act} {w : World} (hr : Code.rounds P body Q n a w) : Code.rounds P body Q m a w := by
  induction h with
  | refl => exact hr
  | step _ ih => exact rounds_more ih
/-- A LOOP: what holds at each round's head, with a measure that falls -/
theorem CodeH.loop {body : Code} {Q : Post1} (I : Nat → Fr → St → Prop) (hstep : ∀ m fr S, I m fr S → CodeH c n0 m0 body fr S fun ex fr' S' => match ex with
      | .normal => ∃ m' fr2 S2, m' < m ∧ Wkn c n0 m0 fr' S' fr2 S2 ∧ I m' fr2 S2
      | ex => Q ex fr' S') {m : Nat} {fr : Fr} {S : St} (h0 : I m fr S) : CodeH c n0 m0 (.loop body) fr S Q := by
  have key : ∀ m fr S, I m fr S → ∀ B w0 G0 T0 G a w Q', G0.φ.length = n0 → T0.length = m0 → Inv c B w0 G S w → Grows G0 T0 G S.T → FrR G S.T fr a → TagsLow n0 m0 S → PostH c B w0 G0 T0 Q Q' → Code.rounds c.P body Q' (m + 1) a w := by
    intro m
    induction m using Nat.strongRecOn with
    | _ m ih =>
      intro fr S hI B w0 G0 T0 G a w Q' h1 h2 h3 h4 h5 h6 h7
      rw [rounds_succ]
      refine hstep m fr S hI B w0 G0 T0 G a w _ h1 h2 h3 h4 h5 h6 fun ex fr1 S1 hq G1 ex' a1 w1 hex i1 g1 f1 t1 => ?_
      cases ex with
      | normal =>
        cases ex' <;> simp only [ExR] at hex
        obtain ⟨m', fr2, S2, hlt, hw, hI2⟩ := hq
        obtain ⟨G2, j3, j4, j5, j6⟩ := hw B w0 G0 T0 G1 a1 w1 h1 h2 i1 g1 f1 (by rw [← h1, ← h2]; exact t1)
        exact rounds_le (by omega) (ih m' hlt fr2 S2 hI2 B w0 G0 T0 G2 a1 w1 Q' h1 h2 j3 j4 j5 j6 h7)
      | _ =>
        cases ex' <;> simp only [ExR] at hex <;> exact h7 _ _ _ hq G1 _ a1 w1 hex i1 g1 f1 t1
  intro B w0 G0 T0 G a w Q' h1 h2 h3 h4 h5 h6 h7
  exact wp_loop_rounds (m + 1) (key m fr S h0 B w0 G0 T0 G a w Q' h1 h2 h3 h4 h5 h6 h7)

/-- at the end less may be known than was shown -/
theorem CodeH.less {k : Code} {fr : Fr} {S : St} {Q : Post1} (h : CodeH c n0 m0 k fr S fun ex fr' S' => match ex with
    | .panic v => Q (.panic v) fr' S'
    | ex => ∃ fr2 S2, Wkn c n0 m0 fr' S' fr2 S2 ∧ Q ex fr2 S2) : CodeH c n0 m0 k fr S Q := by
  intro B w0 G0 T0 G a w Q' h1 h2 h3 h4 h5 h6 h7
  refine h B w0 G0 T0 G a w Q' h1 h2 h3 h4 h5 h6 fun ex fr1 S1 hq G1 ex' a1 w1 hex i1 g1 f1 t1 => ?_
  cases ex with
  | panic v => exact h7 _ _ _ hq G1 ex' a1 w1 hex i1 g1 f1 t1
  | _ =>
    obtain ⟨fr2, S2, hw, hq2⟩ := hq
    obtain ⟨G2, j3, j4, j5, j6⟩ := hw B w0 G0 T0 G1 a1 w1 h1 h2 i1 g1 f1 (by rw [← h1, ← h2]; exact t1)
    cases ex' <;> simp only [ExR] at hex <;> exact h7 _ _ _ hq2 G2 _ a1 w1 (by first | exact hex | trivial | (simp only [ExR]; done) | (simp only [ExR]; exact hex)) j3 j4 j5 (by rw [h1, h2]; exact j6)
/-- a loop's rule where less may be known at the end -/
theorem CodeH.loopW {body : Code} {Q : Post1} (I : Nat → Fr → St → Prop) (hstep : ∀ m fr S, I m fr S → CodeH c n0 m0 body fr S fun ex fr' S' => match ex with
      | .normal => ∃ m' fr2 S2, m' < m ∧ Wkn c n0 m0 fr' S' fr2 S2 ∧ I m' fr2 S2
      | .panic v => Q (.panic v) fr' S'
      | ex => ∃ fr2 S2, Wkn c n0 m0 fr' S' fr2 S2 ∧ Q ex fr2 S2) {m : Nat} {fr : Fr} {S : St} (h0 : I m fr S) : CodeH c n0 m0 (.loop body) fr S Q :=
  CodeH.less (CodeH.loop (Q := fun ex fr' S' => match ex with | .panic v => Q (.panic v) fr' S' | ex => ∃ fr2 S2, Wkn c n0 m0 fr' S' fr2 S2 ∧ Q ex fr2 S2) I (fun m fr S hI => (hstep m fr S hI).mono fun ex fr S hq => match ex with
    | .normal => hq | .panic _ => hq | .exit _ => hq | .ret => hq) h0)

/-! ### regions -/
theorem CodeH.region {e : Env0} (he : e.c = c) (hm : c.P.follows .mixedOrders = true) (hcall : CallSound c e.call) (htags : CallTags e.call) (hn : e.n0 = n0) {id : Nat} {ops : Array Oper} {draw : Bool} {fr : Fr} {S : St} {r : Ex × Fr × St} {Q : Post1}
    (h : e.region ops draw fr S = some r) (hq : Q r.1 r.2.1 r.2.2) : CodeH c n0 m0 (.region id ops draw) fr S Q := by
  intro B w0 G0 T0 G a w Q' h1 h2 h3 h4 h5 h6 h7
  have hlen : n0 ≤ S.H.length := by rw [← h1, ← h3.lenφ]; exact len_le_of h4.φ
  have hst := region_steps htags (hn ▸ hlen) h
  have hpost : Post c B w0 G S.T r Q' := fun G' ex' a' w' k1 k2 k3 k4 =>
    h7 _ _ _ hq G' ex' a' w' k1 k2 (h4.trans k3) k4 (by rw [h1, h2]; exact hst.tags _ _ (Nat.le_of_eq hn.symm) h6)
  cases draw with
  | false => exact region_sound he hcall h h3 h5 hpost
  | true =>
    simp only [Env0.region, if_true] at h
    exact draws_sound he hm hcall id ops fr S r a w G Q' h h3 h5 hpost
end
end Go.Ab
