import Derived.Test.YtdiphholophdcaaAbW3
set_option linter.unusedVariables false
set_option linter.unusedSimpArgs false
/- CONDITIONS OF CODE; A FUNCTION MEETS ITS CONTRACT. -/
namespace Go.Ab
open Go.RowKit

theorem wk_set : ∀ (env : List SV) (t : Nat), WkL env (env.set t (.undef, .no))
  | [], _ => .nil
  | _ :: xs, 0 => .drop (WkL.refl xs)
  | _ :: xs, t + 1 => .keep (wk_set xs t)
theorem WkL.trans {xs ys zs : List SV} (h : WkL xs ys) (k : WkL ys zs) : WkL xs zs := by
  induction h generalizing zs with
  | nil => exact k
  | keep h ih =>
    cases k with
    | keep k => exact .keep (ih k)
    | drop k => exact .drop (ih k)
    | plain k => exact .plain (ih k)
  | drop h ih =>
    cases k with
    | keep k => exact .drop (ih k)
    | drop k => exact .drop (ih k)
    | plain k => exact .drop (ih k)
  | plain h ih =>
    cases k with
    | keep k => exact .plain (ih k)
    | drop k => exact .drop (ih k)
    | plain k => exact .plain (ih k)
theorem wk_dropped (ts : List Tmp) : ∀ (env : List SV), WkL env (ts.foldl (fun env t => env.set t (.undef, .no)) env) := by
  induction ts with
  | nil => intro env; exact WkL.refl _
  | cons t ts ih => intro env; exact (wk_set env t).trans (ih _)

/-- a value of this kind -/
def CK.has : CK → AV → Bool
  | .int k, .int j _ => decide (j = k)
  | .bool, .bool _ => true
  | .str, .str _ => true
  | .sl, .sl _ => true
  | _, _ => false
/-- some slots of a region's end: their values under new names -/
def openJ : List (Tmp × CK) → Env → List AV → (List AV → Env → Prop) → Prop
  | [], env, acc, K => K acc.reverse env
  | (t, .int k) :: r, env, acc, K => ∀ n : Int, openJ r (env.set t (.int k n, .no)) (.int k n :: acc) K
  | (t, .bool) :: r, env, acc, K => ∀ b : Bool, openJ r (env.set t (.bool b, .no)) (.bool b :: acc) K
  | (t, .str) :: r, env, acc, K => ∀ s : List UInt8, openJ r (env.set t (.str s, .no)) (.str s :: acc) K
  | (t, .sl) :: r, env, acc, K => ∀ xs : List AV, openJ r (env.set t (.sl xs, .no)) (.sl xs :: acc) K
  | (_, .other) :: r, env, acc, K => openJ r env acc K
/-- what a region may have written is forgotten -/
def forgotten (ops : List Oper) (env : Env) : Env := ops.foldl (fun env o => match o.dst with | some d => env.set d (.undef, .no) | none => env) env
def slotsHave (js : List (Tmp × CK)) (env : Env) : Bool := js.all fun j => j.2.has (env.getD j.1 (.undef, .no)).1
def slotsOf (js : List (Tmp × CK)) (env : Env) : List AV := js.map fun j => (env.getD j.1 (.undef, .no)).1

theorem openJ_sound (act : Env) : ∀ (js : List (Tmp × CK)) (env : Env) (acc : List AV) (K : List AV → Env → Prop), slotsHave js act = true → openJ js env acc K →
    K (acc.reverse ++ slotsOf js act) (js.foldl (fun env j => env.set j.1 ((act.getD j.1 (.undef, .no)).1, .no)) env) := by
  intro js
  induction js with
  | nil => intro env acc K _ h; simp only [openJ] at h; simpa [slotsOf] using h
  | cons j js ih =>
    intro env acc K hs h
    obtain ⟨t, k⟩ := j
    simp only [slotsHave, List.all_cons, Bool.and_eq_true] at hs
    have e : ∀ v : AV, (act.getD t (.undef, .no)).1 = v → openJ js (env.set t (v, .no)) (v :: acc) K →
        K (acc.reverse ++ slotsOf ((t, k) :: js) act) (((t, k) :: js).foldl (fun env j => env.set j.1 ((act.getD j.1 (.undef, .no)).1, .no)) env) := by
      intro v hv h
      have := ih _ _ K hs.2 h
      simp only [List.foldl_cons, hv, slotsOf, List.map_cons]
      simpa [slotsOf] using this
    generalize hv : (act.getD t (.undef, .no)).1 = v at hs
    cases k with
    | int k =>
      cases v <;> simp [CK.has] at hs
      obtain ⟨rfl, _⟩ := hs
      exact e _ hv (h _)
    | bool => cases v <;> simp [CK.has] at hs; exact e _ hv (h _)
    | str => cases v <;> simp [CK.has] at hs; exact e _ hv (h _)
    | sl => cases v <;> simp [CK.has] at hs; exact e _ hv (h _)
    | other => simp [CK.has] at hs
theorem forgotten_at (ops : List Oper) : ∀ (env : Env) (t : Nat), (forgotten ops env)[t]? = if ops.any (fun o => o.dst == some t) then (env[t]?).map (fun _ => (AV.undef, Tag.no)) else env[t]? := by
  induction ops with
  | nil => intro env t; simp [forgotten]
  | cons o ops ih =>
    intro env t
    have e : forgotten (o :: ops) env = forgotten ops (match o.dst with | some d => env.set d (.undef, .no) | none => env) := rfl
    rw [e, ih]
    rcases Option.eq_none_or_eq_some o.dst with hd | ⟨d, hd⟩
    · simp [hd]
    · simp only [List.any_cons, hd]
      by_cases h : d = t
      · subst h
        simp only [BEq.rfl, Bool.true_or, if_true]
        rcases Nat.lt_or_ge d env.length with hl | hl
        · simp [hl]
        · rw [List.set_eq_of_length_le hl]; simp [List.getElem?_eq_none hl]
      · have h1 : (some d == some t) = false := by simpa using h
        rw [h1, Bool.false_or, List.getElem?_set_ne h]
theorem forgotten_set {ops : List Oper} {o : Oper} (ho : o ∈ ops) {d : Nat} (hd : o.dst = some d) (env : Env) (v : SV) : forgotten ops (env.set d v) = forgotten ops env := by
  refine List.ext_getElem? fun t => ?_
  rw [forgotten_at, forgotten_at]
  by_cases h : d = t
  · subst h
    have : ops.any (fun o => o.dst == some d) = true := List.any_eq_true.2 ⟨o, ho, by simp [hd]⟩
    rw [this]
    simp only [if_true]
    rcases Nat.lt_or_ge d env.length with hl | hl
    · simp [hl]
    · rw [List.set_eq_of_length_le hl]
  · rw [List.getElem?_set_ne h]
theorem forgotten_put {ops : List Oper} {o : Oper} (ho : o ∈ ops) (fr : Fr) (v : SV) : forgotten ops (fr.put o.dst v).env = forgotten ops fr.env := by
  unfold Fr.put
  split
  · rename_i d hd; exact forgotten_set ho hd _ _
  · rfl
theorem step_forgotten {e : Env0} {ops : Array Oper} {o : Oper} {all : List Oper} (ho : o ∈ all) {fr fr' : Fr} {S S' : St} (h : e.step ops o fr S = some (.ok fr' S')) : forgotten all fr'.env = forgotten all fr.env := by
  unfold Env0.step at h
  split at h <;> first | (cases h; done) | skip
  · cases h; exact forgotten_put ho _ _
  · split at h
    · split at h <;> first | (cases h; done) | skip
      cases h
      exact forgotten_put ho _ _
    · split at h
      · cases h; exact forgotten_put ho _ _
      · split at h
        · cases h; exact forgotten_put ho _ _
        · split at h <;> first | (cases h; done) | skip
          cases h; exact forgotten_put ho _ _
theorem ops_forgotten {e : Env0} {ops : Array Oper} {all : List Oper} : ∀ (l : List Oper), (∀ o ∈ l, o ∈ all) → ∀ (fr fr' : Fr) (S S' : St), e.ops ops l fr S = some (.ok fr' S') → forgotten all fr'.env = forgotten all fr.env := by
  intro l
  induction l with
  | nil => intro _ fr fr' S S' h; simp only [Env0.ops] at h; cases h; rfl
  | cons o l ih =>
    intro hl fr fr' S S' h
    simp only [Env0.ops] at h
    split at h
    · rename_i fr1 S1 h1
      rw [ih (fun o ho => hl o (List.mem_cons_of_mem _ ho)) _ _ _ _ h, step_forgotten (hl o (List.mem_cons_self ..)) h1]
    · rename_i hn; exact absurd h (hn _ _)
theorem lexD_forgotten {e : Env0} {ops : Array Oper} {S0 : St} {base : Nat} {all : List Oper} : ∀ (l : List Oper), (∀ o ∈ l, o ∈ all) → ∀ (al : Nat) (env env' : Env) (Ss Ss' : List St) (recs recs' : List Rec), e.lexD ops S0 base l al env Ss recs = some (.ok env' Ss' recs') →
    forgotten all env' = forgotten all env := by
  intro l
  induction l with
  | nil => intro _ al env env' Ss Ss' recs recs' h; simp only [Env0.lexD] at h; cases h; rfl
  | cons o l ih =>
    intro hl al env env' Ss Ss' recs recs' h
    have ih' := ih (fun o ho => hl o (List.mem_cons_of_mem _ ho))
    have hput : ∀ v, forgotten all (Fr.put ⟨env, []⟩ o.dst v).env = forgotten all env := fun v => forgotten_put (hl o (List.mem_cons_self ..)) _ _
    unfold Env0.lexD at h
    split at h <;> first | (cases h; done) | skip
    simp only at h
    split at h
    · split at h <;> first | (cases h; done) | skip
      · rw [ih' _ _ _ _ _ _ _ h, hput]
      · split at h <;> first | (cases h; done) | skip
        rw [ih' _ _ _ _ _ _ _ h, hput]
    · split at h <;> first | (cases h; done) | skip
      rw [ih' _ _ _ _ _ _ _ h, hput]
theorem wk_forgotten (ops : List Oper) : ∀ (env : List SV), WkL env (forgotten ops env) := by
  induction ops with
  | nil => intro env; exact WkL.refl _
  | cons o ops ih =>
    intro env
    have e : forgotten (o :: ops) env = forgotten ops (match o.dst with | some d => env.set d (.undef, .no) | none => env) := rfl
    rw [e]
    cases o.dst with
    | none => exact ih env
    | some d => exact (wk_set env d).trans (ih _)
theorem EnvR.slots {G : Gh} {T : List Nat} {act : Env} {a : Act} (h : EnvR G T act a) : ∀ (js : List (Tmp × CK)) (env : Env), EnvR G T env a → EnvR G T (js.foldl (fun env j => env.set j.1 ((act.getD j.1 (.undef, .no)).1, .no)) env) a := by
  intro js
  induction js with
  | nil => intro env he; exact he
  | cons j js ih =>
    intro env he
    refine ih _ ⟨by simp [he.len], fun i h1 h2 => ?_⟩
    simp only [List.length_set] at h1
    by_cases e : j.1 = i
    · subst e
      simp only [List.getElem_set_self]
      have hl : j.1 < act.length := by rw [h.len]; exact h2
      have e2 : act.getD j.1 (.undef, .no) = act[j.1] := by simp [List.getD, List.getElem?_eq_getElem hl]
      rw [e2]
      exact .no (h.at_ j.1 hl h2).1
    · rw [List.getElem_set_ne e]; exact he.at_ i h1 h2
/-! ### frames and states worked out -/
def forceV (x : SV) (K : SV → Prop) : Prop := match x with
  | (.undef, .no) => K (.undef, .no)
  | (.int k n, .no) => K (.int k n, .no)
  | (.bool b, .no) => K (.bool b, .no)
  | (.str s, .no) => K (.str s, .no)
  | (.ptr b o, .no) => K (.ptr b o, .no)
  | (.sl xs, .no) => K (.sl xs, .no)
  | (.sl xs, .tok i) => K (.sl xs, .tok i)
  | (.tup vs, .no) => K (.tup vs, .no)
  | (a, t) => K (a, t)
theorem forceV_eq (x : SV) (K : SV → Prop) : forceV x K = K x := by
  unfold forceV
  split <;> rfl
def forceL : List SV → (List SV → Prop) → Prop
  | [], K => K []
  | x :: xs, K => forceV x fun x => forceL xs fun xs => K (x :: xs)
theorem forceL_eq : ∀ (l : List SV) (K : List SV → Prop), forceL l K = K l
  | [], K => rfl
  | x :: xs, K => by simp only [forceL, forceV_eq, forceL_eq xs]
def forceB : List Blk → (List Blk → Prop) → Prop
  | [], K => K []
  | x :: xs, K => forceL x fun x => forceB xs fun xs => K (x :: xs)
theorem forceB_eq : ∀ (l : List Blk) (K : List Blk → Prop), forceB l K = K l
  | [], K => rfl
  | x :: xs, K => by simp only [forceB, forceL_eq, forceB_eq xs]
def forceT : List Nat → (List Nat → Prop) → Prop
  | [], K => K []
  | x :: xs, K => forceT xs fun xs => K (x :: xs)
theorem forceT_eq : ∀ (l : List Nat) (K : List Nat → Prop), forceT l K = K l
  | [], K => rfl
  | x :: xs, K => by simp only [forceT, forceT_eq xs]
structure Gen where
  tab : Tab
  join : Nat → Option (List (Tmp × CK))
  at_ : List Nat → Option (Fr → St → Post1 → Prop)

def Env0.regionW (e : Env0) (g : Gen) (id : Nat) (ops : Array Oper) (draw : Bool) (fr : Fr) (S : St) (Q : Post1) : Prop :=
  match g.join id with
  | none => match draw with
    | true => e.drawsW g.tab ops fr S fun ex fr' S' => Q ex (dropped (e.drop id) fr') S'
    | false => e.opsW g.tab ops (fun ex fr' S' => Q ex (dropped (e.drop id) fr') S') ops.toList fr S
  | some js => ∃ J : List AV → Prop,
    (match draw with
    | true => e.drawsW g.tab ops fr S fun ex fr' S' => match ex with
      | .normal => onlyIf (slotsHave js fr'.env) (S' = S ∧ fr'.ds = fr.ds ∧ J (slotsOf js fr'.env))
      | ex => Q ex (dropped (e.drop id) fr') S'
    | false => e.opsW g.tab ops (fun ex fr' S' => match ex with
      | .normal => onlyIf (slotsHave js fr'.env) (S' = S ∧ fr'.ds = fr.ds ∧ J (slotsOf js fr'.env))
      | ex => Q ex (dropped (e.drop id) fr') S') ops.toList fr S) ∧
    openJ js (forgotten ops.toList fr.env) [] fun vs env => J vs → Q .normal ⟨env, fr.ds⟩ S

def subR : List Nat → Code → Code
  | [], k => k
  | d :: p, k => match d, subR p k with
    | 0, .seq a _ => a
    | _, .seq _ b => b
    | 0, .cond _ a _ => a
    | _, .cond _ _ b => b
    | _, .block _ b => b
    | _, .loop b => b
    | _, k => k

def Env0.codeW (e : Env0) (g : Gen) : List Nat → Code → Fr → St → Post1 → Prop
  | p, .seq a b, fr, S, Q => match g.at_ p with
    | some L => L fr S Q
    | none => e.codeW g (0 :: p) a fr S fun ex fr S => match ex with
      | .normal => e.codeW g (1 :: p) b fr S Q
      | ex => Q ex fr S
  | _, .skip, fr, S, Q => Q .normal fr S
  | _, .label _, fr, S, Q => Q .normal fr S
  | _, .region id ops draw, fr, S, Q => forceL fr.env fun env => e.regionW g id ops draw ⟨env, fr.ds⟩ S Q
  | p, .cond x a b, fr, S, Q => match g.at_ p with
    | some L => L fr S Q
    | none => match (e.c.eval fr.env x).1 with
      | .bool t => implB t true (e.codeW g (0 :: p) a fr S Q) ∧ implB t false (e.codeW g (1 :: p) b fr S Q)
      | _ => False
  | p, .block id body, fr, S, Q => match g.at_ p with
    | some L => L fr S Q
    | none => e.codeW g (0 :: p) body fr S fun ex fr S => match ex with
      | .exit id' => if id' = id then Q .normal fr S else Q (.exit id') fr S
      | ex => Q ex fr S
  | p, .loop body, fr, S, Q => match g.at_ p with
    | some L => L fr S Q
    | none => e.codeW g (0 :: p) body fr S fun ex fr S => match ex with
      | .normal => False
      | ex => Q ex fr S
  | _, .exit id, fr, S, Q => Q (.exit id) fr S
  | _, .ret, fr, S, Q => Q .ret fr S
  | _, _, _, _, _ => False

section
variable {c : Ctx} {n0 m0 : Nat}

theorem regionW_sound {e : Env0} {g : Gen} (he : e.c = c) (hn : e.n0 = n0) (hcall : e.call = callOf g.tab) (hm : c.P.follows .mixedOrders = true) (ht : TabSound c g.tab) {id : Nat} {ops : Array Oper} {draw : Bool} {fr : Fr} {S : St} {Q : Post1}
    (h : e.regionW g id ops draw fr S Q) : CodeH c n0 m0 (.region id ops draw) fr S Q := by
  have hcs : CallSound c e.call := by rw [hcall]; exact tab_sound ht
  have hct : CallTags e.call := by rw [hcall]; exact tab_tags g.tab
  have run : ∀ {Q : Post1}, (match draw with
      | true => e.drawsW g.tab ops fr S Q
      | false => e.opsW g.tab ops Q ops.toList fr S) → CodeH c n0 m0 (.region id ops draw) fr S Q := by
    intro Q h
    cases draw with
    | true =>
      obtain ⟨r, h1, h2⟩ := drawsW_sound hcall h
      exact CodeH.region he hm hcs hct hn (by simp only [Env0.region, if_true]; exact h1) h2
    | false =>
      obtain ⟨r, h1, h2⟩ := opsW_sound hcall _ _ _ h
      cases r with
      | ok fr' S' => exact CodeH.region (r := (.normal, fr', S')) he hm hcs hct hn (by simp [Env0.region, h1]) h2
      | panic v fr' S' => exact CodeH.region (r := (.panic v, fr', S')) he hm hcs hct hn (by simp [Env0.region, h1]) h2
  have drp : ∀ ex (fr' : Fr) S', Q ex (dropped (e.drop id) fr') S' → ∀ B w0 G0 T0 (Q' : Exit → Act → World → Prop), PostH c B w0 G0 T0 Q Q' → ∀ G ex' a w, ExR G ex ex' → Inv c B w0 G S' w → Grows G0 T0 G S'.T → FrR G S'.T fr' a → TagsLow G0.φ.length T0.length S' → Q' ex' a w :=
    fun ex fr' S' hq B w0 G0 T0 Q' hp G ex' a w k1 k2 k3 k4 k5 => hp _ _ _ hq G ex' a w k1 k2 k3 ⟨k4.env.wk (wk_dropped _ _), k4.ds⟩ k5
  unfold Env0.regionW at h
  split at h
  · have h1 : CodeH c n0 m0 (.region id ops draw) fr S fun ex fr' S' => Q ex (dropped (e.drop id) fr') S' := by
      refine run ?_
      cases draw <;> exact h
    exact fun B w0 G0 T0 G a w Q' k1 k2 k3 k4 k5 k6 k7 => h1 B w0 G0 T0 G a w Q' k1 k2 k3 k4 k5 k6 fun ex fr' S' hq => drp ex fr' S' hq B w0 G0 T0 Q' k7
  · rename_i js hj
    obtain ⟨J, h1, h2⟩ := h
    have h3 : CodeH c n0 m0 (.region id ops draw) fr S fun ex fr' S' => (match ex with
        | .normal => onlyIf (slotsHave js fr'.env) (S' = S ∧ fr'.ds = fr.ds ∧ J (slotsOf js fr'.env))
        | ex => Q ex (dropped (e.drop id) fr') S') ∧ (ex = .normal → forgotten ops.toList fr'.env = forgotten ops.toList fr.env) := by
      cases draw with
      | true =>
        obtain ⟨r, q1, q2⟩ := drawsW_sound hcall h1
        refine CodeH.region he hm hcs hct hn (by simp only [Env0.region, if_true]; exact q1) ⟨q2, fun hex => ?_⟩
        unfold Env0.draws Env0.drawsAt at q1
        have q1 := (Option.ite_none_right_eq_some.1 q1).2
        split at q1
        · rename_i hl
          have q1 := (Option.ite_none_right_eq_some.1 q1).2
          cases q1
          exact lexD_forgotten _ (fun o ho => ho) _ _ _ _ _ _ _ hl
        · have q1 := (Option.ite_none_right_eq_some.1 q1).2
          cases q1
          cases hex
        · cases q1
      | false =>
        obtain ⟨r, q1, q2⟩ := opsW_sound hcall _ _ _ h1
        cases r with
        | ok fr' S' => exact CodeH.region (r := (.normal, fr', S')) he hm hcs hct hn (by simp [Env0.region, q1]) ⟨q2, fun _ => ops_forgotten _ (fun o ho => ho) _ _ _ _ q1⟩
        | panic v fr' S' => exact CodeH.region (r := (.panic v, fr', S')) he hm hcs hct hn (by simp [Env0.region, q1]) ⟨q2, fun hex => by cases hex⟩
    intro B w0 G0 T0 G a w Q' k1 k2 k3 k4 k5 k6 k7
    refine h3 B w0 G0 T0 G a w Q' k1 k2 k3 k4 k5 k6 fun ex fr' S' hq G1 ex' a1 w1 m1 m2 m3 m4 m5 => ?_
    obtain ⟨hq, hfg⟩ := hq
    cases ex with
    | normal =>
      obtain ⟨q1, q2, q3, q4⟩ := onlyIf_iff hq
      subst q2
      have hJ := openJ_sound fr'.env js _ [] _ q1 h2
      have hq2 := hJ (by simpa using q4)
      refine k7 _ _ _ hq2 G1 ex' a1 w1 m1 m2 m3 ⟨?_, by rw [← q3]; exact m4.ds⟩ m5
      rw [← hfg rfl]
      exact m4.env.slots js _ (m4.env.wk (wk_forgotten _ _))
    | exit i => exact drp _ _ _ hq B w0 G0 T0 Q' k7 G1 ex' a1 w1 m1 m2 m3 m4 m5
    | ret => exact drp _ _ _ hq B w0 G0 T0 Q' k7 G1 ex' a1 w1 m1 m2 m3 m4 m5
    | panic v => exact drp _ _ _ hq B w0 G0 T0 Q' k7 G1 ex' a1 w1 m1 m2 m3 m4 m5

/-- what is said of the pieces holds -/
def AtSound (c : Ctx) (n0 m0 : Nat) (g : Gen) (root : Code) : Prop := ∀ p L, g.at_ p = some L → ∀ fr S Q, L fr S Q → CodeH c n0 m0 (subR p root) fr S Q
theorem codeW_sound {e : Env0} {g : Gen} (he : e.c = c) (hn : e.n0 = n0) (hcall : e.call = callOf g.tab) (hm : c.P.follows .mixedOrders = true) (ht : TabSound c g.tab) {root : Code} (hat : AtSound c n0 m0 g root) :
    ∀ (k : Code) (p : List Nat), subR p root = k → ∀ (fr : Fr) (S : St) (Q : Post1), e.codeW g p k fr S Q → CodeH c n0 m0 k fr S Q := by
  intro k
  induction k with
  | skip => intro p _ fr S Q h; exact .skip h
  | label => intro p _ fr S Q h; exact .label h
  | exit id => intro p _ fr S Q h; exact .exit h
  | ret => intro p _ fr S Q h; exact .ret h
  | region id ops draw => intro p _ fr S Q h; simp only [Env0.codeW, forceL_eq] at h; exact regionW_sound he hn hcall hm ht h
  | seq a b iha ihb =>
    intro p hp fr S Q h
    simp only [Env0.codeW] at h
    split at h
    · rename_i L hL; have := hat p L hL _ _ _ h; rw [hp] at this; exact this
    · refine .seq ((iha (0 :: p) (by simp [subR, hp]) _ _ _ h).mono fun ex fr S hq => ?_)
      cases ex with
      | normal => exact ihb (1 :: p) (by simp [subR, hp]) _ _ _ hq
      | _ => exact hq
  | cond x a b iha ihb =>
    intro p hp fr S Q h
    simp only [Env0.codeW] at h
    split at h
    · rename_i L hL; have := hat p L hL _ _ _ h; rw [hp] at this; exact this
    · split at h
      · rename_i t hx
        refine .cond (by rw [← he]; exact hx) (fun e => iha (0 :: p) (by simp [subR, hp]) _ _ _ (implB_elim h.1 e)) (fun e => ihb (1 :: p) (by simp [subR, hp]) _ _ _ (implB_elim h.2 e))
      · exact h.elim
  | block id body ih =>
    intro p hp fr S Q h
    simp only [Env0.codeW] at h
    split at h
    · rename_i L hL; have := hat p L hL _ _ _ h; rw [hp] at this; exact this
    · refine .block ((ih (0 :: p) (by simp [subR, hp]) _ _ _ h).mono fun ex fr S hq => ?_)
      cases ex <;> exact hq
  | loop body ih =>
    intro p hp fr S Q h
    simp only [Env0.codeW] at h
    split at h
    · rename_i L hL; have := hat p L hL _ _ _ h; rw [hp] at this; exact this
    · refine CodeH.loop (fun _ fr' S' => fr' = fr ∧ S' = S) (fun m fr' S' hI => ?_) (m := 0) ⟨rfl, rfl⟩
      obtain ⟨rfl, rfl⟩ := hI
      refine (ih (0 :: p) (by simp [subR, hp]) _ _ _ h).mono fun ex fr S hq => ?_
      cases ex with
      | normal => exact hq.elim
      | _ => exact hq
  | rangeFunc => intro p _ fr S Q h; simp [Env0.codeW] at h
  | scope => intro p _ fr S Q h; simp [Env0.codeW] at h
  | goto => intro p _ fr S Q h; simp [Env0.codeW] at h
  | refuse => intro p _ fr S Q h; simp [Env0.codeW] at h

/-! ### the end of a function -/
/-- how results leave: 'plain': without their tokens; 'whole': with all that was made -/
inductive Leave where
  | plain
  | whole
  /-- plain, where the results' parts are not looked at one by one -/
  | great
def resW (c : Ctx) (env : Env) (S : St) : List ResultVar → List SV → (List SV → Prop) → Prop
  | [], acc, K => K acc.reverse
  | .tmp t :: r, acc, K => resW c env S r (env.getD t (.undef, .no) :: acc) K
  | .cell a t :: r, acc, K => match env.getD a (.undef, .no) with
    | (.ptr b o, _) => match S.H[b]? with
      | some cells => loadW c t .no cells o fun v => resW c env S r (v :: acc) K
      | none => False
    | _ => False
theorem resW_sound {env : Env} {S : St} : ∀ {rs : List ResultVar} {acc : List SV} {K : List SV → Prop}, resW c env S rs acc K → ∃ vs, allSome (rs.map (c.result env S)) = some vs ∧ K (acc.reverse ++ vs)
  | [], acc, K, h => ⟨[], rfl, by simpa [resW] using h⟩
  | .tmp t :: r, acc, K, h => by
    simp only [resW] at h
    obtain ⟨vs, h1, h2⟩ := resW_sound h
    exact ⟨env.getD t (.undef, .no) :: vs, by simp only [List.map_cons, Ctx.result, allSome, h1, Option.map_some], by simpa using h2⟩
  | .cell a t :: r, acc, K, h => by
    simp only [resW] at h
    split at h
    · rename_i b o tg ha
      split at h
      · rename_i cells hc
        obtain ⟨v, h1, h2⟩ := loadW_sound h
        obtain ⟨vs, h3, h4⟩ := resW_sound h2
        exact ⟨v :: vs, by simp only [List.map_cons, Ctx.result, ha, hc, h1, allSome, h3, Option.map_some], by simpa using h4⟩
      · exact h.elim
    · exact h.elim

def leaveW (lv : Leave) (n0 m0 : Nat) (vs : List SV) (S : St) (K : SV → St → Prop) : Prop := match lv with
  | .plain => lowAll n0 vs (K (asOne (vs.map fun v => (v.1, .no))) ⟨S.H.take n0, S.T.take m0⟩)
  | .whole => K (asOne vs) S
  | .great => (∀ v ∈ vs, v.1.low n0 = true) ∧ K (asOne (vs.map fun v => (v.1, .no))) ⟨S.H.take n0, S.T.take m0⟩
theorem RSl.plain {G : Gh} {T T' : List Nat} {n m : Nat} {xs : List SV} {us : List Value} (h : RSl G T xs us) : (∀ v ∈ xs, v.1.low n = true) → RSl (G.cut n m) T' (xs.map fun v => (v.1, .no)) us := by
  induction h with
  | nil => intro _; exact .nil
  | cons hx _ ih => intro hl; exact .cons (.no (hx.1.cut (hl _ (List.mem_cons_self ..)))) (ih fun y hy => hl y (List.mem_cons_of_mem _ hy))
/-- a call's end -/
def endW (c : Ctx) (lv : Leave) (fn : Func) (n0 m0 : Nat) (K : SV → St → Prop) (Kp : AV → St → Prop) : Post1 := fun ex fr S => match fr.ds with
  | [] => match ex with
    | .normal | .ret => resW c fr.env S fn.results.toList [] fun vs => leaveW lv n0 m0 vs S K
    | .panic v => lowW n0 v (Kp v ⟨S.H.take n0, S.T.take m0⟩)
    | _ => False
  | _ => False

/-- what a body's end may come to -/
def Ends (c : Ctx) (pre : TypeId → Bool) (call : CallFn) (fn : Func) (n0 m0 : Nat) (p : COut × St) : Post1 := fun ex fr S =>
  (∃ n, c.ends pre call n fn n0 m0 (some (ex, fr, S)) = some p) ∨
  (fr.ds = [] ∧ (ex = .normal ∨ ex = .ret) ∧ ∃ vs, allSome (fn.results.toList.map (c.result fr.env S)) = some vs ∧
    ((∀ v ∈ vs, v.1.low n0 = true) ∧ p = (.ret (asOne (vs.map fun v => (v.1, .no))), ⟨S.H.take n0, S.T.take m0⟩) ∨ p = (.ret (asOne vs), S)))
theorem endW_ends {pre : TypeId → Bool} {call : CallFn} {lv : Leave} {fn : Func} {K : SV → St → Prop} {Kp : AV → St → Prop} {ex : Ex} {fr : Fr} {S : St} (h : endW c lv fn n0 m0 K Kp ex fr S) : ∃ p, Ends c pre call fn n0 m0 p ex fr S ∧ outTo p K Kp := by
  unfold endW at h
  have res : (ex = .normal ∨ ex = .ret) → fr.ds = [] → resW c fr.env S fn.results.toList [] (fun vs => leaveW lv n0 m0 vs S K) → ∃ p, Ends c pre call fn n0 m0 p ex fr S ∧ outTo p K Kp := by
    intro hex hds h
    obtain ⟨vs, h1, h2⟩ := resW_sound h
    simp only [List.reverse_nil, List.nil_append] at h2
    cases lv with
    | plain =>
      obtain ⟨h3, h4⟩ := lowAll_iff h2
      exact ⟨_, .inr ⟨hds, hex, vs, h1, .inl ⟨h3, rfl⟩⟩, h4⟩
    | whole => exact ⟨_, .inr ⟨hds, hex, vs, h1, .inr rfl⟩, h2⟩
    | great => exact ⟨_, .inr ⟨hds, hex, vs, h1, .inl ⟨h2.1, rfl⟩⟩, h2.2⟩
  split at h
  · rename_i hds
    split at h
    · exact res (.inl rfl) hds h
    · exact res (.inr rfl) hds h
    · rename_i v
      obtain ⟨h1, h2⟩ := lowW_iff h
      obtain ⟨env, ds⟩ := fr
      simp only at hds
      subst hds
      exact ⟨(.panic v, ⟨S.H.take n0, S.T.take m0⟩), .inl ⟨0, by simp only [Ctx.ends, panicked, h1, if_true]⟩, h2⟩
    · exact h.elim
  · exact h.elim

/-- A FUNCTION MEETS ITS CONTRACT -/
theorem fn_sound {pre : TypeId → Bool} {tab : Tab} (hm : c.P.follows .mixedOrders = true) (ht : TabSound c tab) (hname : ∀ (f : FuncId) (fn : Func), c.P.funcs[f]? = some fn → (fn.name == "runtime.NumGoroutine") = false) {f : FuncId} {fn : Func} {k : Code}
    (hf : c.P.funcs[f]? = some fn) (hb : fn.body = some k) {sp : Spec}
    (h : ∀ args S K Kp, (sp.res args S).wp K Kp → CodeH c S.H.length S.T.length k (frame0 fn args) S fun ex fr S1 => ∃ p, Ends c pre (callOf tab) fn S.H.length S.T.length p ex fr S1 ∧ outTo p K Kp) : SpecSound c f sp := by
  intro args S p hp B w0 G w vs inv ha
  have htags := tab_tags tab
  have hcall := tab_sound ht
  have hd : ∀ (S : St) (d : Nat → List Tmp), DrawSound c B w0 ⟨c, pre, S.H.length, S.T.length, callOf tab, d⟩ := fun S d => draws_sound rfl hm hcall
  refine .inl ⟨enter_run hf (hname f fn hf) hb _ _, calls_of_wp_defers hf hb ?_⟩
  refine h args S _ _ hp B w0 G S.T G _ w _ inv.lenφ rfl inv (.refl _ _) (frame0_sound ha) (fun b cells hb hc x hx => inv.tag b cells hc x hx) fun ex fr S1 hq G' ex' a' w' h1 h2 h3 h4 h5 => ?_
  obtain ⟨p', he, hto⟩ := hq
  have hpp : p = p' := by
    unfold outTo at hto
    obtain ⟨o, S2⟩ := p'
    cases o <;> exact hto
  subst hpp
  have hlen : S.H.length ≤ S1.H.length := by rw [← inv.lenφ, ← h2.lenφ]; exact len_le_of h3.φ
  have htl : TagsLow S.H.length S.T.length S1 := by rw [inv.lenφ] at h5; exact h5
  rcases he with ⟨n, he⟩ | ⟨hds, hex, vs', hvs, hout⟩
  · obtain ⟨out, S2⟩ := p
    exact ends_sound (q := (ex, fr, S1)) hcall htags hd hname inv htl hlen he G' ex' a' w' h1 h2 h3 h4
  · have hds' : a'.defers = [] := by
      have := h4.ds
      rw [hds] at this
      cases hd2 : a'.defers with
      | nil => rfl
      | cons x xs => rw [hd2] at this; exact this.elim
    obtain ⟨us, r1, r2⟩ := results_sound h2 h4.env hvs
    have fin : ∃ v, (results fn a'.tmps).run c.P w' = .ok v w' ∧ ∃ G'', Inv c B w0 G'' p.2 w' ∧ Grows G S.T G'' p.2.T ∧ OutR G'' p.2.T p.1 (.returned v) := by
      refine ⟨_, r1, ?_⟩
      rcases hout with ⟨hl, rfl⟩ | rfl
      · have i2 := h2.cut htl
        have g2 := h3.cut (n := S.H.length) (m := S.T.length) (by rw [inv.lenφ]; exact Nat.le_refl _) (Nat.le_refl _)
        refine ⟨_, i2, g2, ?_⟩
        have hrl : RSl (G'.cut S.H.length S.T.length) (S1.T.take S.T.length) (vs'.map fun v => (v.1, .no)) us := r2.plain hl
        exact hrl.one
      · exact ⟨_, h2, h3, r2.one⟩
    rcases hex with rfl | rfl <;> cases ex' <;> simp only [ExR] at h1
    · show Leaves _ _ _ _ a'.defers _ _
      rw [hds']; exact fin
    · show Leaves _ _ _ _ a'.defers _ _
      rw [hds']; exact fin

/-- the way it is used -/
theorem fn_meets {pre : TypeId → Bool} {g : Gen} (hm : c.P.follows .mixedOrders = true) (ht : TabSound c g.tab) (hname : ∀ (f : FuncId) (fn : Func), c.P.funcs[f]? = some fn → (fn.name == "runtime.NumGoroutine") = false) {f : FuncId} {fn : Func} {k : Code}
    (hf : c.P.funcs[f]? = some fn) (hb : fn.body = some k) {sp : Spec} (lv : Leave) (hat : ∀ n0 m0, AtSound c n0 m0 g k)
    (h : ∀ args S K Kp, (sp.res args S).wp K Kp → Env0.codeW ⟨c, pre, S.H.length, S.T.length, callOf g.tab, c.drop f⟩ g [] k (frame0 fn args) S (endW c lv fn S.H.length S.T.length K Kp)) : SpecSound c f sp :=
  fn_sound (pre := pre) hm ht hname hf hb fun args S K Kp hw =>
    (codeW_sound (e := ⟨c, pre, S.H.length, S.T.length, callOf g.tab, c.drop f⟩) rfl rfl rfl hm ht (hat _ _) k [] rfl _ _ _ (h args S K Kp hw)).mono fun _ _ _ hq => endW_ends hq

theorem fn_meets2 {pre : TypeId → Bool} {g : Gen} (hm : c.P.follows .mixedOrders = true) (ht : TabSound c g.tab) (hname : ∀ (f : FuncId) (fn : Func), c.P.funcs[f]? = some fn → (fn.name == "runtime.NumGoroutine") = false) {f : FuncId} {fn : Func} {k : Code}
    (hf : c.P.funcs[f]? = some fn) (hb : fn.body = some k) {sp : Spec} (lv : Leave)
    (h : ∀ args S K Kp, (sp.res args S).wp K Kp → AtSound c S.H.length S.T.length g k ∧ Env0.codeW ⟨c, pre, S.H.length, S.T.length, callOf g.tab, c.drop f⟩ g [] k (frame0 fn args) S (endW c lv fn S.H.length S.T.length K Kp)) : SpecSound c f sp :=
  fn_sound (pre := pre) hm ht hname hf hb fun args S K Kp hw =>
    (codeW_sound (e := ⟨c, pre, S.H.length, S.T.length, callOf g.tab, c.drop f⟩) rfl rfl rfl hm ht (h args S K Kp hw).1 k [] rfl _ _ _ (h args S K Kp hw).2).mono fun _ _ _ hq => endW_ends hq
/-- a loop of few rounds, gone through one by one -/
def unrW (e : Env0) (g : Gen) (p : List Nat) (body : Code) : Nat → Fr → St → Post1 → Prop
  | 0, _, _, _ => False
  | n + 1, fr, S, Q => e.codeW g p body fr S fun ex fr' S' => match ex with
    | .normal => unrW e g p body n fr' S' Q
    | ex => Q ex fr' S'
theorem unrW_sound {e : Env0} {g : Gen} (he : e.c = c) (hn : e.n0 = n0) (hcall : e.call = callOf g.tab) (hm : c.P.follows .mixedOrders = true) (ht : TabSound c g.tab) {root : Code} (hat : AtSound c n0 m0 g root) {p : List Nat} {body : Code} (hp : subR p root = body)
    {n : Nat} {fr : Fr} {S : St} {Q : Post1} (h : unrW e g p body n fr S Q) : CodeH c n0 m0 (.loop body) fr S Q := by
  refine CodeH.loop (fun m fr S => unrW e g p body m fr S Q) (fun m fr S hI => ?_) h
  cases m with
  | zero => exact hI.elim
  | succ m => exact (codeW_sound he hn hcall hm ht hat body p hp _ _ _ hI).mono fun ex fr' S' hq => match ex, hq with
    | .normal, hq => ⟨m, fr', S', Nat.lt_succ_self m, .refl _ _, hq⟩
    | .exit _, hq => hq
    | .ret, hq => hq
    | .panic _, hq => hq

/-- a table out of a list -/
def tabL : List (FuncId × Spec) → Tab
  | [], _ => none
  | (g, sp) :: r, f => match Nat.beq g f with
    | true => some sp
    | false => tabL r f
theorem tabL_nil : TabSound c (tabL []) := fun _ _ h => by cases h
theorem tabL_cons {f : FuncId} {sp : Spec} {l : List (FuncId × Spec)} (h : SpecSound c f sp) (k : TabSound c (tabL l)) : TabSound c (tabL ((f, sp) :: l)) := by
  intro g s hg
  simp only [tabL] at hg
  split at hg
  · rename_i e
    obtain rfl := Nat.eq_of_beq_eq_true e
    cases hg
    exact h
  · exact k g s hg
theorem at_none {g : Gen} {root : Code} (h : ∀ p, g.at_ p = none) : AtSound c n0 m0 g root := fun p L hL => by rw [h p] at hL; cases hL
/-- pieces out of a list -/
def atL : List (List Nat × (Fr → St → Post1 → Prop)) → List Nat → Option (Fr → St → Post1 → Prop)
  | [], _ => none
  | (q, L) :: r, p => match q == p with
    | true => some L
    | false => atL r p
theorem at_cons {tab : Tab} {j : Nat → Option (List (Tmp × CK))} {q : List Nat} {L : Fr → St → Post1 → Prop} {l : List (List Nat × (Fr → St → Post1 → Prop))} {root : Code} (h : ∀ fr S Q, L fr S Q → CodeH c n0 m0 (subR q root) fr S Q)
    (k : AtSound c n0 m0 ⟨tab, j, atL l⟩ root) : AtSound c n0 m0 ⟨tab, j, atL ((q, L) :: l)⟩ root := by
  intro p M hM
  simp only [atL] at hM
  split at hM
  · rename_i e
    obtain rfl := eq_of_beq e
    cases hM
    exact h
  · exact k p M hM
theorem at_nil {tab : Tab} {j : Nat → Option (List (Tmp × CK))} {root : Code} : AtSound c n0 m0 ⟨tab, j, atL []⟩ root := fun p L hL => by cases hL
/-- a contract out of a run that the kernel works out -/
theorem spec_of_run {pre : TypeId → Bool} (hm : c.P.follows .mixedOrders = true) (hname : ∀ (f : FuncId) (fn : Func), c.P.funcs[f]? = some fn → (fn.name == "runtime.NumGoroutine") = false) {n : Nat} {f : FuncId} {args : List SV} {S : St} {p : COut × St}
    (h : Ctx.call c pre (fun _ => none) n f args S = some p) : ∀ (B : Bd) (w0 : World) (G : Gh) (w : World) (vs : Array Value), Inv c B w0 G S w → RArgs G S.T args vs →
      CallTo c.P f vs w fun en w' => ∃ G', Inv c B w0 G' p.2 w' ∧ Grows G S.T G' p.2.T ∧ OutR G' p.2.T p.1 en := by
  obtain ⟨out, S'⟩ := p
  exact run_sound hm hname (fun _ _ h => by cases h) n f args S out S' h
end
end Go.Ab
