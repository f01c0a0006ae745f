import Derived.Test.YtdiphholophdcaaAbTrace2
import Derived.Orders
set_option linter.unusedVariables false
set_option linter.unusedSimpArgs false
/- A REGION WHOSE ORDER IS OPEN: any order comes to the same. -/
namespace Go.Ab
open Go.RowKit

section
variable {c : Ctx} {B : Bd} {w0 : World}

/-- what of an environment an operation sees -/
def seen (n : Nat) (env : Env) (rd : List Tmp) : Env := (List.range n).map fun t => if rd.contains t then env.getD t (.undef, .no) else (.undef, .no)
theorem seen_getD {n : Nat} {env : Env} {rd : List Tmp} {t : Tmp} : (seen n env rd).getD t (.undef, .no) = if t < n ∧ rd.contains t then env.getD t (.undef, .no) else (.undef, .no) := by
  unfold seen
  rw [List.getD_eq_getElem?_getD]
  rcases Nat.lt_or_ge t n with hl | hl
  · simp [hl]
  · rw [List.getElem?_eq_none (by simpa using hl)]
    simp [Nat.not_lt.2 hl]
theorem evalR_seen {env : Env} {rd : List Tmp} {n : Nat} (hn : env.length = n) : c.evalR env rd = c.eval (seen n env rd) := by
  funext x
  cases x with
  | tmp t =>
    simp only [Ctx.evalR, Ctx.eval]
    rw [seen_getD]
    rcases Nat.lt_or_ge t n with hl | hl
    · simp [hl]
    · have e : env.getD t (AV.undef, Tag.no) = (.undef, .no) := by rw [List.getD_eq_getElem?_getD, List.getElem?_eq_none (by omega)]; rfl
      simp only [e, ite_self]
  | _ => rfl
theorem wanted_seen {env : Env} {ops : Array Oper} {o : Oper} {n : Nat} (hn : env.length = n) : wantedA ops env o = wantedA ops (seen n env (readsTmp ops o)) o := by
  unfold wantedA
  cases hg : o.guard with
  | none => rfl
  | some g =>
    obtain ⟨j, want⟩ := g
    simp only
    cases hd : (ops[j]?).bind (·.dst) with
    | none => rfl
    | some d =>
      simp only
      have hm : d ∈ readsTmp ops o := by
        unfold readsTmp
        rw [hg]
        simp only [hd]
        exact List.mem_append_right _ (by simp)
      rw [seen_getD]
      rcases Nat.lt_or_ge d n with hl | hl
      · rw [if_pos ⟨hl, by simpa using hm⟩]
      · have e : env.getD d (AV.undef, Tag.no) = (.undef, .no) := by rw [List.getD_eq_getElem?_getD, List.getElem?_eq_none (by omega)]; rfl
        simp only [e, ite_self]
theorem seen_EnvR {G : Gh} {T : List Nat} {env : Env} {rd : List Tmp} {a : Act} (h : ∀ t, t ∈ rd → ∀ (ht : t < a.tmps.size), RS G T (env.getD t (.undef, .no)) a.tmps[t]) : EnvR G T (seen a.tmps.size env rd) a := by
  refine ⟨by simp [seen], fun t h1 h2 => ?_⟩
  simp only [seen, List.getElem_map, List.getElem_range]
  split
  · rename_i hm; exact h t (by simpa using hm) h2
  · exact .no (.undef _)

/-- the plan of a region: what its run in the text's order says -/
structure Plan (c : Ctx) (e : Env0) (ops : Array Oper) (b : List Nat) (Sp : St) (base : Nat) (env0 : Env) (N : Nat) (recs : List Rec) (st : List St) (env : Env) (al : Nat) : Prop where
  ce : e.c = c
  hb : b = CheckFast.beforeL ops.toList 0 []
  ok : ∀ (i : Nat) (o : Oper), ops[i]? = some o → OkAt c.P ops b i o
  facts : Facts e ops Sp base env0 N recs st env al
  same : ∀ (i : Nat) (r : Rec), recs[i]? = some r → moves c.P r.o = true ∨ (c.pure r.o.op (c.evalR r.env (readsTmp ops r.o))).isSome = true ∨
      ∀ k S, k ≤ highs c.P ops b i → lows c.P ops b i ≤ k → st[k]? = some S → e.quietAt ops Sp base r.al r.o r.env S = some r.v
  late : ∀ (i : Nat) (o : Oper), ops[i]? = some o → N < i → ahead b i N = true ∨ (∃ x, o.op = .move x) ∧ o.guard = none

variable {e : Env0} {ops : Array Oper} {b : List Nat} {Sp : St} {base : Nat} {env0 : Env} {N : Nat} {recs : List Rec} {st : List St} {env : Env} {al : Nat}

theorem Plan.uniq (p : Plan c e ops b Sp base env0 N recs st env al) {i j : Nat} {oi oj : Oper} {t : Tmp} (hi : ops[i]? = some oi) (hj : ops[j]? = some oj) (ti : oi.dst = some t) (tj : oj.dst = some t) : i = j := by
  rcases Nat.lt_trichotomy i j with h | h | h
  · exact absurd ti (((p.ok j oj hj).other i oi h hi).1 t tj)
  · exact h
  · exact absurd tj (((p.ok i oi hi).other j oj h hj).1 t ti)

def valAt (recs : List Rec) (i : Nat) : SV := match recs[i]? with | some r => r.v | none => (.undef, .no)

/-- how far a region has come -/
def done (listed : Array Bool) (i : Nat) : Bool := listed.getD i false
def cnt (P : Program) (ops : Array Oper) (listed : Array Bool) : Nat := (List.range ops.size).countP fun j => isMv P ops j && done listed j

structure EnvJ (ops : Array Oper) (env0 : Env) (recs : List Rec) (listed : Array Bool) (G : Gh) (T : List Nat) (a : Act) : Prop where
  len : a.tmps.size = env0.length
  hit : ∀ (i : Nat) (o : Oper) (t : Tmp) (ht : t < a.tmps.size), ops[i]? = some o → o.dst = some t → done listed i = true → RS G T (valAt recs i) a.tmps[t]
  miss : ∀ (t : Tmp) (ht : t < a.tmps.size), (∀ (i : Nat) (o : Oper), ops[i]? = some o → o.dst = some t → done listed i = false) → RS G T (env0.getD t (.undef, .no)) a.tmps[t]

theorem EnvJ.later {G G' : Gh} {T T' : List Nat} {listed : Array Bool} {a : Act} (l : Later G T G' T') (h : EnvJ ops env0 recs listed G T a) : EnvJ ops env0 recs listed G' T' a :=
  ⟨h.len, fun i o t ht ho hd hl => (h.hit i o t ht ho hd hl).later l, fun t ht hm => (h.miss t ht hm).later l⟩

theorem done_set {listed : Array Bool} {i j : Nat} (hi : i < listed.size) : done (listed.setIfInBounds i true) j = (decide (j = i) || done listed j) := by
  unfold done
  by_cases e : i = j
  · subst e; simp [hi]
  · rw [getD_set_ne false e]
    have : ¬ j = i := fun h => e h.symm
    simp [this]

theorem EnvJ.put (p : Plan c e ops b Sp base env0 N recs st env al) {G : Gh} {T : List Nat} {listed : Array Bool} {a : Act} {i : Nat} {o : Oper} {v : Value} (hsz : listed.size = ops.size) (ho : ops[i]? = some o)
    (h : EnvJ ops env0 recs listed G T a) (hv : RS G T (valAt recs i) v) : EnvJ ops env0 recs (listed.setIfInBounds i true) G T (a.put o.dst v) := by
  have hlt : i < listed.size := by rw [hsz]; exact (Array.getElem?_eq_some_iff.1 ho).1
  cases hd : o.dst with
  | none =>
    refine ⟨h.len, fun j oj t ht hj htj hl => ?_, fun t ht hm => ?_⟩
    · rw [done_set hlt] at hl
      have hne : j ≠ i := fun e => by subst e; rw [ho] at hj; cases hj; rw [hd] at htj; cases htj
      simp [hne] at hl
      exact h.hit j oj t ht hj htj hl
    · exact h.miss t ht fun j oj hj htj => by
        have := hm j oj hj htj
        rw [done_set hlt] at this
        simp at this
        exact this.2
  | some d =>
    have hsz2 : (a.put (some d) v).tmps.size = a.tmps.size := by simp [Act.put]
    refine ⟨by rw [hsz2]; exact h.len, fun j oj t ht hj htj hl => ?_, fun t ht hm => ?_⟩
    · have ht' : t < a.tmps.size := by rw [← hsz2]; exact ht
      by_cases e : d = t
      · subst e
        have : j = i := p.uniq hj ho htj hd
        subst this
        simp [Act.put]
        exact hv
      · rw [done_set hlt] at hl
        have hne : j ≠ i := fun e2 => by subst e2; rw [ho] at hj; cases hj; rw [hd] at htj; cases htj; exact e rfl
        simp [hne] at hl
        have := h.hit j oj t ht' hj htj hl
        simp only [Act.put]
        rw [Array.getElem_setIfInBounds_ne ht' e]
        exact this
    · have ht' : t < a.tmps.size := by rw [← hsz2]; exact ht
      have hne : d ≠ t := fun e2 => by
        have := hm i o ho (by rw [hd, e2])
        rw [done_set hlt] at this
        simp at this
      have := h.miss t ht' fun j oj hj htj => by
        have := hm j oj hj htj
        rw [done_set hlt] at this
        simp at this
        exact this.2
      simp only [Act.put]
      rw [Array.getElem_setIfInBounds_ne ht' hne]
      exact this

structure J (c : Ctx) (B : Bd) (w0 : World) (ops : Array Oper) (base : Nat) (env0 : Env) (ds : List (FuncId × List SV)) (N : Nat) (recs : List Rec) (st : List St) (Ge Gp : Gh) (Te Tp : List Nat) (listed : Array Bool) (a : Act) (w : World) (G : Gh) (S : St) : Prop where
  size : listed.size = ops.size
  closed : Closed ops (fun i => done listed i = true)
  late : ∀ i, N ≤ i → done listed i = true → N < i
  at_ : st[cnt c.P ops listed]? = some S
  inv : Inv c B w0 G S w
  later : Later Gp Tp G S.T
  grows : Grows Ge Te G S.T
  env : EnvJ ops env0 recs listed G S.T a
  pend : ∀ (i : Nat) (o : Oper), ops[i]? = some o → allocs c.P o = true → done listed i = false → G.φ[base + nAl c.P (ops.toList.take i)]? = some none
  ds : DefR G ds a.defers

variable {ds : List (FuncId × List SV)} {Ge Gp : Gh} {Te Tp : List Nat} {listed : Array Bool} {a : Act} {w : World} {G : Gh} {S : St}

/-- what a ready operation finds listed -/
theorem J.front (p : Plan c e ops b Sp base env0 N recs st env al) (h : J c B w0 ops base env0 ds N recs st Ge Gp Te Tp listed a w G S) {i : Nat} (hi : i ∈ Region.ready .any ops listed) {j : Nat} (ha : ahead b i j = true) : done listed j = true ∨ j = i := by
  obtain ⟨h0, o, ho, hall⟩ := mem_ready.1 hi
  rw [p.hb] at ha
  refine ahead_closed (D := fun j => done listed j = true ∨ j = i) (fun k ok hk hd e he hb => ?_) ha (.inr rfl)
  rcases hd with hd | rfl
  · exact .inl (h.closed k ok hk hd e he hb)
  · rw [ho] at hk; cases hk; exact .inl (hall e he hb)
theorem not_done {i : Nat} (hi : i ∈ Region.ready .any ops listed) : done listed i = false := by
  have h0 := (mem_ready.1 hi).1
  unfold done
  rcases Nat.lt_or_ge i listed.size with hl | hl
  · simpa [hl] using h0
  · simp [Array.getElem?_eq_none hl]
/-- an operation that waits for i is not listed while i is not -/
theorem J.behind (p : Plan c e ops b Sp base env0 N recs st env al) (h : J c B w0 ops base env0 ds N recs st Ge Gp Te Tp listed a w G S) {i j : Nat} (hi : done listed i = false) (ha : ahead b j i = true) : done listed j = false := by
  rw [p.hb] at ha
  cases hd : done listed j with
  | false => rfl
  | true =>
    have := ahead_closed (D := fun j => done listed j = true) h.closed ha hd
    rw [hi] at this; cases this

/-- what a ready operation sees, it sees in the text's order too -/
theorem J.sees (p : Plan c e ops b Sp base env0 N recs st env al) (h : J c B w0 ops base env0 ds N recs st Ge Gp Te Tp listed a w G S) {i : Nat} (hi : i ∈ Region.ready .any ops listed) {o : Oper} (ho : ops[i]? = some o) {env1 : Env} (hE : EnvAt env0 (recs.take i) env1) (hiN : i ≤ N) :
    EnvR G S.T (seen a.tmps.size env1 (readsTmp ops o)) a := by
  refine seen_EnvR fun t ht hlt => ?_
  have hnd := not_done hi
  have hok := p.ok i o ho
  have rget : ∀ (j : Nat) (r : Rec), (recs.take i)[j]? = some r → j < i ∧ recs[j]? = some r ∧ ops[j]? = some r.o := by
    intro j r hr
    obtain ⟨h1, h2⟩ := take_some hr
    exact ⟨h1, h2, (p.facts.step j r h2).op⟩
  by_cases hx : ∃ (j : Nat) (r : Rec), (recs.take i)[j]? = some r ∧ r.o.dst = some t
  · obtain ⟨j, r, hr, hd⟩ := hx
    obtain ⟨h1, h2, h3⟩ := rget j r hr
    rw [hE.hit j r t hr hd (fun j' r' hr' hd' => p.uniq (rget j' r' hr').2.2 h3 hd' hd) (by rw [← h.env.len]; exact hlt)]
    have hah : Ab.ahead b i j = true := by
      rcases (hok.other j r.o h1 h3).2 with h4 | ⟨_, h5, _⟩
      · exact h4
      · exact absurd ht (h5 t hd)
    have hdone : done listed j = true := (h.front p hi hah).resolve_right (by omega)
    have := h.env.hit j r.o t hlt h3 hd hdone
    simpa [valAt, h2] using this
  · rw [hE.miss t (fun j r hr hd => hx ⟨j, r, hr, hd⟩)]
    refine h.env.miss t hlt fun j oj hj hd => ?_
    rcases Nat.lt_trichotomy j i with hl | hl | hl
    · exfalso
      have hjr : j < recs.length := by rw [p.facts.len]; omega
      have h2 : recs[j]? = some recs[j] := List.getElem?_eq_getElem hjr
      refine hx ⟨j, recs[j], by rw [List.getElem?_take, if_pos hl]; exact h2, ?_⟩
      have := (p.facts.step j _ h2).op
      rw [hj] at this
      cases this
      exact hd
    · subst hl; exact hnd
    · refine h.behind p hnd ?_
      rcases ((p.ok j oj hj).other i o hl ho).2 with h4 | ⟨_, _, h6⟩
      · exact h4
      · exact absurd ht (h6 t hd)

/-- counting moves -/
theorem countP_le_of {p q : Nat → Bool} {l : List Nat} (h : ∀ x ∈ l, p x = true → q x = true) : l.countP p ≤ l.countP q := List.countP_mono_left h
theorem countP_split {p : Nat → Bool} {n i : Nat} (hi : i ≤ n) (hq : ∀ j, i ≤ j → j < n → p j = false) : (List.range n).countP p = (List.range i).countP p := by
  induction n with
  | zero => have : i = 0 := by omega
            subst this; rfl
  | succ n ih =>
    rcases Nat.lt_or_ge n i with hl | hl
    · have : i = n + 1 := by omega
      subst this; rfl
    · rw [countP_range_succ, ih hl (fun j h1 h2 => hq j h1 (by omega)), hq n hl (by omega)]
      simp
theorem countP_add_one {p q : Nat → Bool} {n i : Nat} (hi : i < n) (hp : p i = false) (hq : q i = true) (h : ∀ j, j ≠ i → q j = p j) : (List.range n).countP q = (List.range n).countP p + 1 := by
  induction n with
  | zero => omega
  | succ n ih =>
    rw [countP_range_succ, countP_range_succ]
    rcases Nat.lt_or_ge i n with hl | hl
    · rw [ih hl, h n (by omega)]; omega
    · have : i = n := by omega
      subst this
      rw [hp, hq]
      have e : (List.range i).countP q = (List.range i).countP p := List.countP_congr fun x hx => by
        rw [h x (by have := List.mem_range.1 hx; omega)]
      simp [e]

theorem cnt_set {i : Nat} {o : Oper} (hsz : listed.size = ops.size) (ho : ops[i]? = some o) (hnd : done listed i = false) : cnt c.P ops (listed.setIfInBounds i true) = cnt c.P ops listed + if moves c.P o then 1 else 0 := by
  have hlt : i < ops.size := (Array.getElem?_eq_some_iff.1 ho).1
  unfold cnt
  by_cases hm : moves c.P o = true
  · rw [if_pos hm]
    refine countP_add_one hlt (by simp [hnd]) ?_ fun j hj => ?_
    · rw [done_set (by omega)]; simp [isMv, ho, hm]
    · rw [done_set (by omega)]; simp [hj]
  · rw [if_neg hm, Nat.add_zero]
    refine List.countP_congr fun j _ => ?_
    rw [done_set (by omega)]
    by_cases e : j = i
    · subst e; simp [isMv, ho, hm]
    · simp [e]

theorem isMv_iff {P : Program} {j : Nat} : isMv P ops j = true ↔ ∃ o, ops[j]? = some o ∧ moves P o = true := by
  unfold isMv
  cases h : ops[j]? <;> simp

/-- at a move's turn just the moves ahead of it in the text are done -/
theorem J.cnt_mv (p : Plan c e ops b Sp base env0 N recs st env al) (h : J c B w0 ops base env0 ds N recs st Ge Gp Te Tp listed a w G S) {i : Nat} (hi : i ∈ Region.ready .any ops listed) {o : Oper} (ho : ops[i]? = some o) (hm : moves c.P o = true) : cnt c.P ops listed = mvc c.P ops i := by
  have hlt : i < ops.size := (Array.getElem?_eq_some_iff.1 ho).1
  have hnd := not_done hi
  unfold cnt mvc
  rw [countP_split (i := i) (by omega) (fun j h1 h2 => by
    cases hmv : isMv c.P ops j with
    | false => rfl
    | true =>
      obtain ⟨oj, hj, hmj⟩ := isMv_iff.1 hmv
      rcases Nat.lt_or_ge i j with hl | hl
      · rw [h.behind p hnd]
        · rfl
        · rcases ((p.ok j oj hj).other i o hl ho).2 with h4 | ⟨h5, _⟩
          · exact h4
          · exact absurd ⟨hmj, hm⟩ h5
      · have : j = i := by omega
        subst this
        rw [hnd]; rfl)]
  refine List.countP_congr fun j hj => ?_
  have hj' := List.mem_range.1 hj
  cases hmv : isMv c.P ops j with
  | false => simp
  | true =>
    obtain ⟨oj, hoj, hmj⟩ := isMv_iff.1 hmv
    have hah : Ab.ahead b i j = true := by
      rcases ((p.ok i o ho).other j oj hj' hoj).2 with h4 | ⟨h5, _⟩
      · exact h4
      · exact absurd ⟨hm, hmj⟩ h5
    have := (h.front p hi hah).resolve_right (by omega)
    simp [this]
theorem J.cnt_low (p : Plan c e ops b Sp base env0 N recs st env al) (h : J c B w0 ops base env0 ds N recs st Ge Gp Te Tp listed a w G S) {i : Nat} (hi : i ∈ Region.ready .any ops listed) {o : Oper} (ho : ops[i]? = some o) (hm : moves c.P o = false) : lows c.P ops b i ≤ cnt c.P ops listed ∧ cnt c.P ops listed ≤ highs c.P ops b i := by
  have hnd := not_done hi
  unfold lows highs cnt
  rw [← List.countP_eq_length_filter, ← List.countP_eq_length_filter]
  constructor
  · refine countP_le_of fun j hj hp => ?_
    simp only [Bool.and_eq_true] at hp ⊢
    refine ⟨hp.1, (h.front p hi hp.2).resolve_right fun e => ?_⟩
    subst e
    have := hp.1
    simp [ho, hm] at this
  · refine countP_le_of fun j hj hp => ?_
    simp only [Bool.and_eq_true, Bool.not_eq_true'] at hp ⊢
    refine ⟨hp.1, ?_⟩
    cases ha : Ab.ahead b j i with
    | false => rfl
    | true => rw [h.behind p hnd ha] at hp; exact absurd hp.2 (by simp)
end
end Go.Ab
