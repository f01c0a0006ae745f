import Derived.Test.YtdiphholophdcaaAbW
set_option linter.unusedVariables false
set_option linter.unusedSimpArgs false
/- WHAT A CALL COMES TO, BY ITS FUNCTION'S CONTRACT; the table of contracts as a call's run. -/
namespace Go.Ab
open Go.RowKit

/-- what a call comes to -/
inductive Res : Type 1 where
  | fail
  | ret (v : SV) (S : St)
  | panic (v : AV) (S : St)
  | need (p : Prop) (r : Res)
  | cond (b : Bool) (x y : Res)
  | name {α : Type} (e : α) (r : α → Res)
  | ex {α : Type} (P : α → Prop) (h : ∀ x y, P x → P y → x = y) (r : α → Res)

def Res.wp : Res → (SV → St → Prop) → (AV → St → Prop) → Prop
  | .fail, _, _ => False
  | .ret v S, K, _ => K v S
  | .panic v S, _, Kp => Kp v S
  | .need p r, K, Kp => p ∧ r.wp K Kp
  | .cond b x y, K, Kp => (b = true → x.wp K Kp) ∧ (b = false → y.wp K Kp)
  | .name e r, K, Kp => ∀ x, x = e → (r x).wp K Kp
  | .ex P _ r, K, Kp => ∃ x, P x ∧ (r x).wp K Kp
def outTo (p : COut × St) (K : SV → St → Prop) (Kp : AV → St → Prop) : Prop := match p.1 with
  | .ret v => K v p.2
  | .panic v => Kp v p.2
def Res.is (r : Res) (p : COut × St) : Prop := r.wp (fun v S => p = (.ret v, S)) (fun v S => p = (.panic v, S))
theorem Res.mono {r : Res} : ∀ {K K' : SV → St → Prop} {Kp Kp' : AV → St → Prop}, r.wp K Kp → (∀ v S, K v S → K' v S) → (∀ v S, Kp v S → Kp' v S) → r.wp K' Kp' := by
  induction r with
  | fail => intro K K' Kp Kp' h; exact h.elim
  | ret v S => intro K K' Kp Kp' h h1 h2; exact h1 _ _ h
  | panic v S => intro K K' Kp Kp' h h1 h2; exact h2 _ _ h
  | need p r ih => intro K K' Kp Kp' h h1 h2; exact ⟨h.1, ih h.2 h1 h2⟩
  | cond b x y ihx ihy => intro K K' Kp Kp' h h1 h2; exact ⟨fun e => ihx (h.1 e) h1 h2, fun e => ihy (h.2 e) h1 h2⟩
  | name e r ih => intro K K' Kp Kp' h h1 h2 x hx; exact ih x (h x hx) h1 h2
  | ex P u r ih => intro K K' Kp Kp' h h1 h2; obtain ⟨x, hx, h⟩ := h; exact ⟨x, hx, ih x h h1 h2⟩
theorem Res.both {r : Res} : ∀ {K K' : SV → St → Prop} {Kp Kp' : AV → St → Prop}, r.wp K Kp → r.wp K' Kp' → r.wp (fun v S => K v S ∧ K' v S) (fun v S => Kp v S ∧ Kp' v S) := by
  induction r with
  | fail => intro K K' Kp Kp' h; exact h.elim
  | ret v S => intro K K' Kp Kp' h k; exact ⟨h, k⟩
  | panic v S => intro K K' Kp Kp' h k; exact ⟨h, k⟩
  | need p r ih => intro K K' Kp Kp' h k; exact ⟨h.1, ih h.2 k.2⟩
  | cond b x y ihx ihy => intro K K' Kp Kp' h k; exact ⟨fun e => ihx (h.1 e) (k.1 e), fun e => ihy (h.2 e) (k.2 e)⟩
  | name e r ih => intro K K' Kp Kp' h k x hx; exact ih x (h x hx) (k x hx)
  | ex P u r ih =>
    intro K K' Kp Kp' h k
    obtain ⟨x, hx, h⟩ := h
    obtain ⟨y, hy, k⟩ := k
    obtain rfl := u x y hx hy
    exact ⟨x, hx, ih x h k⟩
theorem Res.out {r : Res} {K : SV → St → Prop} {Kp : AV → St → Prop} (h : r.wp K Kp) : ∃ p, r.is p ∧ outTo p K Kp := by
  induction r with
  | fail => exact h.elim
  | ret v S => exact ⟨(.ret v, S), rfl, h⟩
  | panic v S => exact ⟨(.panic v, S), rfl, h⟩
  | need p r ih => obtain ⟨q, h1, h2⟩ := ih h.2; exact ⟨q, ⟨h.1, h1⟩, h2⟩
  | cond b x y ihx ihy =>
    cases b with
    | true => obtain ⟨q, h1, h2⟩ := ihx (h.1 rfl); exact ⟨q, ⟨fun _ => h1, fun e => by cases e⟩, h2⟩
    | false => obtain ⟨q, h1, h2⟩ := ihy (h.2 rfl); exact ⟨q, ⟨fun e => (by cases e), fun _ => h1⟩, h2⟩
  | name e r ih => obtain ⟨q, h1, h2⟩ := ih e (h e rfl); exact ⟨q, fun x hx => by subst hx; exact h1, h2⟩
  | ex P u r ih => obtain ⟨x, hx, h⟩ := h; obtain ⟨q, h1, h2⟩ := ih x h; exact ⟨q, ⟨x, hx, h1⟩, h2⟩
theorem Res.to {r : Res} {K : SV → St → Prop} {Kp : AV → St → Prop} {p : COut × St} (h : r.wp K Kp) (hp : r.is p) : outTo p K Kp := by
  have hb := Res.both h hp
  obtain ⟨q, _, h2⟩ := Res.out hb
  unfold outTo at h2
  split at h2
  · rename_i v hv
    obtain ⟨h3, h4⟩ := h2
    rw [h4]
    exact h3
  · rename_i v hv
    obtain ⟨h3, h4⟩ := h2
    rw [h4]
    exact h3

/-- what a contract hands on: nothing of its arguments' tokens, them, or nothing, and its result's parts are not looked at one by one -/
inductive KT where
  | no
  | yes
  | big
instance : Coe Bool KT := ⟨fun b => match b with
  | true => .yes
  | false => .no⟩
/-- a function's contract: 'kt': the tokens of its arguments are handed on -/
structure Spec where
  kt0 : KT
  res : List SV → St → Res
def Spec.kt (sp : Spec) : Bool := match sp.kt0 with
  | .yes => true
  | _ => false
theorem AV.ok_low0 {P : Nat → Prop} {x : AV} (h : x.low 0 = true) : x.ok P := by
  have one : ∀ {y : AV}, y.low 0 = true → y.ok1 P := by
    intro y hy
    cases y <;> first | exact hy | (simp [AV.low] at hy)
  rcases scalar_cases x with ⟨f, a, b, rfl⟩ | ⟨cs, rfl⟩ | ⟨cs, rfl⟩ | ⟨h1, h2⟩
  · simp only [AV.low, Bool.and_eq_true, lows_iff] at h
    exact ⟨fun y hy => one (h.1 y hy), fun y hy => one (h.2 y hy)⟩
  · simp only [AV.low, lows_iff] at h
    exact fun y hy => one (h y hy)
  · simp only [AV.low, lows_iff] at h
    exact fun y hy => one (h y hy)
  · rw [h1]; exact one h
theorem AV.ren_low0 {r : Nat → Nat} {x : AV} (h : x.low 0 = true) : x.ren r = x := by
  have all : ∀ (cs : List AV), (∀ y ∈ cs, y.low 0 = true) → cs.map (AV.ren1 r) = cs := fun cs hc => by
    conv => rhs; rw [← List.map_id cs]
    exact List.map_congr_left fun y hy => AV.ren1_low0 (hc y hy)
  rcases scalar_cases x with ⟨f, a, b, rfl⟩ | ⟨cs, rfl⟩ | ⟨cs, rfl⟩ | ⟨h1, h2⟩
  · simp only [AV.low, Bool.and_eq_true, lows_iff] at h
    simp only [AV.ren, all a h.1, all b h.2]
  · simp only [AV.low, lows_iff] at h
    simp only [AV.ren, all cs h]
  · simp only [AV.low, lows_iff] at h
    simp only [AV.ren, all cs h]
  · rw [h2]; exact AV.ren1_low0 h

/-- THE FUNCTION MEETS THE CONTRACT -/
def SpecSound (c : Ctx) (f : FuncId) (sp : Spec) : Prop := ∀ args S p, (sp.res args S).is p →
  ∀ (B : Bd) (w0 : World) (G : Gh) (w : World) (vs : Array Value), Inv c B w0 G S w → RArgs G S.T args vs →
    CallTo c.P f vs w fun en w' => ∃ G', Inv c B w0 G' p.2 w' ∧ Grows G S.T G' p.2.T ∧ OutR G' p.2.T p.1 en

/-! ### which blocks and tokens a call is handed -/
def AV.ptrs1 : AV → List Nat
  | .ptr b _ => [b]
  | .slr b _ _ => [b]
  | _ => []
def AV.ptrs : AV → List Nat
  | .agg cs => cs.flatMap AV.ptrs1
  | .tup cs => cs.flatMap AV.ptrs1
  | .fn _ a b => a.flatMap AV.ptrs1 ++ b.flatMap AV.ptrs1
  | x => x.ptrs1
def Tag.toks1 : Tag → List Nat
  | .tok i => [i]
  | _ => []
def Tag.toks : Tag → List Nat
  | .agg ts => ts.flatMap Tag.toks1
  | x => x.toks1
def blkPtrs (S : St) (b : Nat) : List Nat := (S.H.getD b []).flatMap fun x => x.1.ptrs
def blkToks (S : St) (b : Nat) : List Nat := (S.H.getD b []).flatMap fun x => x.2.toks
def reach (S : St) : Nat → List Nat → List Nat
  | 0, l => l
  | n + 1, l => reach S n (l ++ (l.flatMap (blkPtrs S)).filter fun b => !l.contains b)
def pickP (args : List SV) (S : St) : List Nat :=
  match args.flatMap (fun x => x.1.ptrs) with
  | [] => []
  | l => (List.range S.H.length).filter ((reach S 4 l).contains ·)
def pickT (kt : Bool) (args : List SV) (S : St) (ps : List Nat) : List Nat :=
  match (if kt then args.flatMap (fun x => x.2.toks) else []) ++ ps.flatMap (blkToks S) with
  | [] => []
  | l => (List.range S.T.length).filter (l.contains ·)
theorem picks_nil (n : Nat) : Picks [] n := ⟨by simp, by simp⟩
theorem picks_filter (n : Nat) (f : Nat → Bool) : Picks ((List.range n).filter f) n := by
  refine ⟨fun p hp => by simpa using (List.mem_filter.1 hp).1, fun i j hi hj hij => ?_⟩
  have hs : ((List.range n).filter f).Pairwise (· < ·) := List.Pairwise.filter _ List.pairwise_lt_range
  exact List.pairwise_iff_getElem.1 hs i j hi hj hij
theorem picks_P (args : List SV) (S : St) : Picks (pickP args S) S.H.length := by
  unfold pickP
  split
  · exact picks_nil _
  · exact picks_filter _ _
theorem picks_T (kt : Bool) (args : List SV) (S : St) (ps : List Nat) : Picks (pickT kt args S ps) S.T.length := by
  unfold pickT
  split
  · exact picks_nil _
  · exact picks_filter _ _

/-! ### what must hold of the values handed over -/
/-- pointers lead to P; what lies deeper holds none; then K -/
def okW1 (P : Nat → Bool) (x : AV) (K : Prop) : Prop := match x with
  | .ptr b _ => onlyIf (P b) K
  | .slr b _ _ => onlyIf (P b) K
  | .sl xs => AV.lows 0 xs = true ∧ K
  | .iface _ (.sl xs) => AV.lows 0 xs = true ∧ K
  | x => onlyIf (x.low 0) K
def okWs (P : Nat → Bool) : List AV → Prop → Prop
  | [], K => K
  | x :: xs, K => okW1 P x (okWs P xs K)
def okW (P : Nat → Bool) (x : AV) (K : Prop) : Prop := match x with
  | .agg cs => okWs P cs K
  | .tup cs => okWs P cs K
  | .fn _ a b => okWs P a (okWs P b K)
  | x => okW1 P x K
theorem okW1_iff {P : Nat → Bool} {x : AV} {K : Prop} (h : okW1 P x K) : x.ok1 (P · = true) ∧ K := by
  unfold okW1 at h
  split at h
  · exact onlyIf_iff h
  · exact onlyIf_iff h
  · exact ⟨by simpa [AV.ok1, AV.low] using h.1, h.2⟩
  · exact ⟨by simpa [AV.ok1, AV.low] using h.1, h.2⟩
  · rename_i h1 h2 h3 h4
    obtain ⟨k1, k2⟩ := onlyIf_iff h
    refine ⟨?_, k2⟩
    cases x <;> first | exact k1 | exact absurd rfl (h1 _ _) | exact absurd rfl (h2 _ _ _)
theorem okWs_iff {P : Nat → Bool} : ∀ {xs : List AV} {K : Prop}, okWs P xs K → (∀ x ∈ xs, x.ok1 (P · = true)) ∧ K
  | [], K, h => ⟨by simp, h⟩
  | x :: xs, K, h => by
    obtain ⟨h1, h2⟩ := okW1_iff h
    obtain ⟨h3, h4⟩ := okWs_iff h2
    exact ⟨fun y hy => by rcases List.mem_cons.1 hy with rfl | hy; exact h1; exact h3 y hy, h4⟩
theorem okW_iff {P : Nat → Bool} {x : AV} {K : Prop} (h : okW P x K) : x.ok (P · = true) ∧ K := by
  unfold okW at h
  split at h
  · exact okWs_iff h
  · exact okWs_iff h
  · obtain ⟨h1, h2⟩ := okWs_iff h
    obtain ⟨h3, h4⟩ := okWs_iff h2
    exact ⟨⟨h1, h3⟩, h4⟩
  · rename_i h1 h2 h3
    obtain ⟨k1, k2⟩ := okW1_iff h
    refine ⟨?_, k2⟩
    cases x <;> first | exact k1 | exact absurd rfl (h1 _) | exact absurd rfl (h2 _) | exact absurd rfl (h3 _ _ _)
theorem onlyIf_mono {b : Bool} {p q : Prop} (h : onlyIf b p) (k : p → q) : onlyIf b q := by
  cases b with
  | true => exact k h
  | false => exact h
theorem okW1_mono {P : Nat → Bool} {x : AV} {K K' : Prop} (h : okW1 P x K) (k : K → K') : okW1 P x K' := by
  unfold okW1 at h ⊢
  split at h
  · exact onlyIf_mono h k
  · exact onlyIf_mono h k
  · exact ⟨h.1, k h.2⟩
  · exact ⟨h.1, k h.2⟩
  · exact onlyIf_mono h k
theorem okWs_mono {P : Nat → Bool} : ∀ {xs : List AV} {K K' : Prop}, okWs P xs K → (K → K') → okWs P xs K'
  | [], _, _, h, k => k h
  | _ :: _, _, _, h, k => okW1_mono h fun h => okWs_mono h k
theorem okW_mono {P : Nat → Bool} {x : AV} {K K' : Prop} (h : okW P x K) (k : K → K') : okW P x K' := by
  unfold okW at h ⊢
  split at h
  · exact okWs_mono h k
  · exact okWs_mono h k
  · exact okWs_mono h fun h => okWs_mono h k
  · exact okW1_mono h k
def okArgs (P : Nat → Bool) : List SV → Prop → Prop
  | [], K => K
  | x :: xs, K => okW P x.1 (okArgs P xs K)
theorem okArgs_iff {P : Nat → Bool} : ∀ {xs : List SV} {K : Prop}, okArgs P xs K → (∀ x ∈ xs, x.1.ok (P · = true)) ∧ K
  | [], K, h => ⟨by simp, h⟩
  | x :: xs, K, h => by
    obtain ⟨h1, h2⟩ := okW_iff h
    obtain ⟨h3, h4⟩ := okArgs_iff h2
    exact ⟨fun y hy => by rcases List.mem_cons.1 hy with rfl | hy; exact h1; exact h3 y hy, h4⟩
theorem okArgs_mono {P : Nat → Bool} : ∀ {xs : List SV} {K K' : Prop}, okArgs P xs K → (K → K') → okArgs P xs K'
  | [], _, _, h, k => k h
  | _ :: _, _, _, h, k => okW_mono h fun h => okArgs_mono h k
def okBlks (P : Nat → Bool) : List Blk → Prop → Prop
  | [], K => K
  | x :: xs, K => okArgs P x (okBlks P xs K)
theorem okBlks_iff {P : Nat → Bool} : ∀ {xs : List Blk} {K : Prop}, okBlks P xs K → (∀ cs ∈ xs, ∀ x ∈ cs, x.1.ok (P · = true)) ∧ K
  | [], K, h => ⟨by simp, h⟩
  | x :: xs, K, h => by
    obtain ⟨h1, h2⟩ := okArgs_iff h
    obtain ⟨h3, h4⟩ := okBlks_iff h2
    exact ⟨fun y hy => by rcases List.mem_cons.1 hy with rfl | hy; exact h1; exact h3 y hy, h4⟩
theorem okBlks_mono {P : Nat → Bool} : ∀ {xs : List Blk} {K K' : Prop}, okBlks P xs K → (K → K') → okBlks P xs K'
  | [], _, _, h, k => k h
  | _ :: _, _, _, h, k => okArgs_mono h fun h => okBlks_mono h k
theorem AV.ok1.mono {P Q : Nat → Prop} (h : ∀ b, P b → Q b) {x : AV} (hx : x.ok1 P) : x.ok1 Q := by
  cases x <;> first | exact hx | exact h _ hx
theorem AV.ok.mono {P Q : Nat → Prop} (h : ∀ b, P b → Q b) {x : AV} (hx : x.ok P) : x.ok Q := by
  rcases scalar_cases x with ⟨f, a, b, rfl⟩ | ⟨cs, rfl⟩ | ⟨cs, rfl⟩ | ⟨h1, h2⟩
  · exact ⟨fun y hy => (hx.1 y hy).mono h, fun y hy => (hx.2 y hy).mono h⟩
  · exact fun y hy => (hx y hy).mono h
  · exact fun y hy => (hx y hy).mono h
  · rw [h1] at hx ⊢; exact hx.mono h

/-- an argument, as the call sees it -/
def argDown (kt : Bool) (ps ts : List Nat) (x : SV) : SV := (x.1.ren (ps.idxOf ·), if kt then x.2.ren (ts.idxOf ·) else .no)
def SV.up (ps ts : List Nat) (S : St) (x : SV) : SV := x.ren (upN ps S.H.length) (upN ts S.T.length)
def AV.up (ps : List Nat) (S : St) (x : AV) : AV := x.ren (upN ps S.H.length)
/-- the tokens of the blocks that were there are none but those that were there -/
def tagsKept : List Blk → List Blk → Bool
  | [], _ => true
  | _ :: _, [] => false
  | o :: os, n :: ns => (n.flatMap (·.2.toks)).all (fun i => (o.flatMap (·.2.toks)).contains i) && tagsKept os ns

/-- A CALL BY ITS CONTRACT, seen from its caller -/
def Spec.wp (sp : Spec) (args : List SV) (S : St) (K : SV → St → Prop) (Kp : AV → St → Prop) : Prop :=
  onlyIf (!sp.kt || args.all fun x => x.2.low S.T.length) <|
  okArgs ((pickP args S).contains ·) args <|
  okBlks ((pickP args S).contains ·) ((pickP args S).map (S.H.getD · [])) <|
  (sp.res (args.map (argDown sp.kt (pickP args S) (pickT sp.kt args S (pickP args S)))) (S.pick (pickP args S) (pickT sp.kt args S (pickP args S)))).wp
    (fun v S0 => match sp.kt0 with
      | .big => (v.1.low 0 = true ∧ v.2 = .no) ∧ okBlks (fun _ => true) S0.H (onlyIf (tagsKept (S.pick (pickP args S) (pickT sp.kt args S (pickP args S))).H S0.H)
        (K v (S.merge (pickP args S) (pickT sp.kt args S (pickP args S)) S0)))
      | _ => okArgs (fun _ => true) [v] <| okBlks (fun _ => true) S0.H <|
      onlyIf (v.2.low S0.T.length && tagsKept (S.pick (pickP args S) (pickT sp.kt args S (pickP args S))).H S0.H)
        (K (v.up (pickP args S) (pickT sp.kt args S (pickP args S)) S) (S.merge (pickP args S) (pickT sp.kt args S (pickP args S)) S0)))
    (fun v S0 => okArgs (fun _ => true) [(v, .no)] <| okBlks (fun _ => true) S0.H <|
      onlyIf (tagsKept (S.pick (pickP args S) (pickT sp.kt args S (pickP args S))).H S0.H)
        (Kp (v.up (pickP args S) S) (S.merge (pickP args S) (pickT sp.kt args S (pickP args S)) S0)))
def Spec.is (sp : Spec) (args : List SV) (S : St) (p : COut × St) : Prop := sp.wp args S (fun v S => p = (.ret v, S)) (fun v S => p = (.panic v, S))
open Classical in
/-- as a run -/
noncomputable def Spec.run (sp : Spec) (args : List SV) (S : St) : Option (COut × St) := if h : ∃ p, sp.is args S p then some (Classical.choose h) else none
theorem Spec.run_is {sp : Spec} {args : List SV} {S : St} {p : COut × St} (h : sp.run args S = some p) : sp.is args S p := by
  unfold Spec.run at h
  split at h
  · rename_i hx; cases h; exact Classical.choose_spec hx
  · cases h

/-- the parts of a call's condition -/
theorem Spec.wp_parts {sp : Spec} {args : List SV} {S : St} {K : SV → St → Prop} {Kp : AV → St → Prop} (h : sp.wp args S K Kp) :
    (sp.kt = true → ∀ x ∈ args, x.2.low S.T.length = true) ∧ (∀ x ∈ args, x.1.ok (· ∈ pickP args S)) ∧ (∀ p ∈ pickP args S, ∀ cells, S.H[p]? = some cells → ∀ x ∈ cells, x.1.ok (· ∈ pickP args S)) ∧
    ∃ p0, (sp.res (args.map (argDown sp.kt (pickP args S) (pickT sp.kt args S (pickP args S)))) (S.pick (pickP args S) (pickT sp.kt args S (pickP args S)))).is p0 ∧
      (∀ cells ∈ p0.2.H, ∀ x ∈ cells, x.1.ok fun _ => True) ∧ tagsKept (S.pick (pickP args S) (pickT sp.kt args S (pickP args S))).H p0.2.H = true ∧
      match p0.1 with
      | .ret v => (v.1.ok fun _ => True) ∧ v.2.low p0.2.T.length = true ∧ K (v.up (pickP args S) (pickT sp.kt args S (pickP args S)) S) (S.merge (pickP args S) (pickT sp.kt args S (pickP args S)) p0.2)
      | .panic v => (v.ok fun _ => True) ∧ Kp (v.up (pickP args S) S) (S.merge (pickP args S) (pickT sp.kt args S (pickP args S)) p0.2) := by
  obtain ⟨h0, h⟩ := onlyIf_iff h
  obtain ⟨h1, h2⟩ := okArgs_iff h
  obtain ⟨h3, h4⟩ := okBlks_iff h2
  have toP : ∀ b, (pickP args S).contains b = true → b ∈ pickP args S := fun b hb => by simpa using hb
  refine ⟨fun hk x hx => by rw [hk] at h0; simp only [Bool.not_true, Bool.false_or, List.all_eq_true] at h0; exact h0 x hx, fun x hx => (h1 x hx).mono toP, fun p hp cells hc x hx => (h3 cells ?_ x hx).mono toP, ?_⟩
  · exact List.mem_map.2 ⟨p, hp, getD_some hc⟩
  · obtain ⟨p0, k1, k2⟩ := Res.out h4
    refine ⟨p0, k1, ?_⟩
    unfold outTo at k2
    obtain ⟨o, S0⟩ := p0
    cases o with
    | ret v =>
      simp only at k2
      split at k2
      · obtain ⟨⟨g1, g2⟩, q2⟩ := k2
        obtain ⟨q3, q4⟩ := okBlks_iff q2
        obtain ⟨q5, q6⟩ := onlyIf_iff q4
        refine ⟨fun cs hcs x hx => (q3 cs hcs x hx).mono fun _ _ => trivial, q5, AV.ok_low0 g1, by rw [g2]; rfl, ?_⟩
        have e : v.up (pickP args S) (pickT sp.kt args S (pickP args S)) S = v := by
          obtain ⟨v1, v2⟩ := v
          simp only at g1 g2
          subst g2
          show (_, _) = (_, _)
          rw [AV.ren_low0 g1]; rfl
        rw [e]; exact q6
      · obtain ⟨q1, q2⟩ := okArgs_iff k2
        obtain ⟨q3, q4⟩ := okBlks_iff q2
        obtain ⟨q5, q6⟩ := onlyIf_iff q4
        simp only [Bool.and_eq_true] at q5
        exact ⟨fun cs hcs x hx => (q3 cs hcs x hx).mono fun _ _ => trivial, q5.2, (q1 v (by simp)).mono fun _ _ => trivial, q5.1, q6⟩
    | panic v =>
      obtain ⟨q1, q2⟩ := okArgs_iff k2
      obtain ⟨q3, q4⟩ := okBlks_iff q2
      obtain ⟨q5, q6⟩ := onlyIf_iff q4
      exact ⟨fun cs hcs x hx => (q3 cs hcs x hx).mono fun _ _ => trivial, q5, (q1 (v, .no) (by simp)).mono fun _ _ => trivial, q6⟩
theorem Res.is_one {r : Res} {p q : COut × St} (hp : r.is p) (hq : r.is q) : p = q := by
  have h : outTo p (fun v S => q = (.ret v, S)) (fun v S => q = (.panic v, S)) := Res.to hq hp
  unfold outTo at h
  obtain ⟨o, S⟩ := p
  cases o <;> exact h.symm
theorem Spec.run_to {sp : Spec} {args : List SV} {S : St} {K : SV → St → Prop} {Kp : AV → St → Prop} (h : sp.wp args S K Kp) : ∃ p, sp.run args S = some p ∧ outTo p K Kp := by
  have ex : ∃ p, sp.is args S p := by
    obtain ⟨_, _, _, q, hq, _⟩ := Spec.wp_parts h
    refine ⟨match q.1 with
      | .ret v => (.ret (v.up (pickP args S) (pickT sp.kt args S (pickP args S)) S), S.merge (pickP args S) (pickT sp.kt args S (pickP args S)) q.2)
      | .panic v => (.panic (v.up (pickP args S) S), S.merge (pickP args S) (pickT sp.kt args S (pickP args S)) q.2), ?_⟩
    unfold Spec.is
    unfold Spec.wp at h ⊢
    refine onlyIf_mono h fun h => okArgs_mono h fun h => okBlks_mono h fun h => ?_
    refine Res.mono (Res.both h hq) (fun v S0 k => ?_) (fun v S0 k => ?_)
    · obtain ⟨k1, k2⟩ := k
      subst k2
      split at k1
      · obtain ⟨g, k1⟩ := k1
        refine ⟨g, okBlks_mono k1 fun k => onlyIf_mono k fun _ => ?_⟩
        have e : v.up (pickP args S) (pickT sp.kt args S (pickP args S)) S = v := by
          obtain ⟨v1, v2⟩ := v
          obtain ⟨g1, g2⟩ := g
          simp only at g1 g2
          subst g2
          show (_, _) = (_, _)
          rw [AV.ren_low0 g1]; rfl
        simp only [e]
      · exact okArgs_mono k1 fun k => okBlks_mono k fun k => onlyIf_mono k fun _ => rfl
    · obtain ⟨k1, k2⟩ := k
      subst k2
      exact okArgs_mono k1 fun k => okBlks_mono k fun k => onlyIf_mono k fun _ => rfl
  have hrun : sp.run args S = some (Classical.choose ex) := by unfold Spec.run; rw [dif_pos ex]
  refine ⟨_, hrun, ?_⟩
  have his := Classical.choose_spec ex
  generalize Classical.choose ex = p at his
  obtain ⟨_, _, _, q, hq, _, _, h1⟩ := Spec.wp_parts h
  obtain ⟨_, _, _, q', hq', _, _, h2⟩ := Spec.wp_parts his
  obtain rfl := Res.is_one hq hq'
  obtain ⟨o, S0⟩ := q
  cases o with
  | ret v =>
    obtain ⟨_, _, h3⟩ := h1
    obtain ⟨_, _, h4⟩ := h2
    rw [h4]; exact h3
  | panic v =>
    obtain ⟨_, h3⟩ := h1
    obtain ⟨_, h4⟩ := h2
    rw [h4]; exact h3

/-! ### the table of contracts -/
abbrev Tab := FuncId → Option Spec
noncomputable def callOf (tab : Tab) : CallFn := fun f args S => match tab f with
  | some sp => sp.run args S
  | none => none
def TabSound (c : Ctx) (tab : Tab) : Prop := ∀ f sp, tab f = some sp → SpecSound c f sp

theorem toks_low1 {t : Tag} {m : Nat} : t.low1 m = true ↔ ∀ i ∈ t.toks1, i < m := by
  cases t <;> simp [Tag.low1, Tag.toks1]
theorem toks_low {t : Tag} {m : Nat} : t.low m = true ↔ ∀ i ∈ t.toks, i < m := by
  cases t with
  | agg ts =>
    simp only [Tag.low, Tag.toks, List.all_eq_true, List.mem_flatMap]
    constructor
    · intro h i ⟨y, hy, hi⟩; exact toks_low1.1 (h y hy) i hi
    · intro h y hy; exact toks_low1.2 fun i hi => h i ⟨y, hy, hi⟩
  | tok i => simp [Tag.low, Tag.low1, Tag.toks, Tag.toks1]
  | no => simp [Tag.low, Tag.low1, Tag.toks, Tag.toks1]
  | full => simp [Tag.low, Tag.low1, Tag.toks, Tag.toks1]
theorem toks1_ren {t : Nat → Nat} {x : Tag} {i : Nat} (h : i ∈ (x.ren1 t).toks1) : ∃ j ∈ x.toks1, i = t j := by
  cases x with
  | tok j => simp [Tag.ren1, Tag.toks1] at h ⊢; exact h
  | _ => simp [Tag.ren1, Tag.toks1] at h
theorem toks_ren {t : Nat → Nat} {x : Tag} {i : Nat} (h : i ∈ (x.ren t).toks) : ∃ j ∈ x.toks, i = t j := by
  cases x with
  | agg ts =>
    simp only [Tag.ren, Tag.toks, List.mem_flatMap, List.mem_map] at h
    obtain ⟨y, ⟨z, hz, rfl⟩, hi⟩ := h
    obtain ⟨j, hj, e⟩ := toks1_ren hi
    exact ⟨j, List.mem_flatMap.2 ⟨z, hz, hj⟩, e⟩
  | tok j => simp [Tag.ren, Tag.ren1, Tag.toks, Tag.toks1] at h ⊢; exact h
  | no => simp [Tag.ren, Tag.ren1, Tag.toks, Tag.toks1] at h
  | full => simp [Tag.ren, Tag.ren1, Tag.toks, Tag.toks1] at h
theorem tagsKept_len : ∀ {os ns : List Blk}, tagsKept os ns = true → os.length ≤ ns.length
  | [], _, _ => Nat.zero_le _
  | _ :: _, [], h => by cases h
  | o :: os, n :: ns, h => by
    simp only [tagsKept, Bool.and_eq_true] at h
    have := tagsKept_len h.2
    simp; omega
theorem tagsKept_at : ∀ {os ns : List Blk}, tagsKept os ns = true → ∀ (i : Nat) (o n : Blk), os[i]? = some o → ns[i]? = some n → ∀ k ∈ n.flatMap (·.2.toks), k ∈ o.flatMap (·.2.toks)
  | [], _, _, i, o, n, ho, _ => by simp at ho
  | _ :: _, [], h, i, o, n, _, hn => by cases h
  | o :: os, n :: ns, h, i, o', n', ho, hn => by
    simp only [tagsKept, Bool.and_eq_true, List.all_eq_true] at h
    cases i with
    | zero =>
      simp at ho hn
      subst ho; subst hn
      intro k hk
      simpa using h.1 k hk
    | succ i => exact tagsKept_at h.2 i o' n' (by simpa using ho) (by simpa using hn)

theorem Spec.run_steps {sp : Spec} {args : List SV} {S : St} {out : COut} {S' : St} (h : sp.run args S = some (out, S')) : Steps1 S.H.length S S' := by
  have his := Spec.run_is h
  obtain ⟨_, _, _, q, hq, _, hk, h2⟩ := Spec.wp_parts his
  have hS : S' = S.merge (pickP args S) (pickT sp.kt args S (pickP args S)) q.2 := by
    obtain ⟨o, S0⟩ := q
    cases o with
    | ret v => obtain ⟨_, _, h4⟩ := h2; cases h4; rfl
    | panic v => obtain ⟨_, h4⟩ := h2; cases h4; rfl
  have hlen : (pickP args S).length ≤ q.2.H.length := by simpa [St.pick] using tagsKept_len hk
  subst hS
  have hP := picks_P args S
  refine ⟨?_, fun n m hn ht b cells hb hc x hx => ?_⟩
  · show S.H.length ≤ (mergeAll _ _ _).length
    rw [mergeAll_len (by simpa using hlen)]; omega
  · rcases mergeAll_at (new := q.2.H.map (upBlk (pickP args S) (pickT sp.kt args S (pickP args S)) S.H.length S.T.length)) hP (by simpa using hlen) b with ⟨i, hi, h1, h2⟩ | ⟨h1, h2, h3⟩ | h1
    · have hi' : i < q.2.H.length := by simpa using hi
      have hip : i < (pickP args S).length := by
        rcases Nat.lt_or_ge i (pickP args S).length with hl | hl
        · exact hl
        · rw [upN_ge hl] at h1; omega
      rw [upN_lt hip] at h1
      have hc' : cells = upBlk (pickP args S) (pickT sp.kt args S (pickP args S)) S.H.length S.T.length q.2.H[i] := by
        have : (S.merge (pickP args S) (pickT sp.kt args S (pickP args S)) q.2).H[b]? = some cells := hc
        rw [show (S.merge (pickP args S) (pickT sp.kt args S (pickP args S)) q.2).H = mergeAll (pickP args S) (q.2.H.map (upBlk (pickP args S) (pickT sp.kt args S (pickP args S)) S.H.length S.T.length)) S.H from rfl, h2] at this
        simpa using this.symm
      subst hc'
      obtain ⟨y, hy, rfl⟩ := List.mem_map.1 hx
      rw [toks_low]
      intro k hk'
      obtain ⟨j, hj, rfl⟩ := toks_ren hk'
      have hlt := hP.lt _ (List.getElem_mem hip)
      have hold : (S.pick (pickP args S) (pickT sp.kt args S (pickP args S))).H[i]? = some (downBlk (pickP args S) (pickT sp.kt args S (pickP args S)) S.H[(pickP args S)[i]]) := by
        simp only [St.pick, List.getElem?_map]
        rw [List.getElem?_eq_getElem hip, Option.map_some, getD_some (List.getElem?_eq_getElem hlt)]
      have hmem := tagsKept_at hk i _ _ hold (List.getElem?_eq_getElem hi') j (List.mem_flatMap.2 ⟨y, hy, hj⟩)
      obtain ⟨z, hz, hjz⟩ := List.mem_flatMap.1 hmem
      obtain ⟨u, hu, rfl⟩ := List.mem_map.1 hz
      obtain ⟨j0, hj0, rfl⟩ := toks_ren hjz
      have hlow := ht _ _ (by rw [← h1]; exact hb) (List.getElem?_eq_getElem hlt) u hu
      rw [toks_low] at hlow
      have hj0m := hlow j0 hj0
      by_cases hTm : j0 ∈ pickT sp.kt args S (pickP args S)
      · obtain ⟨g1, g2⟩ := mem_idx hTm
        rw [upN_lt g1, g2]
        exact hj0m
      · have hge : S.T.length ≤ j0 := by
          rcases Nat.lt_or_ge j0 S.T.length with hl | hl
          · exfalso
            apply hTm
            have hin : j0 ∈ (pickP args S).flatMap (blkToks S) := by
              refine List.mem_flatMap.2 ⟨_, List.getElem_mem hip, ?_⟩
              unfold blkToks
              rw [getD_some (List.getElem?_eq_getElem hlt)]
              exact List.mem_flatMap.2 ⟨u, hu, hj0⟩
            have hin2 : j0 ∈ (if sp.kt then args.flatMap (fun x => x.2.toks) else []) ++ (pickP args S).flatMap (blkToks S) := List.mem_append_right _ hin
            unfold pickT
            split
            · rename_i e; rw [e] at hin2; cases hin2
            · rename_i l hne
              refine List.mem_filter.2 ⟨by simpa using hl, ?_⟩
              simpa using hin2
          · exact hl
        rw [List.idxOf_eq_length hTm, upN_ge (Nat.le_refl _)]
        omega
    · exact ht b cells hb (by rw [← h3]; exact hc) x hx
    · rw [show (S.merge (pickP args S) (pickT sp.kt args S (pickP args S)) q.2).H = mergeAll (pickP args S) (q.2.H.map (upBlk (pickP args S) (pickT sp.kt args S (pickP args S)) S.H.length S.T.length)) S.H from rfl, h1] at hc; cases hc

theorem tab_tags (tab : Tab) : CallTags (callOf tab) := by
  intro f args S out S' h
  unfold callOf at h
  split at h
  · exact Spec.run_steps h
  · cases h
/-- A CALL BY CONTRACT IS THE MACHINE'S. -/
theorem tab_sound {c : Ctx} {tab : Tab} (h : TabSound c tab) : CallSound c (callOf tab) := by
  intro f args S out S' hc B w0 G w vs inv ha
  unfold callOf at hc
  split at hc
  · rename_i sp hf
    have his := Spec.run_is hc
    obtain ⟨k0, k1, k2, q, hq, k3, k4, k5⟩ := Spec.wp_parts his
    have hP := picks_P args S
    have hT := picks_T sp.kt args S (pickP args S)
    generalize hps : pickP args S = ps at *
    generalize hts : pickT sp.kt args S ps = ts at *
    have tokIn : ∀ (t : Tag), (∀ i ∈ t.toks, i ∈ ts) → t.ok (· ∈ ts) := by
      intro t ht
      cases t with
      | tok i => exact ht i (by simp [Tag.toks, Tag.toks1])
      | agg l =>
        intro y hy
        cases y with
        | tok i => exact ht i (List.mem_flatMap.2 ⟨_, hy, by simp [Tag.toks1]⟩)
        | _ => trivial
      | _ => trivial
    have memT : ∀ j, j < S.T.length → j ∈ (if sp.kt then args.flatMap (fun x => x.2.toks) else []) ++ ps.flatMap (blkToks S) → j ∈ ts := by
      intro j hj hin
      rw [← hts]
      unfold pickT
      split
      · rename_i e; rw [e] at hin; cases hin
      · exact List.mem_filter.2 ⟨by simpa using hj, by simpa using hin⟩
    have hcells : ∀ p ∈ ps, ∀ cells, S.H[p]? = some cells → ∀ x ∈ cells, x.1.ok (· ∈ ps) ∧ x.2.ok (· ∈ ts) := by
      intro p hp cells hc x hx
      refine ⟨k2 p hp cells hc x hx, tokIn _ fun i hi => memT i ?_ ?_⟩
      · exact toks_low.1 (inv.tag p cells hc x hx) i hi
      · refine List.mem_append_right _ (List.mem_flatMap.2 ⟨p, hp, ?_⟩)
        unfold blkToks
        rw [getD_some hc]
        exact List.mem_flatMap.2 ⟨x, hx, hi⟩
    have i0 := inv.down hP hT hcells
    have ha0 : RArgs (G.pick ps ts) (S.pick ps ts).T (args.map (argDown sp.kt ps ts)) vs := by
      refine ⟨by simpa using ha.1, fun i h1 h2 => ?_⟩
      simp only [List.length_map] at h1
      simp only [List.getElem_map]
      have hr := ha.2 i h1 h2
      have hok := k1 _ (List.getElem_mem h1)
      by_cases hk : sp.kt = true
      · have e : argDown sp.kt ps ts args[i] = args[i].ren (ps.idxOf ·) (ts.idxOf ·) := by simp [argDown, hk, SV.ren]
        rw [e]
        refine RS.down inv hP hT hr hok (tokIn _ fun j hj => memT j (toks_low.1 (k0 hk _ (List.getElem_mem h1)) j hj) ?_)
        rw [if_pos hk]
        exact List.mem_append_left _ (List.mem_flatMap.2 ⟨_, List.getElem_mem h1, hj⟩)
      · have e : argDown sp.kt ps ts args[i] = SV.ren (ps.idxOf ·) (ts.idxOf ·) (args[i].1, .no) := by simp [argDown, hk, SV.ren, Tag.ren, Tag.ren1]
        rw [e]
        exact RS.down inv hP hT (x := (args[i].1, .no)) (.no hr.1) hok trivial
    have hs := h f sp hf _ _ q hq (bdOf G w ps ts) w (G.pick ps ts) w vs i0 ha0
    have fin : ∀ en w', (∃ G', Inv c (bdOf G w ps ts) w G' q.2 w' ∧ Grows (G.pick ps ts) (S.pick ps ts).T G' q.2.T ∧ OutR G' q.2.T q.1 en) → ∃ G', Inv c B w0 G' S' w' ∧ Grows G S.T G' S'.T ∧ OutR G' S'.T out en := by
      rintro en w' ⟨G0', j0, g0, ho⟩
      have hup := inv.up hP hT j0 g0 k3
      obtain ⟨o, S0⟩ := q
      cases o with
      | ret v =>
        obtain ⟨m1, m2, m3⟩ := k5
        cases m3
        cases en with
        | returned u => exact ⟨_, hup.1, hup.2, RS.up inv hP hT j0 g0 ho m1 (ok_of_low m2)⟩
        | panicked => exact ho.elim
        | outgrown => exact ho.elim
      | panic v =>
        obtain ⟨m1, m3⟩ := k5
        cases m3
        cases en with
        | panicked ch =>
          obtain ⟨u, hu, hr⟩ := ho
          exact ⟨_, hup.1, hup.2, u, hu, (RS.up inv hP hT j0 g0 (x := (v, .no)) (.no hr) m1 trivial).1⟩
        | returned => exact ho.elim
        | outgrown => exact ho.elim
    rcases hs with ⟨e1, e2⟩ | ⟨u, w', e1, e2⟩
    · exact .inl ⟨e1, e2.mono fun en w' he => fin en w' he⟩
    · exact .inr ⟨u, w', e1, fin _ _ e2⟩
  · cases hc
end Go.Ab
