import Derived.Test.YtdiphholophdcabGreatDoorXSAbTrace
set_option linter.all false
section
/- WHAT A CALL COMES TO, BY ITS FUNCTION'S CONTRACT; the table of contracts as a call's run. -/
namespace Go.Ab
open Go.RowKit

/-- what a call comes to -/
inductive Res : Type 1 where
  | fail
  | ret (v : SV) (S : St)
  | panic (v : AV) (S : St)
  | need (p : Prop) (r : Res)
  | cond (b : Bool) (x y : Res)
  | name {α : Type} (e : α) (r : α → Res)
  | ex {α : Type} (P : α → Prop) (h : ∀ x y, P x → P y → x = y) (r : α → Res)

def Res.wp : Res → (SV → St → Prop) → (AV → St → Prop) → Prop
  | .fail, _, _ => False
  | .ret v S, K, _ => K v S
  | .panic v S, _, Kp => Kp v S
  | .need p r, K, Kp => p ∧ r.wp K Kp
  | .cond b x y, K, Kp => (b = true → x.wp K Kp) ∧ (b = false → y.wp K Kp)
  | .name e r, K, Kp => ∀ x, x = e → (r x).wp K Kp
  | .ex P _ r, K, Kp => ∃ x, P x ∧ (r x).wp K Kp
def outTo (p : COut × St) (K : SV → St → Prop) (Kp : AV → St → Prop) : Prop := match p.1 with
  | .ret v => K v p.2
  | .panic v => Kp v p.2
def Res.is (r : Res) (p : COut × St) : Prop := r.wp (fun v S => p = (.ret v, S)) (fun v S => p = (.panic v, S))
theorem Res.mono {r : Res} : ∀ {K K' : SV → St → Prop} {Kp Kp' : AV → St → Prop}, r.wp K Kp → (∀ v S, K v S → K' v S) → (∀ v S, Kp v S → Kp' v S) → r.wp K' Kp' := by
  induction r with
  | fail => intro K K' Kp Kp' h; exact h.elim
  | ret v S => intro K K' Kp Kp' h h1 h2; exact h1 _ _ h
  | panic v S => intro K K' Kp Kp' h h1 h2; exact h2 _ _ h
  | need p r ih => intro K K' Kp Kp' h h1 h2; exact ⟨h.1, ih h.2 h1 h2⟩
  | cond b x y ihx ihy => intro K K' Kp Kp' h h1 h2; exact ⟨fun e => ihx (h.1 e) h1 h2, fun e => ihy (h.2 e) h1 h2⟩
  | name e r ih => intro K K' Kp Kp' h h1 h2 x hx; exact ih x (h x hx) h1 h2
  | ex P u r ih => intro K K' Kp Kp' h h1 h2; obtain ⟨x, hx, h⟩ := h; exact ⟨x, hx, ih x h h1 h2⟩
theorem Res.both {r : Res} : ∀ {K K' : SV → St → Prop} {Kp Kp' : AV → St → Prop}, r.wp K Kp → r.wp K' Kp' → r.wp (fun v S => K v S ∧ K' v S) (fun v S => Kp v S ∧ Kp' v S) := by
  induction r with
  | fail => intro K K' Kp Kp' h; exact h.elim
  | ret v S => intro K K' Kp Kp' h k; exact ⟨h, k⟩
  | panic v S => intro K K' Kp Kp' h k; exact ⟨h, k⟩
  | need p r ih => intro K K' Kp Kp' h k; exact ⟨h.1, ih h.2 k.2⟩
  | cond b x y ihx ihy => intro K K' Kp Kp' h k; exact ⟨fun e => ihx (h.1 e) (k.1 e), fun e => ihy (h.2 e) (k.2 e)⟩
  | name e r ih => intro K K' Kp Kp' h k x hx; exact ih x (h x hx) (k x hx)
  | ex P u r ih =>
    intro K K' Kp Kp' h k
    obtain ⟨x, hx, h⟩ := h
    obtain ⟨y, hy, k⟩ := k
    obtain rfl := u x y hx hy
    exact ⟨x, hx, ih x h k⟩
theorem Res.out {r : Res} {K : SV → St → Prop} {Kp : AV → St → Prop} (h : r.wp K Kp) : ∃ p, r.is p ∧ outTo p K Kp := by
  induction r with
  | fail => exact h.elim
  | ret v S => exact ⟨(.ret v, S), rfl, h⟩
  | panic v S => exact ⟨(.panic v, S), rfl, h⟩
  | need p r ih => obtain ⟨q, h1, h2⟩ := ih h.2; exact ⟨q, ⟨h.1, h1⟩, h2⟩
  | cond b x y ihx ihy =>
    cases b with
    | true => obtain ⟨q, h1, h2⟩ := ihx (h.1 rfl); exact ⟨q, ⟨fun _ => h1, fun e => by cases e⟩, h2⟩
    | false => obtain ⟨q, h1, h2⟩ := ihy (h.2 rfl); exact ⟨q, ⟨fun e => (by cases e), fun _ => h1⟩, h2⟩
  | name e r ih => obtain ⟨q, h1, h2⟩ := ih e (h e rfl); exact ⟨q, fun x hx => by subst hx; exact h1, h2⟩
  | ex P u r ih => obtain ⟨x, hx, h⟩ := h; obtain ⟨q, h1, h2⟩ := ih x h; exact ⟨q, ⟨x, hx, h1⟩, h2⟩
theorem Res.to {r : Res} {K : SV → St → Prop} {Kp : AV → St → Prop} {p : COut × St} (h : r.wp K Kp) (hp : r.is p) : outTo p K Kp := by
  have hb := Res.both h hp
  obtain ⟨q, _, h2⟩ := Res.out hb
  unfold outTo at h2
  split at h2
  · rename_i v hv
    obtain ⟨h3, h4⟩ := h2
    rw [h4]
    exact h3
  · rename_i v hv
    obtain ⟨h3, h4⟩ := h2
    rw [h4]
    exact h3

/-- what a contract hands on: nothing of its arguments' tokens, them, or nothing, and its result's parts are not looked at one by one -/
inductive KT where
  | no
  | yes
  | big
instance : Coe Bool KT := ⟨fun b => match b with
  | true => .yes
  | false => .no⟩
/-- a function's contract: 'kt': the tokens of its arguments are handed on -/
structure Spec where
  kt0 : KT
  res : List SV → St → Res
def Spec.kt (sp : Spec) : Bool := match sp.kt0 with
  | .yes => true
  | _ => false
theorem AV.ok_low0 {P : Nat → Prop} {x : AV} (h : x.low 0 = true) : x.ok P := by
  have one : ∀ {y : AV}, y.low 0 = true → y.ok1 P := by
    intro y hy
    cases y <;> first | exact hy | (simp [AV.low] at hy)
  rcases scalar_cases x with ⟨f, a, b, rfl⟩ | ⟨cs, rfl⟩ | ⟨cs, rfl⟩ | ⟨h1, h2⟩
  · simp only [AV.low, Bool.and_eq_true, lows_iff] at h
    exact ⟨fun y hy => one (h.1 y hy), fun y hy => one (h.2 y hy)⟩
  · simp only [AV.low, lows_iff] at h
    exact fun y hy => one (h y hy)
  · simp only [AV.low, lows_iff] at h
    exact fun y hy => one (h y hy)
  · rw [h1]; exact one h
theorem AV.ren_low0 {r : Nat → Nat} {x : AV} (h : x.low 0 = true) : x.ren r = x := by
  have all : ∀ (cs : List AV), (∀ y ∈ cs, y.low 0 = true) → cs.map (AV.ren1 r) = cs := fun cs hc => by
    conv => rhs; rw [← List.map_id cs]
    exact List.map_congr_left fun y hy => AV.ren1_low0 (hc y hy)
  rcases scalar_cases x with ⟨f, a, b, rfl⟩ | ⟨cs, rfl⟩ | ⟨cs, rfl⟩ | ⟨h1, h2⟩
  · simp only [AV.low, Bool.and_eq_true, lows_iff] at h
    simp only [AV.ren, all a h.1, all b h.2]
  · simp only [AV.low, lows_iff] at h
    simp only [AV.ren, all cs h]
  · simp only [AV.low, lows_iff] at h
    simp only [AV.ren, all cs h]
  · rw [h2]; exact AV.ren1_low0 h

/-- THE FUNCTION MEETS THE CONTRACT -/
def SpecSound (c : Ctx) (f : FuncId) (sp : Spec) : Prop := ∀ args S p, (sp.res args S).is p →
  ∀ (B : Bd) (w0 : World) (G : Gh) (w : World) (vs : Array Value), Inv c B w0 G S w → RArgs G S.T args vs →
    CallTo c.P f vs w fun en w' => ∃ G', Inv c B w0 G' p.2 w' ∧ Grows G S.T G' p.2.T ∧ OutR G' p.2.T p.1 en

/-! ### which blocks and tokens a call is handed -/
def AV.ptrs1 : AV → List Nat
  | .ptr b _ => [b]
  | .slr b _ _ => [b]
  | .bself _ b => [b]
  | _ => []
def AV.ptrs : AV → List Nat
  | .agg cs => cs.flatMap AV.ptrs1
  | .tup cs => cs.flatMap AV.ptrs1
  | .fn _ a b => a.flatMap AV.ptrs1 ++ b.flatMap AV.ptrs1
  | x => x.ptrs1
def Tag.toks1 : Tag → List Nat
  | .tok i => [i]
  | _ => []
def Tag.toks : Tag → List Nat
  | .agg ts => ts.flatMap Tag.toks1
  | x => x.toks1
def blkPtrs (S : St) (b : Nat) : List Nat := (S.H.getD b []).flatMap fun x => x.1.ptrs
def blkToks (S : St) (b : Nat) : List Nat := (S.H.getD b []).flatMap fun x => x.2.toks
def reach (S : St) : Nat → List Nat → List Nat
  | 0, l => l
  | n + 1, l => reach S n (l ++ (l.flatMap (blkPtrs S)).filter fun b => !l.contains b)
def pickP (args : List SV) (S : St) : List Nat :=
  match args.flatMap (fun x => x.1.ptrs) with
  | [] => []
  | l => (List.range S.H.length).filter ((reach S 4 l).contains ·)
def pickT (kt : Bool) (args : List SV) (S : St) (ps : List Nat) : List Nat :=
  match (if kt then args.flatMap (fun x => x.2.toks) else []) ++ ps.flatMap (blkToks S) with
  | [] => []
  | l => (List.range S.T.length).filter (l.contains ·)
theorem picks_nil (n : Nat) : Picks [] n := ⟨by simp, by simp⟩
theorem picks_filter (n : Nat) (f : Nat → Bool) : Picks ((List.range n).filter f) n := by
  refine ⟨fun p hp => by simpa using (List.mem_filter.1 hp).1, fun i j hi hj hij => ?_⟩
  have hs : ((List.range n).filter f).Pairwise (· < ·) := List.Pairwise.filter _ List.pairwise_lt_range
  exact List.pairwise_iff_getElem.1 hs i j hi hj hij
theorem picks_P (args : List SV) (S : St) : Picks (pickP args S) S.H.length := by
  unfold pickP
  split
  · exact picks_nil _
  · exact picks_filter _ _
theorem picks_T (kt : Bool) (args : List SV) (S : St) (ps : List Nat) : Picks (pickT kt args S ps) S.T.length := by
  unfold pickT
  split
  · exact picks_nil _
  · exact picks_filter _ _

/-! ### what must hold of the values handed over -/
/-- pointers lead to P; what lies deeper holds none; then K -/
def okW1 (P : Nat → Bool) (x : AV) (K : Prop) : Prop := match x with
  | .ptr b _ => onlyIf (P b) K
  | .slr b _ _ => onlyIf (P b) K
  | .bself _ b => onlyIf (P b) K
  | .sl xs => AV.lows 0 xs = true ∧ K
  | .iface _ (.sl xs) => AV.lows 0 xs = true ∧ K
  | x => onlyIf (x.low 0) K
def okWs (P : Nat → Bool) : List AV → Prop → Prop
  | [], K => K
  | x :: xs, K => okW1 P x (okWs P xs K)
def okW (P : Nat → Bool) (x : AV) (K : Prop) : Prop := match x with
  | .agg cs => okWs P cs K
  | .tup cs => okWs P cs K
  | .fn _ a b => okWs P a (okWs P b K)
  | x => okW1 P x K
theorem okW1_iff {P : Nat → Bool} {x : AV} {K : Prop} (h : okW1 P x K) : x.ok1 (P · = true) ∧ K := by
  unfold okW1 at h
  split at h
  · exact onlyIf_iff h
  · exact onlyIf_iff h
  · exact onlyIf_iff h
  · exact ⟨by simpa [AV.ok1, AV.low] using h.1, h.2⟩
  · exact ⟨by simpa [AV.ok1, AV.low] using h.1, h.2⟩
  · rename_i h1 h2 h5 h3 h4
    obtain ⟨k1, k2⟩ := onlyIf_iff h
    refine ⟨?_, k2⟩
    cases x <;> first | exact k1 | exact absurd rfl (h1 _ _) | exact absurd rfl (h2 _ _ _) | exact absurd rfl (h5 _ _)
theorem okWs_iff {P : Nat → Bool} : ∀ {xs : List AV} {K : Prop}, okWs P xs K → (∀ x ∈ xs, x.ok1 (P · = true)) ∧ K
  | [], K, h => ⟨by simp, h⟩
  | x :: xs, K, h => by
    obtain ⟨h1, h2⟩ := okW1_iff h
    obtain ⟨h3, h4⟩ := okWs_iff h2
    exact ⟨fun y hy => by rcases List.mem_cons.1 hy with rfl | hy; exact h1; exact h3 y hy, h4⟩
theorem okW_iff {P : Nat → Bool} {x : AV} {K : Prop} (h : okW P x K) : x.ok (P · = true) ∧ K := by
  unfold okW at h
  split at h
  · exact okWs_iff h
  · exact okWs_iff h
  · obtain ⟨h1, h2⟩ := okWs_iff h
    obtain ⟨h3, h4⟩ := okWs_iff h2
    exact ⟨⟨h1, h3⟩, h4⟩
  · rename_i h1 h2 h3
    obtain ⟨k1, k2⟩ := okW1_iff h
    refine ⟨?_, k2⟩
    cases x <;> first | exact k1 | exact absurd rfl (h1 _) | exact absurd rfl (h2 _) | exact absurd rfl (h3 _ _ _)
theorem onlyIf_mono {b : Bool} {p q : Prop} (h : onlyIf b p) (k : p → q) : onlyIf b q := by
  cases b with
  | true => exact k h
  | false => exact h
theorem okW1_mono {P : Nat → Bool} {x : AV} {K K' : Prop} (h : okW1 P x K) (k : K → K') : okW1 P x K' := by
  unfold okW1 at h ⊢
  split at h
  · exact onlyIf_mono h k
  · exact onlyIf_mono h k
  · exact onlyIf_mono h k
  · exact ⟨h.1, k h.2⟩
  · exact ⟨h.1, k h.2⟩
  · exact onlyIf_mono h k
theorem okWs_mono {P : Nat → Bool} : ∀ {xs : List AV} {K K' : Prop}, okWs P xs K → (K → K') → okWs P xs K'
  | [], _, _, h, k => k h
  | _ :: _, _, _, h, k => okW1_mono h fun h => okWs_mono h k
theorem okW_mono {P : Nat → Bool} {x : AV} {K K' : Prop} (h : okW P x K) (k : K → K') : okW P x K' := by
  unfold okW at h ⊢
  split at h
  · exact okWs_mono h k
  · exact okWs_mono h k
  · exact okWs_mono h fun h => okWs_mono h k
  · exact okW1_mono h k
def okArgs (P : Nat → Bool) : List SV → Prop → Prop
  | [], K => K
  | x :: xs, K => okW P x.1 (okArgs P xs K)
theorem okArgs_iff {P : Nat → Bool} : ∀ {xs : List SV} {K : Prop}, okArgs P xs K → (∀ x ∈ xs, x.1.ok (P · = true)) ∧ K
  | [], K, h => ⟨by simp, h⟩
  | x :: xs, K, h => by
    obtain ⟨h1, h2⟩ := okW_iff h
    obtain ⟨h3, h4⟩ := okArgs_iff h2
    exact ⟨fun y hy => by rcases List.mem_cons.1 hy with rfl | hy; exact h1; exact h3 y hy, h4⟩
theorem okArgs_mono {P : Nat → Bool} : ∀ {xs : List SV} {K K' : Prop}, okArgs P xs K → (K → K') → okArgs P xs K'
  | [], _, _, h, k => k h
  | _ :: _, _, _, h, k => okW_mono h fun h => okArgs_mono h k
def okBlks (P : Nat → Bool) : List Blk → Prop → Prop
  | [], K => K
  | x :: xs, K => okArgs P x (okBlks P xs K)
theorem okBlks_iff {P : Nat → Bool} : ∀ {xs : List Blk} {K : Prop}, okBlks P xs K → (∀ cs ∈ xs, ∀ x ∈ cs, x.1.ok (P · = true)) ∧ K
  | [], K, h => ⟨by simp, h⟩
  | x :: xs, K, h => by
    obtain ⟨h1, h2⟩ := okArgs_iff h
    obtain ⟨h3, h4⟩ := okBlks_iff h2
    exact ⟨fun y hy => by rcases List.mem_cons.1 hy with rfl | hy; exact h1; exact h3 y hy, h4⟩
theorem okBlks_mono {P : Nat → Bool} : ∀ {xs : List Blk} {K K' : Prop}, okBlks P xs K → (K → K') → okBlks P xs K'
  | [], _, _, h, k => k h
  | _ :: _, _, _, h, k => okArgs_mono h fun h => okBlks_mono h k
theorem AV.ok1.mono {P Q : Nat → Prop} (h : ∀ b, P b → Q b) {x : AV} (hx : x.ok1 P) : x.ok1 Q := by
  cases x <;> first | exact hx | exact h _ hx
theorem AV.ok.mono {P Q : Nat → Prop} (h : ∀ b, P b → Q b) {x : AV} (hx : x.ok P) : x.ok Q := by
  rcases scalar_cases x with ⟨f, a, b, rfl⟩ | ⟨cs, rfl⟩ | ⟨cs, rfl⟩ | ⟨h1, h2⟩
  · exact ⟨fun y hy => (hx.1 y hy).mono h, fun y hy => (hx.2 y hy).mono h⟩
  · exact fun y hy => (hx y hy).mono h
  · exact fun y hy => (hx y hy).mono h
  · rw [h1] at hx ⊢; exact hx.mono h

/-- an argument, as the call sees it -/
def argDown (kt : Bool) (ps ts : List Nat) (x : SV) : SV := (x.1.ren (ps.idxOf ·), if kt then x.2.ren (ts.idxOf ·) else .no)
def SV.up (ps ts : List Nat) (S : St) (x : SV) : SV := x.ren (upN ps S.H.length) (upN ts S.T.length)
def AV.up (ps : List Nat) (S : St) (x : AV) : AV := x.ren (upN ps S.H.length)
/-- the tokens of the blocks that were there are none but those that were there -/
def tagsKept : List Blk → List Blk → Bool
  | [], _ => true
  | _ :: _, [] => false
  | o :: os, n :: ns => (n.flatMap (·.2.toks)).all (fun i => (o.flatMap (·.2.toks)).contains i) && tagsKept os ns

/-- A CALL BY ITS CONTRACT, seen from its caller -/
def Spec.wp (sp : Spec) (args : List SV) (S : St) (K : SV → St → Prop) (Kp : AV → St → Prop) : Prop :=
  onlyIf (!sp.kt || args.all fun x => x.2.low S.T.length) <|
  okArgs ((pickP args S).contains ·) args <|
  okBlks ((pickP args S).contains ·) ((pickP args S).map (S.H.getD · [])) <|
  (sp.res (args.map (argDown sp.kt (pickP args S) (pickT sp.kt args S (pickP args S)))) (S.pick (pickP args S) (pickT sp.kt args S (pickP args S)))).wp
    (fun v S0 => match sp.kt0 with
      | .big => (v.1.low 0 = true ∧ v.2 = .no) ∧ okBlks (fun _ => true) S0.H (onlyIf (tagsKept (S.pick (pickP args S) (pickT sp.kt args S (pickP args S))).H S0.H)
        (K v (S.merge (pickP args S) (pickT sp.kt args S (pickP args S)) S0)))
      | _ => okArgs (fun _ => true) [v] <| okBlks (fun _ => true) S0.H <|
      onlyIf (v.2.low S0.T.length && tagsKept (S.pick (pickP args S) (pickT sp.kt args S (pickP args S))).H S0.H)
        (K (v.up (pickP args S) (pickT sp.kt args S (pickP args S)) S) (S.merge (pickP args S) (pickT sp.kt args S (pickP args S)) S0)))
    (fun v S0 => okArgs (fun _ => true) [(v, .no)] <| okBlks (fun _ => true) S0.H <|
      onlyIf (tagsKept (S.pick (pickP args S) (pickT sp.kt args S (pickP args S))).H S0.H)
        (Kp (v.up (pickP args S) S) (S.merge (pickP args S) (pickT sp.kt args S (pickP args S)) S0)))
def Spec.is (sp : Spec) (args : List SV) (S : St) (p : COut × St) : Prop := sp.wp args S (fun v S => p = (.ret v, S)) (fun v S => p = (.panic v, S))
open Classical in
/-- as a run -/
noncomputable def Spec.run (sp : Spec) (args : List SV) (S : St) : Option (COut × St) := if h : ∃ p, sp.is args S p then some (Classical.choose h) else none
theorem Spec.run_is {sp : Spec} {args : List SV} {S : St} {p : COut × St} (h : sp.run args S = some p) : sp.is args S p := by
  unfold Spec.run at h
  split at h
  · rename_i hx; cases h; exact Classical.choose_spec hx
  · cases h

/-- the parts of a call's condition -/
theorem Spec.wp_parts {sp : Spec} {args : List SV} {S : St} {K : SV → St → Prop} {Kp : AV → St → Prop} (h : sp.wp args S K Kp) :
    (sp.kt = true → ∀ x ∈ args, x.2.low S.T.length = true) ∧ (∀ x ∈ args, x.1.ok (· ∈ pickP args S)) ∧ (∀ p ∈ pickP args S, ∀ cells, S.H[p]? = some cells → ∀ x ∈ cells, x.1.ok (· ∈ pickP args S)) ∧
    ∃ p0, (sp.res (args.map (argDown sp.kt (pickP args S) (pickT sp.kt args S (pickP args S)))) (S.pick (pickP args S) (pickT sp.kt args S (pickP args S)))).is p0 ∧
      (∀ cells ∈ p0.2.H, ∀ x ∈ cells, x.1.ok fun _ => True) ∧ tagsKept (S.pick (pickP args S) (pickT sp.kt args S (pickP args S))).H p0.2.H = true ∧
      match p0.1 with
      | .ret v => (v.1.ok fun _ => True) ∧ v.2.low p0.2.T.length = true ∧ K (v.up (pickP args S) (pickT sp.kt args S (pickP args S)) S) (S.merge (pickP args S) (pickT sp.kt args S (pickP args S)) p0.2)
      | .panic v => (v.ok fun _ => True) ∧ Kp (v.up (pickP args S) S) (S.merge (pickP args S) (pickT sp.kt args S (pickP args S)) p0.2) := by
  obtain ⟨h0, h⟩ := onlyIf_iff h
  obtain ⟨h1, h2⟩ := okArgs_iff h
  obtain ⟨h3, h4⟩ := okBlks_iff h2
  have toP : ∀ b, (pickP args S).contains b = true → b ∈ pickP args S := fun b hb => by simpa using hb
  refine ⟨fun hk x hx => by rw [hk] at h0; simp only [Bool.not_true, Bool.false_or, List.all_eq_true] at h0; exact h0 x hx, fun x hx => (h1 x hx).mono toP, fun p hp cells hc x hx => (h3 cells ?_ x hx).mono toP, ?_⟩
  · exact List.mem_map.2 ⟨p, hp, getD_some hc⟩
  · obtain ⟨p0, k1, k2⟩ := Res.out h4
    refine ⟨p0, k1, ?_⟩
    unfold outTo at k2
    obtain ⟨o, S0⟩ := p0
    cases o with
    | ret v =>
      simp only at k2
      split at k2
      · obtain ⟨⟨g1, g2⟩, q2⟩ := k2
        obtain ⟨q3, q4⟩ := okBlks_iff q2
        obtain ⟨q5, q6⟩ := onlyIf_iff q4
        refine ⟨fun cs hcs x hx => (q3 cs hcs x hx).mono fun _ _ => trivial, q5, AV.ok_low0 g1, by rw [g2]; rfl, ?_⟩
        have e : v.up (pickP args S) (pickT sp.kt args S (pickP args S)) S = v := by
          obtain ⟨v1, v2⟩ := v
          simp only at g1 g2
          subst g2
          show (_, _) = (_, _)
          rw [AV.ren_low0 g1]; rfl
        rw [e]; exact q6
      · obtain ⟨q1, q2⟩ := okArgs_iff k2
        obtain ⟨q3, q4⟩ := okBlks_iff q2
        obtain ⟨q5, q6⟩ := onlyIf_iff q4
        simp only [Bool.and_eq_true] at q5
        exact ⟨fun cs hcs x hx => (q3 cs hcs x hx).mono fun _ _ => trivial, q5.2, (q1 v (by simp)).mono fun _ _ => trivial, q5.1, q6⟩
    | panic v =>
      obtain ⟨q1, q2⟩ := okArgs_iff k2
      obtain ⟨q3, q4⟩ := okBlks_iff q2
      obtain ⟨q5, q6⟩ := onlyIf_iff q4
      exact ⟨fun cs hcs x hx => (q3 cs hcs x hx).mono fun _ _ => trivial, q5, (q1 (v, .no) (by simp)).mono fun _ _ => trivial, q6⟩
theorem Res.is_one {r : Res} {p q : COut × St} (hp : r.is p) (hq : r.is q) : p = q := by
  have h : outTo p (fun v S => q = (.ret v, S)) (fun v S => q = (.panic v, S)) := Res.to hq hp
  unfold outTo at h
  obtain ⟨o, S⟩ := p
  cases o <;> exact h.symm
theorem Spec.run_to {sp : Spec} {args : List SV} {S : St} {K : SV → St → Prop} {Kp : AV → St → Prop} (h : sp.wp args S K Kp) : ∃ p, sp.run args S = some p ∧ outTo p K Kp := by
  have ex : ∃ p, sp.is args S p := by
    obtain ⟨_, _, _, q, hq, _⟩ := Spec.wp_parts h
    refine ⟨match q.1 with
      | .ret v => (.ret (v.up (pickP args S) (pickT sp.kt args S (pickP args S)) S), S.merge (pickP args S) (pickT sp.kt args S (pickP args S)) q.2)
      | .panic v => (.panic (v.up (pickP args S) S), S.merge (pickP args S) (pickT sp.kt args S (pickP args S)) q.2), ?_⟩
    unfold Spec.is
    unfold Spec.wp at h ⊢
    refine onlyIf_mono h fun h => okArgs_mono h fun h => okBlks_mono h fun h => ?_
    refine Res.mono (Res.both h hq) (fun v S0 k => ?_) (fun v S0 k => ?_)
    · obtain ⟨k1, k2⟩ := k
      subst k2
      split at k1
      · obtain ⟨g, k1⟩ := k1
        refine ⟨g, okBlks_mono k1 fun k => onlyIf_mono k fun _ => ?_⟩
        have e : v.up (pickP args S) (pickT sp.kt args S (pickP args S)) S = v := by
          obtain ⟨v1, v2⟩ := v
          obtain ⟨g1, g2⟩ := g
          simp only at g1 g2
          subst g2
          show (_, _) = (_, _)
          rw [AV.ren_low0 g1]; rfl
        simp only [e]
      · exact okArgs_mono k1 fun k => okBlks_mono k fun k => onlyIf_mono k fun _ => rfl
    · obtain ⟨k1, k2⟩ := k
      subst k2
      exact okArgs_mono k1 fun k => okBlks_mono k fun k => onlyIf_mono k fun _ => rfl
  have hrun : sp.run args S = some (Classical.choose ex) := by unfold Spec.run; rw [dif_pos ex]
  refine ⟨_, hrun, ?_⟩
  have his := Classical.choose_spec ex
  generalize Classical.choose ex = p at his
  obtain ⟨_, _, _, q, hq, _, _, h1⟩ := Spec.wp_parts h
  obtain ⟨_, _, _, q', hq', _, _, h2⟩ := Spec.wp_parts his
  obtain rfl := Res.is_one hq hq'
  obtain ⟨o, S0⟩ := q
  cases o with
  | ret v =>
    obtain ⟨_, _, h3⟩ := h1
    obtain ⟨_, _, h4⟩ := h2
    rw [h4]; exact h3
  | panic v =>
    obtain ⟨_, h3⟩ := h1
    obtain ⟨_, h4⟩ := h2
    rw [h4]; exact h3

/-! ### the table of contracts -/
abbrev Tab := FuncId → Option Spec
noncomputable def callOf (tab : Tab) : CallFn := fun f args S => match tab f with
  | some sp => sp.run args S
  | none => none
def TabSound (c : Ctx) (tab : Tab) : Prop := ∀ f sp, tab f = some sp → SpecSound c f sp

theorem toks_low1 {t : Tag} {m : Nat} : t.low1 m = true ↔ ∀ i ∈ t.toks1, i < m := by
  cases t <;> simp [Tag.low1, Tag.toks1]
theorem toks_low {t : Tag} {m : Nat} : t.low m = true ↔ ∀ i ∈ t.toks, i < m := by
  cases t with
  | agg ts =>
    simp only [Tag.low, Tag.toks, List.all_eq_true, List.mem_flatMap]
    constructor
    · intro h i ⟨y, hy, hi⟩; exact toks_low1.1 (h y hy) i hi
    · intro h y hy; exact toks_low1.2 fun i hi => h i ⟨y, hy, hi⟩
  | tok i => simp [Tag.low, Tag.low1, Tag.toks, Tag.toks1]
  | no => simp [Tag.low, Tag.low1, Tag.toks, Tag.toks1]
  | full => simp [Tag.low, Tag.low1, Tag.toks, Tag.toks1]
theorem toks1_ren {t : Nat → Nat} {x : Tag} {i : Nat} (h : i ∈ (x.ren1 t).toks1) : ∃ j ∈ x.toks1, i = t j := by
  cases x with
  | tok j => simp [Tag.ren1, Tag.toks1] at h ⊢; exact h
  | _ => simp [Tag.ren1, Tag.toks1] at h
theorem toks_ren {t : Nat → Nat} {x : Tag} {i : Nat} (h : i ∈ (x.ren t).toks) : ∃ j ∈ x.toks, i = t j := by
  cases x with
  | agg ts =>
    simp only [Tag.ren, Tag.toks, List.mem_flatMap, List.mem_map] at h
    obtain ⟨y, ⟨z, hz, rfl⟩, hi⟩ := h
    obtain ⟨j, hj, e⟩ := toks1_ren hi
    exact ⟨j, List.mem_flatMap.2 ⟨z, hz, hj⟩, e⟩
  | tok j => simp [Tag.ren, Tag.ren1, Tag.toks, Tag.toks1] at h ⊢; exact h
  | no => simp [Tag.ren, Tag.ren1, Tag.toks, Tag.toks1] at h
  | full => simp [Tag.ren, Tag.ren1, Tag.toks, Tag.toks1] at h
theorem tagsKept_len : ∀ {os ns : List Blk}, tagsKept os ns = true → os.length ≤ ns.length
  | [], _, _ => Nat.zero_le _
  | _ :: _, [], h => by cases h
  | o :: os, n :: ns, h => by
    simp only [tagsKept, Bool.and_eq_true] at h
    have := tagsKept_len h.2
    simp; omega
theorem tagsKept_at : ∀ {os ns : List Blk}, tagsKept os ns = true → ∀ (i : Nat) (o n : Blk), os[i]? = some o → ns[i]? = some n → ∀ k ∈ n.flatMap (·.2.toks), k ∈ o.flatMap (·.2.toks)
  | [], _, _, i, o, n, ho, _ => by simp at ho
  | _ :: _, [], h, i, o, n, _, hn => by cases h
  | o :: os, n :: ns, h, i, o', n', ho, hn => by
    simp only [tagsKept, Bool.and_eq_true, List.all_eq_true] at h
    cases i with
    | zero =>
      simp at ho hn
      subst ho; subst hn
      intro k hk
      simpa using h.1 k hk
    | succ i => exact tagsKept_at h.2 i o' n' (by simpa using ho) (by simpa using hn)

theorem Spec.run_steps {sp : Spec} {args : List SV} {S : St} {out : COut} {S' : St} (h : sp.run args S = some (out, S')) : Steps1 S.H.length S S' := by
  have his := Spec.run_is h
  obtain ⟨_, _, _, q, hq, _, hk, h2⟩ := Spec.wp_parts his
  have hS : S' = S.merge (pickP args S) (pickT sp.kt args S (pickP args S)) q.2 := by
    obtain ⟨o, S0⟩ := q
    cases o with
    | ret v => obtain ⟨_, _, h4⟩ := h2; cases h4; rfl
    | panic v => obtain ⟨_, h4⟩ := h2; cases h4; rfl
  have hlen : (pickP args S).length ≤ q.2.H.length := by simpa [St.pick] using tagsKept_len hk
  subst hS
  have hP := picks_P args S
  refine ⟨?_, fun n m hn ht b cells hb hc x hx => ?_⟩
  · show S.H.length ≤ (mergeAll _ _ _).length
    rw [mergeAll_len (by simpa using hlen)]; omega
  · rcases mergeAll_at (new := q.2.H.map (upBlk (pickP args S) (pickT sp.kt args S (pickP args S)) S.H.length S.T.length)) hP (by simpa using hlen) b with ⟨i, hi, h1, h2⟩ | ⟨h1, h2, h3⟩ | h1
    · have hi' : i < q.2.H.length := by simpa using hi
      have hip : i < (pickP args S).length := by
        rcases Nat.lt_or_ge i (pickP args S).length with hl | hl
        · exact hl
        · rw [upN_ge hl] at h1; omega
      rw [upN_lt hip] at h1
      have hc' : cells = upBlk (pickP args S) (pickT sp.kt args S (pickP args S)) S.H.length S.T.length q.2.H[i] := by
        have : (S.merge (pickP args S) (pickT sp.kt args S (pickP args S)) q.2).H[b]? = some cells := hc
        rw [show (S.merge (pickP args S) (pickT sp.kt args S (pickP args S)) q.2).H = mergeAll (pickP args S) (q.2.H.map (upBlk (pickP args S) (pickT sp.kt args S (pickP args S)) S.H.length S.T.length)) S.H from rfl, h2] at this
        simpa using this.symm
      subst hc'
      obtain ⟨y, hy, rfl⟩ := List.mem_map.1 hx
      rw [toks_low]
      intro k hk'
      obtain ⟨j, hj, rfl⟩ := toks_ren hk'
      have hlt := hP.lt _ (List.getElem_mem hip)
      have hold : (S.pick (pickP args S) (pickT sp.kt args S (pickP args S))).H[i]? = some (downBlk (pickP args S) (pickT sp.kt args S (pickP args S)) S.H[(pickP args S)[i]]) := by
        simp only [St.pick, List.getElem?_map]
        rw [List.getElem?_eq_getElem hip, Option.map_some, getD_some (List.getElem?_eq_getElem hlt)]
      have hmem := tagsKept_at hk i _ _ hold (List.getElem?_eq_getElem hi') j (List.mem_flatMap.2 ⟨y, hy, hj⟩)
      obtain ⟨z, hz, hjz⟩ := List.mem_flatMap.1 hmem
      obtain ⟨u, hu, rfl⟩ := List.mem_map.1 hz
      obtain ⟨j0, hj0, rfl⟩ := toks_ren hjz
      have hlow := ht _ _ (by rw [← h1]; exact hb) (List.getElem?_eq_getElem hlt) u hu
      rw [toks_low] at hlow
      have hj0m := hlow j0 hj0
      by_cases hTm : j0 ∈ pickT sp.kt args S (pickP args S)
      · obtain ⟨g1, g2⟩ := mem_idx hTm
        rw [upN_lt g1, g2]
        exact hj0m
      · have hge : S.T.length ≤ j0 := by
          rcases Nat.lt_or_ge j0 S.T.length with hl | hl
          · exfalso
            apply hTm
            have hin : j0 ∈ (pickP args S).flatMap (blkToks S) := by
              refine List.mem_flatMap.2 ⟨_, List.getElem_mem hip, ?_⟩
              unfold blkToks
              rw [getD_some (List.getElem?_eq_getElem hlt)]
              exact List.mem_flatMap.2 ⟨u, hu, hj0⟩
            have hin2 : j0 ∈ (if sp.kt then args.flatMap (fun x => x.2.toks) else []) ++ (pickP args S).flatMap (blkToks S) := List.mem_append_right _ hin
            unfold pickT
            split
            · rename_i e; rw [e] at hin2; cases hin2
            · rename_i l hne
              refine List.mem_filter.2 ⟨by simpa using hl, ?_⟩
              simpa using hin2
          · exact hl
        rw [List.idxOf_eq_length hTm, upN_ge (Nat.le_refl _)]
        omega
    · exact ht b cells hb (by rw [← h3]; exact hc) x hx
    · rw [show (S.merge (pickP args S) (pickT sp.kt args S (pickP args S)) q.2).H = mergeAll (pickP args S) (q.2.H.map (upBlk (pickP args S) (pickT sp.kt args S (pickP args S)) S.H.length S.T.length)) S.H from rfl, h1] at hc; cases hc

theorem tab_tags (tab : Tab) : CallTags (callOf tab) := by
  intro f args S out S' h
  unfold callOf at h
  split at h
  · exact Spec.run_steps h
  · cases h
/-- A CALL BY CONTRACT IS THE MACHINE'S. -/
theorem tab_sound {c : Ctx} {tab : Tab} (h : TabSound c tab) : CallSound c (callOf tab) := by
  intro f args S out S' hc B w0 G w vs inv ha
  unfold callOf at hc
  split at hc
  · rename_i sp hf
    have his := Spec.run_is hc
    obtain ⟨k0, k1, k2, q, hq, k3, k4, k5⟩ := Spec.wp_parts his
    have hP := picks_P args S
    have hT := picks_T sp.kt args S (pickP args S)
    generalize hps : pickP args S = ps at *
    generalize hts : pickT sp.kt args S ps = ts at *
    have tokIn : ∀ (t : Tag), (∀ i ∈ t.toks, i ∈ ts) → t.ok (· ∈ ts) := by
      intro t ht
      cases t with
      | tok i => exact ht i (by simp [Tag.toks, Tag.toks1])
      | agg l =>
        intro y hy
        cases y with
        | tok i => exact ht i (List.mem_flatMap.2 ⟨_, hy, by simp [Tag.toks1]⟩)
        | _ => trivial
      | _ => trivial
    have memT : ∀ j, j < S.T.length → j ∈ (if sp.kt then args.flatMap (fun x => x.2.toks) else []) ++ ps.flatMap (blkToks S) → j ∈ ts := by
      intro j hj hin
      rw [← hts]
      unfold pickT
      split
      · rename_i e; rw [e] at hin; cases hin
      · exact List.mem_filter.2 ⟨by simpa using hj, by simpa using hin⟩
    have hcells : ∀ p ∈ ps, ∀ cells, S.H[p]? = some cells → ∀ x ∈ cells, x.1.ok (· ∈ ps) ∧ x.2.ok (· ∈ ts) := by
      intro p hp cells hc x hx
      refine ⟨k2 p hp cells hc x hx, tokIn _ fun i hi => memT i ?_ ?_⟩
      · exact toks_low.1 (inv.tag p cells hc x hx) i hi
      · refine List.mem_append_right _ (List.mem_flatMap.2 ⟨p, hp, ?_⟩)
        unfold blkToks
        rw [getD_some hc]
        exact List.mem_flatMap.2 ⟨x, hx, hi⟩
    have i0 := inv.down hP hT hcells
    have ha0 : RArgs (G.pick ps ts) (S.pick ps ts).T (args.map (argDown sp.kt ps ts)) vs := by
      refine ⟨by simpa using ha.1, fun i h1 h2 => ?_⟩
      simp only [List.length_map] at h1
      simp only [List.getElem_map]
      have hr := ha.2 i h1 h2
      have hok := k1 _ (List.getElem_mem h1)
      by_cases hk : sp.kt = true
      · have e : argDown sp.kt ps ts args[i] = args[i].ren (ps.idxOf ·) (ts.idxOf ·) := by simp [argDown, hk, SV.ren]
        rw [e]
        refine RS.down inv hP hT hr hok (tokIn _ fun j hj => memT j (toks_low.1 (k0 hk _ (List.getElem_mem h1)) j hj) ?_)
        rw [if_pos hk]
        exact List.mem_append_left _ (List.mem_flatMap.2 ⟨_, List.getElem_mem h1, hj⟩)
      · have e : argDown sp.kt ps ts args[i] = SV.ren (ps.idxOf ·) (ts.idxOf ·) (args[i].1, .no) := by simp [argDown, hk, SV.ren, Tag.ren, Tag.ren1]
        rw [e]
        exact RS.down inv hP hT (x := (args[i].1, .no)) (.no hr.1) hok trivial
    have hs := h f sp hf _ _ q hq (bdOf G w ps ts) w (G.pick ps ts) w vs i0 ha0
    have fin : ∀ en w', (∃ G', Inv c (bdOf G w ps ts) w G' q.2 w' ∧ Grows (G.pick ps ts) (S.pick ps ts).T G' q.2.T ∧ OutR G' q.2.T q.1 en) → ∃ G', Inv c B w0 G' S' w' ∧ Grows G S.T G' S'.T ∧ OutR G' S'.T out en := by
      rintro en w' ⟨G0', j0, g0, ho⟩
      have hup := inv.up hP hT j0 g0 k3
      obtain ⟨o, S0⟩ := q
      cases o with
      | ret v =>
        obtain ⟨m1, m2, m3⟩ := k5
        cases m3
        cases en with
        | returned u => exact ⟨_, hup.1, hup.2, RS.up inv hP hT j0 g0 ho m1 (ok_of_low m2)⟩
        | panicked => exact ho.elim
        | outgrown => exact ho.elim
      | panic v =>
        obtain ⟨m1, m3⟩ := k5
        cases m3
        cases en with
        | panicked ch =>
          obtain ⟨u, hu, hr⟩ := ho
          exact ⟨_, hup.1, hup.2, u, hu, (RS.up inv hP hT j0 g0 (x := (v, .no)) (.no hr) m1 trivial).1⟩
        | returned => exact ho.elim
        | outgrown => exact ho.elim
    rcases hs with ⟨e1, e2⟩ | ⟨u, w', e1, e2⟩
    · exact .inl ⟨e1, e2.mono fun en w' he => fin en w' he⟩
    · exact .inr ⟨u, w', e1, fin _ _ e2⟩
  · cases hc
end Go.Ab
end
section
/- CONDITIONS OF OPERATIONS THAT MOVE THE STATE; of regions. -/
namespace Go.Ab
open Go.RowKit

/-- the kind of a cell that lies open -/
def ckOf : AV → CK
  | .int k _ => .int k
  | .bool _ => .bool
  | .str _ => .str
  | .sl _ => .sl
  | _ => .other
/-- what is stored -/
def keptCells (older : Bool) (o : Nat) (old new : List SV) : List SV := new.zipIdx.map fun (x, i) => (x.1, keepTag older x.2 (old.getD (o + i) (.undef, .no)).2)
theorem storeCells_kept {n0 b o : Nat} {old new : List SV} (h : ∀ x ∈ new, x.1.low (b + 1) = true) : storeCells n0 b o old new = replaceAt old o (keptCells (decide (b < n0)) o old new) := by
  unfold storeCells keptCells
  congr 1
  refine List.map_congr_left fun q hq => ?_
  obtain ⟨x, i⟩ := q
  have hx : x ∈ new := by
    have := List.mem_zipIdx hq
    rw [this.2.2]
    exact List.getElem_mem _
  simp only [keepIn, h x hx, if_true]

/-- the bytes that an append adds to a row of bytes -/
def bytesW (k : TK) (x : AV) (K : List UInt8 → Prop) : Prop :=
  match x, k with
  | .str s, .string => K s
  | .sl [.int .u8 n], .slice _ => (0 ≤ n ∧ n < 256) ∧ K [UInt8.ofNat n.toNat]
  | _, _ => False
theorem bytesW_sound {k : TK} {x : AV} {K : List UInt8 → Prop} (h : bytesW k x K) : ∃ ys, bytesIn k x = some ys ∧ K ys := by
  unfold bytesW at h
  split at h
  · exact ⟨_, rfl, h⟩
  · exact ⟨_, by simp only [bytesIn]; rw [if_pos h.1], h.2⟩
  · exact h.elim
def Env0.appendBW (e : Env0) (t t2 u : TypeId) (bs : List UInt8) (tg : Tag) (x : SV) (S : St) (K : SV → St → Prop) : Prop :=
  match tk e.c.P t, tk e.c.P u, tg with
  | .slice elem, .int .u8, .tok id =>
    onlyIf (decide (elem = u) && decide (tsz e.c.P u = 1) && decide (e.c.P.bytesOf u ≤ 4096) && hasZero e.c.P u && decide ((tz e.c.P u).length = 1)) <|
    bytesW (tk e.c.P t2) x.1 fun ys => bs.length + ys.length ≤ maxLen ∧ S.T[id]? = some bs.length ∧ K (.buf u (bs ++ ys), .tok id) ⟨S.H, S.T.set id (bs ++ ys).length⟩
  | _, _, _ => False
theorem set_same {T : List Nat} {id n : Nat} (h : T[id]? = some n) : T.set id n = T := by
  apply List.ext_getElem?
  intro i
  by_cases e : id = i
  · subst e
    obtain ⟨hl, h1⟩ := List.getElem?_eq_some_iff.1 h
    simp [hl, h1]
  · rw [List.getElem?_set_ne e]
theorem szOk_bytes {P : Program} {u : TypeId} (h : tsz P u = 1) (s : List UInt8) : szOk (toBytes s) (tsz P u) = true := by
  cases s with
  | nil => rfl
  | cons a s => rw [h]; rfl
theorem appendBW_sound {e : Env0} {t t2 u : TypeId} {bs : List UInt8} {tg : Tag} {x : SV} {S : St} {K : SV → St → Prop} (h : e.appendBW t t2 u bs tg x S K) : ∃ v S', e.append t t2 (.buf u bs, tg) x S = some (.ok v S') ∧ K v S' := by
  unfold Env0.appendBW at h
  split at h
  · rename_i elem id hk hu
    obtain ⟨h1, h2⟩ := onlyIf_iff h
    simp only [Bool.and_eq_true, decide_eq_true_eq] at h1
    obtain ⟨⟨⟨⟨rfl, a2⟩, a3⟩, a4⟩, a5⟩ := h1
    obtain ⟨ys, hys, b1, b2, b3⟩ := bytesW_sound h2
    refine ⟨_, _, ?_, b3⟩
    have hadd : e.added S elem (tk e.c.P t2) x.1 = some (toBytes ys) := by
      unfold bytesIn at hys
      split at hys <;> first | (cases hys; done) | skip
      · rename_i hx hk2
        cases hys
        simp only [Env0.added, hx, hk2, hu, a2, if_true]
      · rename_i n el hx hk2
        obtain ⟨⟨c0, c1⟩, hys⟩ := Option.ite_none_right_eq_some.1 hys
        cases hys
        have hsz : szOk [AV.int .u8 n] (tsz e.c.P elem) = true := by rw [a2]; rfl
        simp only [Env0.added, hx, hk2, hsz, if_true]
        have : ((UInt8.ofNat n.toNat).toNat : Int) = n := by
          rw [UInt8.toNat_ofNat']
          omega
        show some [AV.int .u8 n] = some [AV.int .u8 ((UInt8.ofNat n.toNat).toNat : Int)]
        rw [this]
    have hl : ∀ s : List UInt8, (toBytes s).length = s.length := fun s => by simp [toBytes]
    have hL : ∃ z, e.appendL t t2 (.sl (toBytes bs), .tok id) x S = some (.ok (z, .tok id) ⟨S.H, S.T.set id (bs ++ ys).length⟩) := by
      unfold Env0.appendL
      simp only [hk, szOk_bytes a2, if_true, hadd]
      rw [if_pos ⟨by rw [hl, hl]; exact roomB_ge a3 b1, by omega, by omega, a3, a4, by rw [a5, a2]⟩]
      rw [hl, if_pos b2]
      cases ys with
      | nil => exact ⟨_, by simp only [List.append_nil]; rw [set_same b2]; rfl⟩
      | cons y ys => exact ⟨_, by rw [hl, List.length_append]; rfl⟩
    obtain ⟨z, hL⟩ := hL
    simp only [Env0.append, hk, hys, if_true, hL, Option.bind_some, bufOf]
  · exact h.elim
def ARes.to (r : ARes) (K Kp : SV → St → Prop) : Prop := match r with
  | .ok v S' => K v S'
  | .panic v S' => Kp (v, .no) S'
/-- which of an operation's readings: act, or not -/
def isActOp (P : Program) : Op → Bool
  | .alloc _ | .box _ _ | .store _ _ _ | .makeSlice _ _ _ | .panic _ => true
  | .convert _ dst _ => match tk P dst with
    | .slice _ => true
    | _ => false
  | .call { callee := .builtin .append, .. } | .call { callee := .builtin .unsafeSliceData, .. } | .call { callee := .builtin .unsafeString, .. } => true
  | .call { callee := .value _, .. } => true
  | _ => false
theorem pure_act {c : Ctx} {op : Op} {ρ : Operand → SV} {S : St} (h : isActOp c.P op = true) : c.pure op ρ = none ∧ c.read op ρ S = none := by
  unfold isActOp at h
  split at h <;> first
    | (simp at h; done)
    | (exact ⟨rfl, rfl⟩)
    | skip
  rename_i src dst x
  split at h <;> first | (cases h; done) | skip
  rename_i e he
  refine ⟨?_, ?_⟩
  · simp only [Ctx.pure, he]
    split
    · rfl
    · rfl
  · simp only [Ctx.read, he]

/-- a slot whose truth is known -/
def setB (env : Env) (d : Nat) (v : Bool) : Env := env.set d (.bool v, (env.getD d (.undef, .no)).2)
theorem setB_eq {env : Env} {d : Nat} {v : Bool} (h : (env.getD d (.undef, .no)).1 = .bool v) : setB env d v = env := by
  unfold setB
  rcases Nat.lt_or_ge d env.length with hl | hl
  · have e : env.getD d (.undef, .no) = env[d] := by simp [List.getD, List.getElem?_eq_getElem hl]
    rw [e] at h ⊢
    rw [← h]
    exact List.set_getElem_self hl
  · exact List.set_eq_of_length_le hl
def ORes.to (r : ORes) (K : Fr → St → Prop) (Kp : SV → Fr → St → Prop) : Prop := match r with
  | .ok fr S => K fr S
  | .panic v fr S => Kp (v, .no) fr S
end Go.Ab
end
section
/- CONDITIONS OF REGIONS WHOSE ORDER IS OPEN. -/
namespace Go.Ab
open Go.RowKit

mutual
theorem AV.beq_refl : ∀ (a : AV), AV.beq a a = true
  | .undef => by unfold AV.beq; rfl
  | .int k n => by unfold AV.beq; simp
  | .bool b => by unfold AV.beq; simp
  | .str s => by unfold AV.beq; simp
  | .nilptr => by unfold AV.beq; rfl
  | .ptr b o => by unfold AV.beq; simp
  | .iptr cs => by unfold AV.beq; exact AV.beqs_refl cs
  | .sl cs => by unfold AV.beq; exact AV.beqs_refl cs
  | .slr b o n => by unfold AV.beq; simp
  | .buf t s => by unfold AV.beq; simp
  | .bptr t s => by unfold AV.beq; simp
  | .bself t b => by unfold AV.beq; simp
  | .nilfn => by unfold AV.beq; rfl
  | .fn f a b => by unfold AV.beq; simp [AV.beqs_refl a, AV.beqs_refl b]
  | .nili => by unfold AV.beq; rfl
  | .iface t v => by unfold AV.beq; simp [AV.beq_refl v]
  | .agg cs => by unfold AV.beq; exact AV.beqs_refl cs
  | .tup cs => by unfold AV.beq; exact AV.beqs_refl cs
theorem AV.beqs_refl : ∀ (a : List AV), AV.beqs a a = true
  | [] => by unfold AV.beqs; rfl
  | x :: xs => by unfold AV.beqs; simp [AV.beq_refl x, AV.beqs_refl xs]
end
mutual
theorem Tag.beq_refl : ∀ (a : Tag), Tag.beq a a = true
  | .no => by simp [Tag.beq]
  | .full => by simp [Tag.beq]
  | .tok i => by simp [Tag.beq]
  | .agg ts => by simp [Tag.beq, Tag.beqs_refl ts]
theorem Tag.beqs_refl : ∀ (a : List Tag), Tag.beqs a a = true
  | [] => by simp [Tag.beqs]
  | x :: xs => by simp [Tag.beqs, Tag.beq_refl x, Tag.beqs_refl xs]
end
theorem SV.beq_refl (a : SV) : SV.beq a a = true := by simp [SV.beq, AV.beq_refl, Tag.beq_refl]

/-- does what this operation gives hang on the state? -/
def isSens (op : Op) (ρ : Operand → SV) : Bool := match op with
  | .load _ x => match (ρ x).1 with
    | .ptr _ _ => true
    | _ => false
  | .convert _ _ x => match (ρ x).1 with
    | .slr _ _ _ => true
    | _ => false
  | _ => false
theorem read_none {c : Ctx} {op : Op} {ρ : Operand → SV} (h : isSens op ρ = false) (S : St) : c.read op ρ S = none := by
  unfold isSens at h
  split at h
  · rename_i t x
    split at h
    · cases h
    · rename_i hx
      simp only [Ctx.read]
  · rename_i src dst x
    split at h
    · cases h
    · rename_i hx
      simp only [Ctx.read]
      split
      · rename_i b o n e _ hb _; exact absurd hb (hx b o n)
      · rfl
  · rename_i h1 h2
    cases op <;> first | rfl | exact absurd rfl (h1 _ _) | exact absurd rfl (h2 _ _ _)

theorem quietAt_run {e : Env0} {ops : Array Oper} {S0 : St} {base al : Nat} {o : Oper} {env : Env} (hw : wantedA ops env o = some true) (hna : ∀ t, o.op ≠ .alloc t) (S : St) :
    e.quietAt ops S0 base al o env S = pureOrRead e.c o.op (e.c.evalR env (readsTmp ops o)) S := by
  unfold Env0.quietAt pureOrRead
  rw [hw]
  generalize e.c.evalR env (readsTmp ops o) = ρ
  cases hop : o.op with
  | alloc t => exact absurd hop (hna t)
  | _ => rfl
def FlagOk (e : Env0) (ops : Array Oper) (S0 : St) (base : Nat) (r : Rec) (f : Bool) : Prop := match f with
  | false => moves e.c.P r.o = true ∨ ∀ S, e.quietAt ops S0 base r.al r.o r.env S = some r.v
  | true => moves e.c.P r.o = false ∧ wantedA ops r.env r.o = some true ∧ (∀ t, r.o.op = .alloc t → allocs e.c.P r.o = true ∧ r.v = (.ptr (base + r.al) 0, .no))
inductive FlagsOk (e : Env0) (ops : Array Oper) (S0 : St) (base : Nat) : List Rec → List Bool → Prop
  | nil : FlagsOk e ops S0 base [] []
  | cons {r f rs fs} (h : FlagOk e ops S0 base r f) (hs : FlagsOk e ops S0 base rs fs) : FlagsOk e ops S0 base (r :: rs) (f :: fs)
theorem FlagsOk.append {e : Env0} {ops : Array Oper} {S0 : St} {base : Nat} {rs rs' : List Rec} {fs fs' : List Bool} (h : FlagsOk e ops S0 base rs fs) (k : FlagsOk e ops S0 base rs' fs') : FlagsOk e ops S0 base (rs ++ rs') (fs ++ fs') := by
  induction h with
  | nil => exact k
  | cons h _ ih => exact .cons h ih
theorem FlagsOk.reverse {e : Env0} {ops : Array Oper} {S0 : St} {base : Nat} {rs : List Rec} {fs : List Bool} (h : FlagsOk e ops S0 base rs fs) : FlagsOk e ops S0 base rs.reverse fs.reverse := by
  induction h with
  | nil => exact .nil
  | cons h _ ih => simpa using ih.append (.cons h .nil)

/-- what a region's order, in the text's, came to -/
def DRes.to (e : Env0) (ops : Array Oper) (b : List Nat) (S0 : St) (base : Nat) (fr0 : Fr) (S : St) (Q : Post1) : DRes → Prop
  | .ok env Ss recs => e.sameAll ops b S0 base Ss.reverse 0 recs.reverse = true ∧ Q .normal ⟨env, fr0.ds⟩ (Ss.headD S)
  | .panic v S' Ss recs rest => e.sameAll ops b S0 base Ss.reverse 0 recs.reverse = true ∧ restOk b (recs.length - 1) recs.length rest = true ∧ Q (.panic v) (forget ops.toList fr0) S'

theorem allocs_noguard {P : Program} {o : Oper} {j : Nat} {t : Bool} (h : o.guard = some (j, t)) : allocs P o = false := by
  unfold allocs
  split
  · rename_i hg; rw [h] at hg; cases hg
  · rfl

end Go.Ab
end
section
/- CONDITIONS OF CODE; A FUNCTION MEETS ITS CONTRACT. -/
namespace Go.Ab
open Go.RowKit

theorem wk_set : ∀ (env : List SV) (t : Nat), WkL env (env.set t (.undef, .no))
  | [], _ => .nil
  | _ :: xs, 0 => .drop (WkL.refl xs)
  | _ :: xs, t + 1 => .keep (wk_set xs t)
theorem WkL.trans {xs ys zs : List SV} (h : WkL xs ys) (k : WkL ys zs) : WkL xs zs := by
  induction h generalizing zs with
  | nil => exact k
  | keep h ih =>
    cases k with
    | keep k => exact .keep (ih k)
    | drop k => exact .drop (ih k)
    | plain k => exact .plain (ih k)
  | drop h ih =>
    cases k with
    | keep k => exact .drop (ih k)
    | drop k => exact .drop (ih k)
    | plain k => exact .drop (ih k)
  | plain h ih =>
    cases k with
    | keep k => exact .plain (ih k)
    | drop k => exact .drop (ih k)
    | plain k => exact .plain (ih k)
theorem wk_dropped (ts : List Tmp) : ∀ (env : List SV), WkL env (ts.foldl (fun env t => env.set t (.undef, .no)) env) := by
  induction ts with
  | nil => intro env; exact WkL.refl _
  | cons t ts ih => intro env; exact (wk_set env t).trans (ih _)

/-- a value of this kind -/
def CK.has : CK → AV → Bool
  | .int k, .int j _ => decide (j = k)
  | .bool, .bool _ => true
  | .str, .str _ => true
  | .sl, .sl _ => true
  | _, _ => false
theorem EnvR.slots {G : Gh} {T : List Nat} {act : Env} {a : Act} (h : EnvR G T act a) : ∀ (js : List (Tmp × CK)) (env : Env), EnvR G T env a → EnvR G T (js.foldl (fun env j => env.set j.1 ((act.getD j.1 (.undef, .no)).1, .no)) env) a := by
  intro js
  induction js with
  | nil => intro env he; exact he
  | cons j js ih =>
    intro env he
    refine ih _ ⟨by simp [he.len], fun i h1 h2 => ?_⟩
    simp only [List.length_set] at h1
    by_cases e : j.1 = i
    · subst e
      simp only [List.getElem_set_self]
      have hl : j.1 < act.length := by rw [h.len]; exact h2
      have e2 : act.getD j.1 (.undef, .no) = act[j.1] := by simp [List.getD, List.getElem?_eq_getElem hl]
      rw [e2]
      exact .no (h.at_ j.1 hl h2).1
    · rw [List.getElem_set_ne e]; exact he.at_ i h1 h2
structure Gen where
  tab : Tab
  join : Nat → Option (List (Tmp × CK))
  at_ : List Nat → Option (Fr → St → Post1 → Prop)

def subR : List Nat → Code → Code
  | [], k => k
  | d :: p, k => match d, subR p k with
    | 0, .seq a _ => a
    | _, .seq _ b => b
    | 0, .cond _ a _ => a
    | _, .cond _ _ b => b
    | _, .block _ b => b
    | _, .loop b => b
    | _, k => k

section
variable {c : Ctx} {n0 m0 : Nat}

/-- what is said of the pieces holds -/
def AtSound (c : Ctx) (n0 m0 : Nat) (g : Gen) (root : Code) : Prop := ∀ p L, g.at_ p = some L → ∀ fr S Q, L fr S Q → CodeH c n0 m0 (subR p root) fr S Q
/-! ### the end of a function -/
/-- how results leave: 'plain': without their tokens; 'whole': with all that was made -/
inductive Leave where
  | plain
  | whole
  /-- plain, where the results' parts are not looked at one by one -/
  | great
theorem RSl.plain {G : Gh} {T T' : List Nat} {n m : Nat} {xs : List SV} {us : List Value} (h : RSl G T xs us) : (∀ v ∈ xs, v.1.low n = true) → RSl (G.cut n m) T' (xs.map fun v => (v.1, .no)) us := by
  induction h with
  | nil => intro _; exact .nil
  | cons hx _ ih => intro hl; exact .cons (.no (hx.1.cut (hl _ (List.mem_cons_self ..)))) (ih fun y hy => hl y (List.mem_cons_of_mem _ hy))
/-- what a body's end may come to -/
def Ends (c : Ctx) (pre : TypeId → Bool) (call : CallFn) (fn : Func) (n0 m0 : Nat) (p : COut × St) : Post1 := fun ex fr S =>
  (∃ n, c.ends pre call n fn n0 m0 (some (ex, fr, S)) = some p) ∨
  (fr.ds = [] ∧ (ex = .normal ∨ ex = .ret) ∧ ∃ vs, allSome (fn.results.toList.map (c.result fr.env S)) = some vs ∧
    ((∀ v ∈ vs, v.1.low n0 = true) ∧ p = (.ret (asOne (vs.map fun v => (v.1, .no))), ⟨S.H.take n0, S.T.take m0⟩) ∨ p = (.ret (asOne vs), S)))
/-- pieces out of a list -/
def atL : List (List Nat × (Fr → St → Post1 → Prop)) → List Nat → Option (Fr → St → Post1 → Prop)
  | [], _ => none
  | (q, L) :: r, p => match q == p with
    | true => some L
    | false => atL r p
theorem at_cons {tab : Tab} {j : Nat → Option (List (Tmp × CK))} {q : List Nat} {L : Fr → St → Post1 → Prop} {l : List (List Nat × (Fr → St → Post1 → Prop))} {root : Code} (h : ∀ fr S Q, L fr S Q → CodeH c n0 m0 (subR q root) fr S Q)
    (k : AtSound c n0 m0 ⟨tab, j, atL l⟩ root) : AtSound c n0 m0 ⟨tab, j, atL ((q, L) :: l)⟩ root := by
  intro p M hM
  simp only [atL] at hM
  split at hM
  · rename_i e
    obtain rfl := eq_of_beq e
    cases hM
    exact h
  · exact k p M hM
end
end Go.Ab
end
section
/- CONDITIONS WITH INVARIANTS: loops by what holds at each round's head; ends with a deferred call. -/
namespace Go.Ab
open Go.RowKit

inductive WkB : List Blk → List Blk → Prop
  | done (xs) : WkB xs xs
  | cons {x y xs ys} (h : WkL x y) (hs : WkB xs ys) : WkB (x :: xs) (y :: ys)
section
variable {c : Ctx} {n0 m0 : Nat}
theorem Wkn.blks {fr : Fr} {T : List Nat} {xs ys : List Blk} (h : WkB xs ys) : ∀ (pre : List Blk), Wkn c n0 m0 fr ⟨pre ++ xs, T⟩ fr ⟨pre ++ ys, T⟩ := by
  induction h with
  | done xs => intro pre; exact .refl _ _
  | cons h hs ih =>
    rename_i x y xs ys
    intro pre
    have h1 : Wkn c n0 m0 fr ⟨pre ++ x :: xs, T⟩ fr ⟨(pre ++ x :: xs).set pre.length y, T⟩ := Wkn.blk (by simp) h
    have e : (pre ++ x :: xs).set pre.length y = (pre ++ [y]) ++ xs := by simp
    rw [e] at h1
    have h2 := ih (pre ++ [y])
    have e2 : (pre ++ [y]) ++ ys = pre ++ y :: ys := by simp
    rw [e2] at h2
    exact h1.trans h2
end
def tagsLow (m : Nat) (l : List SV) : Bool := l.all fun x => x.2.low m
section
variable {c : Ctx} {n0 m0 : Nat}
end

/-! ### slices get their tokens ahead of a loop -/
def owned : List Nat → Fr → St → Fr × St
  | [], fr, S => (fr, S)
  | i :: is, fr, S => match fr.env.getD i (.undef, .no) with
    | (.sl xs, .full) => owned is ⟨fr.env.set i (.sl xs, .tok S.T.length), fr.ds⟩ ⟨S.H, S.T ++ [xs.length]⟩
    | _ => owned is fr S
theorem owned_wkn {c : Ctx} {n0 m0 : Nat} : ∀ (is : List Nat) (fr : Fr) (S : St), Wkn c n0 m0 fr S (owned is fr S).1 (owned is fr S).2
  | [], fr, S => .refl _ _
  | i :: is, fr, S => by
    unfold owned
    split
    · rename_i xs hx
      obtain ⟨env, ds⟩ := fr
      have hi : env[i]? = some (.sl xs, .full) := by
        rcases Nat.lt_or_ge i env.length with hl | hl
        · simp only [List.getD_eq_getElem?_getD, List.getElem?_eq_getElem hl, Option.getD_some] at hx
          rw [List.getElem?_eq_getElem hl, hx]
        · simp [List.getD_eq_getElem?_getD, List.getElem?_eq_none hl] at hx
      exact (Wkn.own i hi).trans (owned_wkn is _ _)
    · exact owned_wkn is fr S

section
variable {c : Ctx} {n0 m0 : Nat}
end

/-! ### a body's end, with one deferred call -/
section
variable {c : Ctx} {B : Bd} {w0 : World}
theorem defer_main {pre : TypeId → Bool} {call : CallFn} (hcall : CallSound c call) (htags : CallTags call) (hd : ∀ (S : St) (d : Nat → List Tmp), DrawSound c B w0 ⟨c, pre, S.H.length, S.T.length, call, d⟩) (hname : ∀ (f : FuncId) (fn : Func), c.P.funcs[f]? = some fn → (fn.name == "runtime.NumGoroutine") = false)
    {n : Nat} {fn : Func} {S S1 S3 : St} {G G' : Gh} {w' : World} {env : Env} {g1 : FuncId} {dargs : List SV} {a' : Act} {R0 : Ending → World → Prop} (htl : TagsLow S.H.length S.T.length S1) (hlen0 : S.H.length ≤ S1.H.length)
    (i' : Inv c B w0 G' S1 w') (g' : Grows G S.T G' S1.T) (f' : FrR G' S1.T ⟨env, [(g1, dargs)]⟩ a') {u u' : Below1} {m : FrameMode} (hm : m ≠ .run) (hu : UR G' u m) (hdef : c.deferred pre call n g1 dargs u S1 = some (u', S3))
    (hrest : ∀ G2 w2, Inv c B w0 G2 S3 w2 → Grows G S.T G2 S3.T → TagsLow S.H.length S.T.length S3 → EnvR G2 S3.T env a' → ∀ m2, UR G2 u' m2 → Leaves c.P fn a'.tmps R0 [] (settle m2) w2) : Leaves c.P fn a'.tmps R0 a'.defers m w' := by
  have hdR := f'.ds
  obtain ⟨dd, hdd, hd1⟩ : ∃ dd, a'.defers = [dd] ∧ DefR1 G' (g1, dargs) dd := by
    cases hd2 : a'.defers with
    | nil => rw [hd2] at hdR; exact hdR.elim
    | cons x xs =>
      rw [hd2] at hdR
      cases xs with
      | nil => exact ⟨x, rfl, hdR.1⟩
      | cons y ys => exact hdR.2.elim
  obtain ⟨cap, htar, hlen, hargs⟩ := hd1
  have hra : RArgs G' S1.T dargs (dd.args ++ cap) := ⟨hlen, fun i h1 h2 => by
    obtain ⟨k1, k2⟩ := hargs i h1 h2
    have : dargs[i] = (dargs[i].1, Tag.no) := by rw [← k2]
    rw [this]
    exact .no k1⟩
  rw [hdd]
  have hfn : ∃ fd code, c.P.funcs[g1]? = some fd ∧ fd.body = some code := by
    unfold Ctx.deferred at hdef
    split at hdef <;> first | (cases hdef; done) | skip
    rename_i fd hfd
    split at hdef <;> first | (cases hdef; done) | skip
    rename_i code hb
    exact ⟨fd, code, hfd, hb⟩
  obtain ⟨fd, code, hfd, hb⟩ := hfn
  refine ⟨hm, .func g1, cap, g1, dd.args ++ cap, htar, ?_, ?_⟩
  · rw [htar]
    simp only [invoke]
    exact enter_run hfd (hname g1 fd hfd) hb _ _
  · have hsteps := deferred_steps htags hdef
    refine (deferred_sound hcall htags hd hdef i' hra hu).mono fun en m2 w2 ⟨⟨v, hv⟩, G2, i2, g2, u2⟩ => ?_
    subst hv
    exact hrest G2 w2 i2 (g'.trans g2) ((hsteps.mono hlen0).tags _ _ (Nat.le_refl _) htl) (f'.env.later g2.later) m2 u2
end
section
variable {c : Ctx} {n0 m0 : Nat}
/-- what a body's end may come to -/
def EndsV (c : Ctx) (pre : TypeId → Bool) (call : CallFn) (fn : Func) (n0 m0 : Nat) (p : COut × St) : Post1 := fun ex fr S =>
  Ends c pre call fn n0 m0 p ex fr S ∨
  ∃ n g dargs u u' S3, fr.ds = [(g, dargs)] ∧ (((ex = .normal ∨ ex = .ret) ∧ u = .returning ∧ u' = .returning) ∨ ∃ v, ex = .panic v ∧ u = .panics v ∧ u' = .recovered) ∧ c.deferred pre call n g dargs u S = some (u', S3) ∧
    ∃ vs, allSome (fn.results.toList.map (c.result fr.env S3)) = some vs ∧ ((∀ v ∈ vs, v.1.low n0 = true) ∧ p = (.ret (asOne (vs.map fun v => (v.1, .no))), ⟨S3.H.take n0, S3.T.take m0⟩) ∨ p = (.ret (asOne vs), S3))
/-- a condition, closed to the elaborator -/
structure Hd (p : Prop) : Prop where
  out : p
theorem Hd.of {A B : Prop} (e : A = B) (h : A) : Hd B := ⟨e.mp h⟩
end
end Go.Ab
end
section
/- TREES: what code comes to, as a tree; operations that leave the state. -/
namespace Go.Ab
open Go.RowKit

abbrev Out := COut × St
inductive Tree : Type 1 where
  | fail
  | done (o : Out)
  | jump (k : Nat) (vals : List AV)
  | need (p : Prop) (t : Tree)
  | bind {α : Type} (o : Option α) (k : α → Tree)
  | call (g : FuncId) (i : Nat) (vals : List AV) (k : Out → Tree)

/-- what pieces of functions come to -/
abbrev Orc := FuncId → Nat → List AV → Option Out
def Tree.wp (W : Orc) (f : FuncId) : Tree → (Out → Prop) → Prop
  | .fail, _ => False
  | .done o, K => K o
  | .jump k vs, K => ∃ o, W f k vs = some o ∧ K o
  | .need p t, K => p ∧ t.wp W f K
  | .bind o k, K => ∃ x, o = some x ∧ (k x).wp W f K
  | .call g i vs k, K => ∃ o, W g i vs = some o ∧ (k o).wp W f K
open Classical in
noncomputable def Tree.run (W : Orc) (f : FuncId) : Tree → Option Out
  | .fail => none
  | .done o => some o
  | .jump k vs => W f k vs
  | .need p t => if p then t.run W f else none
  | .bind o k => o.bind fun x => (k x).run W f
  | .call g i vs k => (W g i vs).bind fun o => (k o).run W f
theorem Tree.wp_run {W : Orc} {f : FuncId} {t : Tree} : ∀ {K : Out → Prop}, t.wp W f K ↔ ∃ o, t.run W f = some o ∧ K o := by
  induction t with
  | fail => intro K; simp [Tree.wp, Tree.run]
  | done o => intro K; simp [Tree.wp, Tree.run]
  | jump k vs => intro K; simp [Tree.wp, Tree.run]
  | need p t ih =>
    intro K
    simp only [Tree.wp, Tree.run, ih]
    by_cases hp : p
    · simp [hp]
    · simp [hp]
  | bind o k ih =>
    intro K
    cases o with
    | none => simp [Tree.wp, Tree.run]
    | some x => simp [Tree.wp, Tree.run, ih]
  | call g i vs k ih =>
    intro K
    simp only [Tree.wp, Tree.run]
    cases h : W g i vs with
    | none => simp
    | some o => simp [ih]
theorem Tree.wp_mono {W : Orc} {f : FuncId} {t : Tree} {K K' : Out → Prop} (h : t.wp W f K) (k : ∀ o, K o → K' o) : t.wp W f K' := by
  obtain ⟨o, h1, h2⟩ := Tree.wp_run.1 h
  exact Tree.wp_run.2 ⟨o, h1, k o h2⟩
/-- what holds in the limit holds from some step on -/
theorem Tree.run_lim {W : Orc} {V : Nat → Orc} (hV : ∀ f k vs o, W f k vs = some o → ∃ N, ∀ n, N ≤ n → V n f k vs = some o) {f : FuncId} {t : Tree} : ∀ {o : Out}, t.run W f = some o → ∃ N, ∀ n, N ≤ n → t.run (V n) f = some o := by
  induction t with
  | fail => intro o h; cases h
  | done o => intro o' h; exact ⟨0, fun _ _ => h⟩
  | jump k vs => intro o h; exact hV _ _ _ _ h
  | need p t ih =>
    intro o h
    simp only [Tree.run] at h ⊢
    by_cases hp : p
    · simp only [hp, if_true] at h ⊢; exact ih h
    · simp [hp] at h
  | bind x k ih =>
    intro o h
    cases x with
    | none => cases h
    | some x => exact ih x h
  | call g i vs k ih =>
    intro o h
    simp only [Tree.run] at h ⊢
    cases hc : W g i vs with
    | none => rw [hc] at h; cases h
    | some r =>
      rw [hc] at h
      obtain ⟨N, hN⟩ := hV _ _ _ _ hc
      obtain ⟨M, hM⟩ := ih r h
      refine ⟨max N M, fun n hn => ?_⟩
      rw [hN n (by omega)]
      exact hM n (by omega)

def onlyIfT (b : Bool) (t : Tree) : Tree := match b with
  | true => t
  | false => .fail
def optT {α : Type} (x : Option α) (K : α → Tree) : Tree := match x with
  | some v => K v
  | none => .fail
/-- a value under a new name -/
def Tree.nm {α : Type} (e : α) (k : α → Tree) : Tree := .bind (some e) k
def Tree.ite (t : Bool) (A B : Tree) : Tree := match t with
  | true => A
  | false => B
def namedT (x : SV) (K : SV → Tree) : Tree := match x with
  | (.int k e, tg) => .nm e fun r => K (.int k r, tg)
  | (.bool e, tg) => .nm e fun r => K (.bool r, tg)
  | (.str e, tg) => .nm e fun r => K (.str r, tg)
  | x => K x

/-! ### values of a known kind, opened -/
inductive TyK where
  | int (k : IntKind)
  | bool
  | str
  | sl
  | buf (t : TypeId)
  | slr (b o : Nat)
  | agg
  | any
@[reducible] def Cur : List TyK → Type 1
  | [] => Tree
  | .int _ :: r => Int → Cur r
  | .bool :: r => Bool → Cur r
  | .str :: r => List UInt8 → Cur r
  | .sl :: r => List AV → Cur r
  | .buf _ :: r => List UInt8 → Cur r
  | .slr _ _ :: r => Nat → Cur r
  | .agg :: r => List AV → Cur r
  | .any :: r => AV → Cur r
def getI (k : IntKind) : AV → Option Int
  | .int j n => match decide (j = k) with
    | true => some n
    | false => none
  | _ => none
def getB : AV → Option Bool
  | .bool b => some b
  | _ => none
def getS : AV → Option (List UInt8)
  | .str s => some s
  | _ => none
def getL : AV → Option (List AV)
  | .sl s => some s
  | _ => none
def getF (t : TypeId) : AV → Option (List UInt8)
  | .buf u s => match Nat.beq u t with
    | true => some s
    | false => none
  | _ => none
def getN (b o : Nat) : AV → Option Nat
  | .slr b' o' n => match Nat.beq b' b && Nat.beq o' o with
    | true => some n
    | false => none
  | _ => none
def getA : AV → Option (List AV)
  | .agg s => some s
  | _ => none
def openC : (ks : List TyK) → List AV → Cur ks → Tree
  | [], vs, t => match vs with
    | [] => t
    | _ :: _ => .fail
  | .int k :: r, vs, g => match vs with
    | [] => .fail
    | v :: vs => optT (getI k v) fun x => openC r vs (g x)
  | .bool :: r, vs, g => match vs with
    | [] => .fail
    | v :: vs => optT (getB v) fun x => openC r vs (g x)
  | .str :: r, vs, g => match vs with
    | [] => .fail
    | v :: vs => optT (getS v) fun x => openC r vs (g x)
  | .sl :: r, vs, g => match vs with
    | [] => .fail
    | v :: vs => optT (getL v) fun x => openC r vs (g x)
  | .buf t :: r, vs, g => match vs with
    | [] => .fail
    | v :: vs => optT (getF t v) fun x => openC r vs (g x)
  | .slr b o :: r, vs, g => match vs with
    | [] => .fail
    | v :: vs => optT (getN b o v) fun x => openC r vs (g x)
  | .agg :: r, vs, g => match vs with
    | [] => .fail
    | v :: vs => optT (getA v) fun x => openC r vs (g x)
  | .any :: r, vs, g => match vs with
    | [] => .fail
    | v :: vs => openC r vs (g v)
def mkC : (ks : List TyK) → (List AV → Tree) → Cur ks
  | [], F => F []
  | .int k :: r, F => fun n => mkC r fun l => F (.int k n :: l)
  | .bool :: r, F => fun b => mkC r fun l => F (.bool b :: l)
  | .str :: r, F => fun s => mkC r fun l => F (.str s :: l)
  | .sl :: r, F => fun xs => mkC r fun l => F (.sl xs :: l)
  | .buf t :: r, F => fun s => mkC r fun l => F (.buf t s :: l)
  | .slr b o :: r, F => fun n => mkC r fun l => F (.slr b o n :: l)
  | .agg :: r, F => fun cs => mkC r fun l => F (.agg cs :: l)
  | .any :: r, F => fun v => mkC r fun l => F (v :: l)
/-- values, if they are of these kinds, under new names -/
def Tree.opn (ks : List TyK) (o : Option (List AV)) (g : Cur ks) : Tree := .bind o fun vs => openC ks vs g
def CK.ty : CK → TyK
  | .int k => .int k
  | .bool => .bool
  | .str => .str
  | .sl => .sl
  | .other => .any
def opnT (ks : List CK) (o : Option (List AV)) (F : List AV → Tree) : Tree := .opn (ks.map CK.ty) o (mkC (ks.map CK.ty) F)

section
variable {W : Orc} {f : FuncId} {Q : Out → Prop}
theorem onlyIfT_w {b : Bool} {t : Tree} (h : (onlyIfT b t).wp W f Q) : b = true ∧ t.wp W f Q := by
  cases b with
  | true => exact ⟨rfl, h⟩
  | false => exact h.elim
theorem optT_w {α : Type} {x : Option α} {K : α → Tree} (h : (optT x K).wp W f Q) : ∃ v, x = some v ∧ (K v).wp W f Q := by
  cases x with
  | some v => exact ⟨v, rfl, h⟩
  | none => exact h.elim
theorem nm_w {α : Type} {e : α} {k : α → Tree} (h : (Tree.nm e k).wp W f Q) : (k e).wp W f Q := by
  obtain ⟨x, hx, h⟩ := h
  cases hx; exact h
theorem ite_w {t : Bool} {A B : Tree} (h : (Tree.ite t A B).wp W f Q) : (t = true → A.wp W f Q) ∧ (t = false → B.wp W f Q) := by
  cases t with
  | true => exact ⟨fun _ => h, fun e => by cases e⟩
  | false => exact ⟨fun e => (by cases e), fun _ => h⟩
theorem namedT_w {x : SV} {K : SV → Tree} (h : (namedT x K).wp W f Q) : (K x).wp W f Q := by
  obtain ⟨v, tg⟩ := x
  cases v <;> first | exact nm_w (k := fun r => K (_, _)) h | exact h
theorem getI_eq {k : IntKind} {v : AV} {n : Int} (h : getI k v = some n) : v = .int k n := by
  cases v <;> simp only [getI] at h <;> first | (cases h; done) | skip
  split at h
  · rename_i e
    obtain rfl := of_decide_eq_true e
    cases h; rfl
  · cases h
theorem getF_eq {t : TypeId} {v : AV} {s : List UInt8} (h : getF t v = some s) : v = .buf t s := by
  cases v <;> simp only [getF] at h <;> first | (cases h; done) | skip
  split at h
  · rename_i e
    obtain rfl := Nat.eq_of_beq_eq_true e
    cases h; rfl
  · cases h
theorem getN_eq {b o : Nat} {v : AV} {n : Nat} (h : getN b o v = some n) : v = .slr b o n := by
  cases v <;> simp only [getN] at h <;> first | (cases h; done) | skip
  split at h
  · rename_i e
    simp only [Bool.and_eq_true] at e
    obtain rfl := Nat.eq_of_beq_eq_true e.1
    obtain rfl := Nat.eq_of_beq_eq_true e.2
    cases h; rfl
  · cases h
theorem openC_mkC : ∀ (ks : List TyK) (vs : List AV) (F : List AV → Tree), (openC ks vs (mkC ks F)).wp W f Q → (F vs).wp W f Q := by
  intro ks
  induction ks with
  | nil =>
    intro vs F h
    cases vs with
    | nil => exact h
    | cons v vs => exact h.elim
  | cons k ks ih =>
    intro vs F h
    cases vs with
    | nil => cases k <;> exact False.elim h
    | cons v vs =>
      cases k with
      | int k =>
        obtain ⟨x, hx, h⟩ := optT_w (K := fun x => openC ks vs (mkC ks fun l => F (.int k x :: l))) h
        rw [getI_eq hx]; exact ih vs _ h
      | bool =>
        obtain ⟨x, hx, h⟩ := optT_w (K := fun x => openC ks vs (mkC ks fun l => F (.bool x :: l))) h
        cases v <;> simp only [getB] at hx <;> cases hx
        exact ih vs _ h
      | str =>
        obtain ⟨x, hx, h⟩ := optT_w (K := fun x => openC ks vs (mkC ks fun l => F (.str x :: l))) h
        cases v <;> simp only [getS] at hx <;> cases hx
        exact ih vs _ h
      | sl =>
        obtain ⟨x, hx, h⟩ := optT_w (K := fun x => openC ks vs (mkC ks fun l => F (.sl x :: l))) h
        cases v <;> simp only [getL] at hx <;> cases hx
        exact ih vs _ h
      | buf t =>
        obtain ⟨x, hx, h⟩ := optT_w (K := fun x => openC ks vs (mkC ks fun l => F (.buf t x :: l))) h
        rw [getF_eq hx]; exact ih vs _ h
      | slr b o =>
        obtain ⟨x, hx, h⟩ := optT_w (K := fun x => openC ks vs (mkC ks fun l => F (.slr b o x :: l))) h
        rw [getN_eq hx]; exact ih vs _ h
      | agg =>
        obtain ⟨x, hx, h⟩ := optT_w (K := fun x => openC ks vs (mkC ks fun l => F (.agg x :: l))) h
        cases v <;> simp only [getA] at hx <;> cases hx
        exact ih vs _ h
      | any => exact ih vs _ h
theorem opnT_w {ks : List CK} {o : Option (List AV)} {F : List AV → Tree} (h : (opnT ks o F).wp W f Q) : ∃ vs, o = some vs ∧ (F vs).wp W f Q := by
  obtain ⟨vs, h1, h2⟩ := h
  exact ⟨vs, h1, openC_mkC _ _ _ h2⟩
end

/-! ### operations that hang on their operands alone -/
/-- a binary operation -/
def binT (c : Ctx) (op : BinOp) (t : TypeId) (x y : AV) (K : SV → Tree) : Tree :=
  match op, x, y with
  | .quo, .int k a, .int k' b => .need (nonzero b) (onlyIfT (decide (k = k')) (.nm (k.wrap (a.tdiv b)) fun r => K (.int k r, .no)))
  | .rem, .int k a, .int k' b => .need (nonzero b) (onlyIfT (decide (k = k')) (.nm (a.tmod b) fun r => K (.int k r, .no)))
  | .shl, .int k a, .int _ b => .need (nonneg b) (.nm (k.wrap (a * 2 ^ (min b.toNat k.bits))) fun r => K (.int k r, .no))
  | .shr, .int k a, .int _ b => .need (nonneg b) (.nm (a.fdiv (2 ^ (min b.toNat k.bits))) fun r => K (.int k r, .no))
  | .add, .str a, .str b => .need (a.length + b.length ≤ maxStr) (.nm (a ++ b) fun r => K (.str r, .no))
  | .and, .int k a, .int k' b => onlyIfT (decide (k = k')) (.nm (andI k a b) fun r => K (.int k r, .no))
  | .or, .int k a, .int k' b => onlyIfT (decide (k = k')) (.nm (orI k a b) fun r => K (.int k r, .no))
  | .xor, .int k a, .int k' b => onlyIfT (decide (k = k')) (.nm (xorI k a b) fun r => K (.int k r, .no))
  | .sub, .int k a, .int k' b => onlyIfT (decide (k = k')) (.nm (k.wrap (a - b)) fun r => K (.int k r, .no))
  | .mul, .int k a, .int k' b => onlyIfT (decide (k = k')) (.nm (k.wrap (a * b)) fun r => K (.int k r, .no))
  | .add, .int k a, .int k' b => onlyIfT (decide (k = k')) (.nm (k.wrap (a + b)) fun r => K (.int k r, .no))
  | .eql, .int k a, .int k' b => onlyIfT (decide (k = k')) (.nm (a == b) fun r => K (.bool r, .no))
  | .neq, .int k a, .int k' b => onlyIfT (decide (k = k')) (.nm (a != b) fun r => K (.bool r, .no))
  | .lss, .int k a, .int k' b => onlyIfT (decide (k = k')) (.nm (decide (a < b)) fun r => K (.bool r, .no))
  | .leq, .int k a, .int k' b => onlyIfT (decide (k = k')) (.nm (decide (a ≤ b)) fun r => K (.bool r, .no))
  | .gtr, .int k a, .int k' b => onlyIfT (decide (k = k')) (.nm (decide (a > b)) fun r => K (.bool r, .no))
  | .geq, .int k a, .int k' b => onlyIfT (decide (k = k')) (.nm (decide (a ≥ b)) fun r => K (.bool r, .no))
  | .eql, .str a, .str b => .nm (a == b) fun r => K (.bool r, .no)
  | .neq, .str a, .str b => .nm (!(a == b)) fun r => K (.bool r, .no)
  | op, x, y => optT (aBin c op t x y) fun v => namedT (v, .no) K
section
variable {W : Orc} {f : FuncId} {Q : Out → Prop}
theorem binT_sound {c : Ctx} {op : BinOp} {t : TypeId} {x y : AV} {K : SV → Tree} (h : (binT c op t x y K).wp W f Q) : ∃ v, aBin c op t x y = some v ∧ (K (v, .no)).wp W f Q := by
  unfold binT at h
  split at h
  · obtain ⟨h1, h3⟩ := h
    obtain ⟨hk, h2⟩ := onlyIfT_w h3
    obtain rfl := of_decide_eq_true hk
    have h9 := nm_w h2
    exact ⟨_, by unfold nonzero at h1; simp [aBin, aInt, h1], h9⟩
  · obtain ⟨h1, h3⟩ := h
    obtain ⟨hk, h2⟩ := onlyIfT_w h3
    obtain rfl := of_decide_eq_true hk
    have h9 := nm_w h2
    exact ⟨_, by unfold nonzero at h1; simp [aBin, aInt, h1], h9⟩
  · obtain ⟨h1, h2⟩ := h
    have h9 := nm_w h2
    exact ⟨_, by simp only [aBin, aShift]; rw [if_neg (by unfold nonneg at h1; omega)], h9⟩
  · obtain ⟨h1, h2⟩ := h
    have h9 := nm_w h2
    exact ⟨_, by simp only [aBin, aShift]; rw [if_neg (by unfold nonneg at h1; omega)], h9⟩
  · obtain ⟨h1, h2⟩ := h
    have h9 := nm_w h2
    exact ⟨_, by simp only [aBin, aStr]; rw [if_pos h1], h9⟩
  iterate 12
    · obtain ⟨hk, h2⟩ := onlyIfT_w h
      obtain rfl := of_decide_eq_true hk
      have h9 := nm_w h2
      exact ⟨_, by simp [aBin, aInt, aBits, aCmp, andI, orI, xorI], h9⟩
  · have h9 := nm_w h
    exact ⟨_, rfl, h9⟩
  · have h9 := nm_w h
    exact ⟨_, rfl, h9⟩
  · obtain ⟨v, h1, h2⟩ := optT_w h
    exact ⟨v, h1, namedT_w h2⟩
end
/-- the part of a text or a list that a slice operation takes -/
def boundsT (len : Nat) (lo hi : Option SV) (K : Nat → Nat → Tree) : Tree :=
  match lo, hi with
  | none, none => K 0 len
  | some (.int _ l, _), none => .need (inLo l len) (K l.toNat len)
  | none, some (.int _ h, _) => .need (inLo h len) (K 0 h.toNat)
  | some (.int _ l, _), some (.int _ h, _) => .need (inLoHi l h len) (K l.toNat h.toNat)
  | _, _ => .fail
def plain1 : SV → Option (List AV)
  | (v, .no) => some [v]
  | _ => none
def plainL : List SV → Option (List AV)
  | [] => some []
  | (v, .no) :: r => (plainL r).map (v :: ·)
  | _ => none
theorem plainL_eq : ∀ {cs : List SV} {l : List AV}, plainL cs = some l → cs = l.map (·, Tag.no) ∧ cs.map (·.1) = l
  | [], l, h => by cases h; exact ⟨rfl, rfl⟩
  | (v, t) :: r, l, h => by
    cases t <;> simp only [plainL] at h <;> first | (cases h; done) | skip
    obtain ⟨l', h1, rfl⟩ := Option.map_eq_some_iff.1 h
    obtain ⟨h2, h3⟩ := plainL_eq h1
    exact ⟨by rw [List.map_cons, ← h2], by rw [List.map_cons, h3]⟩
/-- a byte of a text -/
def byteAt (s : List UInt8) (n : Int) : Option Int := if 0 ≤ n then (s[n.toNat]?).map fun b => ((b.toNat : Nat) : Int) else none
/-- the cells of an element of a list -/
def elemAt (xs : List AV) (n : Int) : Option (List AV) := if 0 ≤ n then (xs[n.toNat]?).map AV.cells else none
/-- a part of cells, whose place is not a number in the text -/
def loadSymT (c : Ctx) (t : TypeId) (cells : List SV) (o : Nat) (K : SV → Tree) : Tree :=
  match tk c.P t with
  | .int k => opnT [.int k] ((cells[o]?).bind plain1) fun l => K (l.headD .undef, .no)
  | .bool => opnT [.bool] ((cells[o]?).bind plain1) fun l => K (l.headD .undef, .no)
  | .string => opnT [.str] ((cells[o]?).bind plain1) fun l => K (l.headD .undef, .no)
  | .slice _ => opnT [.sl] ((cells[o]?).bind plain1) fun l => K (l.headD .undef, .no)
  | .struct _ | .array _ _ => .need (o + tsz c.P t ≤ cells.length) (opnT (kinds c.P 6 t) (plainL ((cells.drop o).take (tsz c.P t))) fun cs => K (.agg cs, .agg (cs.map fun _ => .no)))
  | .other => .fail
  | _ => .bind (cells[o]?) K
def loadT (c : Ctx) (t : TypeId) (tg : Tag) (cells : List SV) (o : Nat) (K : SV → Tree) : Tree :=
  match tg with
  | .no => match bigA c.P t with
    | true => .need (o + tsz c.P t ≤ cells.length) (K (collect ((cells.drop o).take (tsz c.P t))))
    | false => optT (c.part t cells o) K
  | _ => loadSymT c t cells o K
def pureT (c : Ctx) (op : Op) (ρ : Operand → SV) (K : SV → Tree) : Tree :=
  match op with
  | .binOp o t x y yt => match (ρ x).1 with
    | .int k a => binT c o t (.int k a) (ρ y).1 K
    | .str a => binT c o t (.str a) (ρ y).1 K
    | _ => optT (c.pure (.binOp o t x y yt) ρ) fun v => namedT v K
  | .unOp .xor _ x => match (ρ x).1 with
    | .int k n => .nm (xorI k (if k.signed then -1 else k.max) n) fun r => K (.int k r, .no)
    | _ => .fail
  | .index t x i => match (ρ i).1, tk c.P t with
    | .int _ n, .string => match (ρ x).1 with
      | .str s => .bind (byteAt s n) fun r => K (.int .u8 r, .no)
      | _ => .fail
    | .int _ n, .array m e => match (ρ x).1 with
      | .agg _ => .need (inR n m) (loadT c e (symTag i (m * tsz c.P e)) (expand (ρ x)) (n.toNat * tsz c.P e) K)
      | _ => .fail
    | _, _ => .fail
  | .indexAddr t x i => match (ρ i).1, tk c.P t with
    | .int _ n, .slice e => match (ρ x).1 with
      | .sl xs => onlyIfT (decide (1 ≤ tsz c.P e)) (opnT (kinds c.P 6 e) (elemAt xs n) fun cs => onlyIfT (decide (cs.length = tsz c.P e)) (K (.iptr cs, .no)))
      | .slr b o m => onlyIfT (decide (1 ≤ tsz c.P e)) (.need (inR n m) (K (.ptr b (o + n.toNat * tsz c.P e), .agg [])))
      | _ => .fail
    | .int _ n, .array m e => match (ρ x).1 with
      | .ptr b o => onlyIfT (decide (1 ≤ tsz c.P e)) (.need (inR n m) (K (.ptr b (o + n.toNat * tsz c.P e), symTag i (m * tsz c.P e))))
      | .iptr cs => onlyIfT (decide (1 ≤ tsz c.P e)) (.need (inR n m) (K (.iptr (cs.drop (n.toNat * tsz c.P e)), symTag i (m * tsz c.P e))))
      | _ => .fail
    | _, _ => .fail
  | .slice t x lo hi mx => match tk c.P t, (ρ x).1, mx with
    | .string, .str s, none => boundsT s.length (lo.map ρ) (hi.map ρ) fun l h => K (.str ((s.take h).drop l), .no)
    | .slice e, .sl xs, none => onlyIfT (decide (1 ≤ tsz c.P e)) (.need (szOk xs (tsz c.P e) = true) (boundsT xs.length (lo.map ρ) (hi.map ρ) fun l h => K (.sl ((xs.take h).drop l), .no)))
    | _, _, _ => optT (c.pure (.slice t x lo hi mx) ρ) K
  | .move x => K (ρ x)
  | .assign x => K (ρ x)
  | .pick k a b => match (ρ k).1 with
    | .bool true => K (ρ a)
    | .bool false => K (ρ b)
    | _ => .fail
  | .load t x => match (ρ x) with
    | (.iptr cs, tg) => loadT c t tg (cs.map (·, .no)) 0 K
    | _ => .fail
  | op => optT (c.pure op ρ) fun v => namedT v K
section
variable {W : Orc} {f : FuncId} {Q : Out → Prop}
theorem boundsT_sound {len : Nat} {lo hi : Option SV} {K : Nat → Nat → Tree} (h : (boundsT len lo hi K).wp W f Q) : ∃ a b, bounds len lo hi = some (a, b) ∧ (K a b).wp W f Q := by
  unfold boundsT at h
  split at h
  · exact ⟨0, len, rfl, h⟩
  · obtain ⟨⟨h1, h2⟩, h3⟩ := h
    exact ⟨_, _, by simp only [bounds, Option.bind_some]; rw [if_pos ⟨h1, h2⟩], h3⟩
  · obtain ⟨⟨h1, h2⟩, h3⟩ := h
    exact ⟨_, _, by simp only [bounds]; rw [if_pos ⟨h1, h2⟩]; rfl, h3⟩
  · obtain ⟨⟨h1, h2, h4⟩, h3⟩ := h
    refine ⟨_, _, ?_, h3⟩
    simp only [bounds]
    rw [if_pos ⟨by omega, h4⟩]
    simp only [Option.bind_some]
    rw [if_pos ⟨h1, by omega⟩]
  · exact h.elim
theorem plain1_some {x : Option SV} {l : List AV} (h : x.bind plain1 = some l) : ∃ v, x = some (v, .no) ∧ l = [v] := by
  obtain ⟨y, h1, h2⟩ := Option.bind_eq_some_iff.1 h
  obtain ⟨v, t⟩ := y
  cases t <;> simp only [plain1] at h2 <;> first | (cases h2; done) | skip
  cases h2
  exact ⟨v, h1, rfl⟩
theorem loadSymT_sound {c : Ctx} {t : TypeId} {cells : List SV} {o : Nat} {K : SV → Tree} (h : (loadSymT c t cells o K).wp W f Q) : ∃ v, c.part t cells o = some v ∧ (K v).wp W f Q := by
  unfold loadSymT at h
  unfold Ctx.part
  split at h
  · rename_i k hk
    obtain ⟨l, h1, h2⟩ := opnT_w h
    obtain ⟨v, h3, rfl⟩ := plain1_some h1
    exact ⟨_, by rw [hk]; exact h3, h2⟩
  · rename_i hk
    obtain ⟨l, h1, h2⟩ := opnT_w h
    obtain ⟨v, h3, rfl⟩ := plain1_some h1
    exact ⟨_, by rw [hk]; exact h3, h2⟩
  · rename_i hk
    obtain ⟨l, h1, h2⟩ := opnT_w h
    obtain ⟨v, h3, rfl⟩ := plain1_some h1
    exact ⟨_, by rw [hk]; exact h3, h2⟩
  · rename_i e hk
    obtain ⟨l, h1, h2⟩ := opnT_w h
    obtain ⟨v, h3, rfl⟩ := plain1_some h1
    exact ⟨_, by rw [hk]; exact h3, h2⟩
  · rename_i hk
    obtain ⟨l, h1, h2⟩ := opnT_w h.2
    obtain ⟨h3, h4⟩ := plainL_eq h1
    refine ⟨_, by rw [hk]; simp only; rw [if_pos h.1], ?_⟩
    unfold collect
    rw [h3]
    simpa [Function.comp_def] using h2
  · rename_i hk
    obtain ⟨l, h1, h2⟩ := opnT_w h.2
    obtain ⟨h3, h4⟩ := plainL_eq h1
    refine ⟨_, by rw [hk]; simp only; rw [if_pos h.1], ?_⟩
    unfold collect
    rw [h3]
    simpa [Function.comp_def] using h2
  · exact h.elim
  · rename_i h1 h2 h3 h7 h4 h5 h6
    obtain ⟨v, hv, hk⟩ := h
    refine ⟨v, ?_, hk⟩
    split
    · rename_i e; exact absurd e h6
    · rename_i e; exact absurd e (h4 _)
    · rename_i e; exact absurd e (h5 _ _)
    · exact hv
theorem loadT_sound {c : Ctx} {t : TypeId} {tg : Tag} {cells : List SV} {o : Nat} {K : SV → Tree} (h : (loadT c t tg cells o K).wp W f Q) : ∃ v, c.part t cells o = some v ∧ (K v).wp W f Q := by
  unfold loadT at h
  split at h
  · split at h
    · rename_i hb
      refine ⟨_, ?_, h.2⟩
      unfold bigA at hb
      unfold Ctx.part
      cases hk : tk c.P t with
      | array n e => simp only; rw [if_pos h.1]
      | _ => rw [hk] at hb; simp at hb
    · exact optT_w h
  · exact loadSymT_sound h
theorem byteAt_some {s : List UInt8} {n r : Int} (h : byteAt s n = some r) : 0 ≤ n ∧ ∃ b, s[n.toNat]? = some b ∧ r = b.toNat := by
  unfold byteAt at h
  obtain ⟨h1, h2⟩ := Option.ite_none_right_eq_some.1 h
  obtain ⟨b, h3, h4⟩ := Option.map_eq_some_iff.1 h2
  exact ⟨h1, b, h3, h4.symm⟩
theorem elemAt_some {xs : List AV} {n : Int} {cs : List AV} (h : elemAt xs n = some cs) : 0 ≤ n ∧ ∃ v, xs[n.toNat]? = some v ∧ v.cells = cs := by
  unfold elemAt at h
  obtain ⟨h1, h2⟩ := Option.ite_none_right_eq_some.1 h
  obtain ⟨b, h3, h4⟩ := Option.map_eq_some_iff.1 h2
  exact ⟨h1, b, h3, h4⟩
theorem pureT_sound {c : Ctx} {op : Op} {ρ : Operand → SV} {K : SV → Tree} (h : (pureT c op ρ K).wp W f Q) : ∃ v, c.pure op ρ = some v ∧ (K v).wp W f Q := by
  unfold pureT at h
  split at h
  · rename_i o t x y yt
    split at h
    · rename_i k a hx
      obtain ⟨v, h1, h2⟩ := binT_sound h
      exact ⟨(v, .no), by simp [Ctx.pure, hx, h1], h2⟩
    · rename_i a hx
      obtain ⟨v, h1, h2⟩ := binT_sound h
      exact ⟨(v, .no), by simp [Ctx.pure, hx, h1], h2⟩
    · obtain ⟨v, h1, h2⟩ := optT_w h
      exact ⟨v, h1, namedT_w h2⟩
  · rename_i t x
    split at h
    · rename_i k n hx
      have h9 := nm_w h
      exact ⟨_, by simp only [Ctx.pure, hx, aUn, aBits]; rfl, h9⟩
    · exact h.elim
  · rename_i t x i
    split at h
    · rename_i k n hi ht
      split at h
      · rename_i s hx
        obtain ⟨r, hr, h2⟩ := h
        obtain ⟨h1, b, hb, rfl⟩ := byteAt_some hr
        exact ⟨_, by simp [Ctx.pure, hi, ht, hx, h1, hb], h2⟩
      · exact h.elim
    · rename_i k n m e hi ht
      split at h
      · rename_i cs hx
        obtain ⟨h1, h2⟩ := h
        obtain ⟨v, h3, h4⟩ := loadT_sound h2
        exact ⟨v, by simp only [Ctx.pure, hi, ht, hx]; rw [if_pos (show 0 ≤ n ∧ n < m from h1)]; exact h3, h4⟩
      · exact h.elim
    · exact h.elim
  · rename_i t x i
    split at h
    · rename_i k n e hi ht
      split at h
      · rename_i xs hx
        obtain ⟨hk, h1⟩ := onlyIfT_w h
        have h4 := of_decide_eq_true hk
        obtain ⟨cs, hcs, h2⟩ := opnT_w h1
        obtain ⟨h0, v, hv, rfl⟩ := elemAt_some hcs
        obtain ⟨h5, h6⟩ := onlyIfT_w h2
        have hlt : n.toNat < xs.length := (List.getElem?_eq_some_iff.1 hv).1
        refine ⟨_, ?_, h6⟩
        simp only [Ctx.pure, hi, ht, hx]
        rw [if_pos ⟨h0, by omega, h4⟩, hv]
        simp only [Option.bind_some]
        rw [if_pos (of_decide_eq_true h5)]
      · rename_i b o m hx
        obtain ⟨hk, h1, h2⟩ := onlyIfT_w h
        have h4 := of_decide_eq_true hk
        exact ⟨_, by simp only [Ctx.pure, hi, ht, hx]; rw [if_pos ⟨h1.1, h1.2, h4⟩], h2⟩
      · exact h.elim
    · rename_i k n m e hi ht
      split at h
      · rename_i b o hx
        obtain ⟨hk, h1, h2⟩ := onlyIfT_w h
        have h4 := of_decide_eq_true hk
        exact ⟨_, by simp only [Ctx.pure, hi, ht, hx]; rw [if_pos ⟨h1.1, h1.2, h4⟩], h2⟩
      · rename_i cs hx
        obtain ⟨hk, h1, h2⟩ := onlyIfT_w h
        have h4 := of_decide_eq_true hk
        exact ⟨_, by simp only [Ctx.pure, hi, ht, hx]; rw [if_pos ⟨h1.1, h1.2, h4⟩], h2⟩
      · exact h.elim
    · exact h.elim
  · rename_i t x lo hi mx
    split at h
    · rename_i s ht hx
      obtain ⟨a, b, h1, h2⟩ := boundsT_sound h
      exact ⟨_, by simp [Ctx.pure, ht, hx, h1], h2⟩
    · rename_i e xs ht hx
      obtain ⟨hk, h5⟩ := onlyIfT_w h
      have h4 := of_decide_eq_true hk
      obtain ⟨a, b, h1, h2⟩ := boundsT_sound h5.2
      refine ⟨_, ?_, h2⟩
      simp only [Ctx.pure, ht, hx]
      rw [if_pos ⟨h4, h5.1⟩, h1]
      rfl
    · exact optT_w h
  · exact ⟨_, rfl, h⟩
  · exact ⟨_, rfl, h⟩
  · rename_i k a b
    split at h
    · rename_i hk; exact ⟨_, by simp only [Ctx.pure, hk, if_true], h⟩
    · rename_i hk; exact ⟨_, by simp only [Ctx.pure, hk, Bool.false_eq_true, if_false], h⟩
    · exact h.elim
  · rename_i t x
    split at h
    · rename_i cs tg hx
      obtain ⟨v, h1, h2⟩ := loadT_sound h
      exact ⟨v, by simp only [Ctx.pure, hx]; exact h1, h2⟩
    · exact h.elim
  · obtain ⟨v, h1, h2⟩ := optT_w h
    exact ⟨v, h1, namedT_w h2⟩
end
def readT (c : Ctx) (op : Op) (ρ : Operand → SV) (S : St) (K : SV → Tree) : Tree :=
  match op with
  | .load t x => match (ρ x) with
    | (.ptr b o, tg) => match S.H[b]? with
      | some cells => loadT c t tg cells o K
      | none => .fail
    | _ => pureT c (.load t x) ρ K
  | .convert src dst x => match (ρ x).1 with
    | .slr b o n => match S.H[b]?, tk c.P dst, tk c.P src with
      | some cells, .string, .slice e => match tk c.P e with
        | .int .u8 => .need (o + n ≤ cells.length) (.bind (bytesOf (((cells.drop o).take n).map (·.1))) fun s => K (.str s, .no))
        | _ => .fail
      | _, _, _ => .fail
    | .sl xs => match (ρ x).2, tk c.P dst, tk c.P src with
      | .tok _, .string, .slice e => match tk c.P e with
        | .int .u8 => .bind (bytesOf xs) fun s => K (.str s, .no)
        | _ => .fail
      | _, _, _ => pureT c (.convert src dst x) ρ K
    | _ => pureT c (.convert src dst x) ρ K
  | op => pureT c op ρ K
section
variable {W : Orc} {f : FuncId} {Q : Out → Prop}
theorem readT_sound {c : Ctx} {op : Op} {ρ : Operand → SV} {S : St} {K : SV → Tree} (h : (readT c op ρ S K).wp W f Q) : ∃ v, pureOrRead c op ρ S = some v ∧ (K v).wp W f Q := by
  have pure' : ∀ {op : Op}, (pureT c op ρ K).wp W f Q → ∃ v, pureOrRead c op ρ S = some v ∧ (K v).wp W f Q := fun h => by
    obtain ⟨v, h1, h2⟩ := pureT_sound h
    exact ⟨v, by simp [pureOrRead, h1], h2⟩
  unfold readT at h
  split at h
  · rename_i t x
    split at h
    · rename_i b o tg hx
      split at h
      · rename_i cells hb
        obtain ⟨v, h1, h2⟩ := loadT_sound h
        exact ⟨v, by simp [pureOrRead, Ctx.pure, Ctx.read, hx, hb, h1], h2⟩
      · exact h.elim
    · exact pure' h
  · rename_i src dst x
    split at h
    · rename_i b o n hx
      split at h
      · rename_i cells e hb hd hsrc
        split at h
        · rename_i he
          obtain ⟨hle, s, hs, h⟩ := h
          refine ⟨_, ?_, h⟩
          have e1 : c.pure (.convert src dst x) ρ = none := by simp [Ctx.pure, hx, hd]
          have e2 : c.read (.convert src dst x) ρ S = some (.str s, .no) := by
            simp only [Ctx.read, hx, hd, hsrc, he, hb]
            rw [if_pos hle, hs]; rfl
          simp only [pureOrRead, e1, e2]
        · exact h.elim
      · exact h.elim
    · rename_i xs hx
      split at h
      · rename_i id e ht hd hsrc
        split at h
        · rename_i he
          obtain ⟨s, hs, h⟩ := h
          refine ⟨_, ?_, h⟩
          have e1 : c.pure (.convert src dst x) ρ = some (.str s, .no) := by simp [Ctx.pure, hx, hd, hsrc, he, hs, TK.isOther]
          simp only [pureOrRead, e1]
        · exact h.elim
      · exact pure' h
    · exact pure' h
  · exact pure' h
end
end Go.Ab
end
section
/- TREES: operations that move the state; operations in the text's order. -/
namespace Go.Ab
open Go.RowKit

def lowT0 (n : Nat) (x : AV) (t : Tree) : Tree := match x with
  | .sl xs => .need (AV.lows 0 xs = true) t
  | .iface _ (.sl xs) => .need (AV.lows 0 xs = true) t
  | x => onlyIfT (x.low n) t
def lowTs0 (n : Nat) : List AV → Tree → Tree
  | [], t => t
  | x :: xs, t => lowT0 n x (lowTs0 n xs t)
def lowT1 (n : Nat) (x : AV) (t : Tree) : Tree := match x with
  | .agg cs => lowTs0 n cs t
  | x => lowT0 n x t
def lowTs (n : Nat) : List AV → Tree → Tree
  | [], t => t
  | x :: xs, t => lowT1 n x (lowTs n xs t)
def lowT (n : Nat) (x : AV) (t : Tree) : Tree := match x with
  | .agg cs => lowTs n cs t
  | .tup cs => lowTs n cs t
  | x => lowT1 n x t
def lowTAll (n : Nat) : List SV → Tree → Tree
  | [], t => t
  | x :: xs, t => lowT n x.1 (lowTAll n xs t)
/-- cells that may be kept -/
def bigOk (n : Nat) (new : List SV) : Prop := ∀ y ∈ new, y.1.isCell = true ∧ y.1.low n = true
def Env0.storeT (e : Env0) (t : TypeId) (tg : Tag) (b o : Nat) (new : List SV) (S : St) (K : SV → St → Tree) : Tree :=
  match S.H[b]? with
  | none => .fail
  | some cells => match (match tg with | .no => bigA e.c.P t | _ => false) with
    | true => .need (new.length = tsz e.c.P t ∧ 1 ≤ tsz e.c.P t ∧ bigOk (b + 1) new ∧ o + tsz e.c.P t ≤ cells.length) (.nm (replaceAt cells o (keptCells (decide (b < e.n0)) o cells new)) fun cells' => K (.tup [], .no) ⟨S.H.set b cells', S.T⟩)
    | false => onlyIfT (decide (new.length = tsz e.c.P t) && decide (1 ≤ tsz e.c.P t) && new.all (fun y => y.1.isCell)) <| lowTAll (b + 1) new <| match tg with
      | .no => onlyIfT (decide (o + tsz e.c.P t ≤ cells.length)) (K (.tup [], .no) ⟨S.H.set b (replaceAt cells o (keptCells (decide (b < e.n0)) o cells new)), S.T⟩)
      | .full => .need (o + tsz e.c.P t ≤ cells.length) (opnT (cells.map (ckOf ·.1)) (plainL (replaceAt cells o (keptCells (decide (b < e.n0)) o cells new))) fun cs =>
          K (.tup [], .no) ⟨S.H.set b (cs.map (·, Tag.no)), S.T⟩)
      | _ => .need (o + tsz e.c.P t ≤ cells.length) (.nm (replaceAt cells o (keptCells (decide (b < e.n0)) o cells new)) fun cells' => K (.tup [], .no) ⟨S.H.set b cells', S.T⟩)
def Env0.addedT (e : Env0) (S : St) (elem : TypeId) (k : TK) (x : AV) (K : List AV → Tree) : Tree := match x, k with
  | .sl ys, .slice _ => .need (szOk ys (tsz e.c.P elem) = true) (K ys)
  | .str y, .string => match tk e.c.P elem with
    | .int .u8 => onlyIfT (decide (tsz e.c.P elem = 1)) (K (toBytes y))
    | _ => .fail
  | .slr b o n, .slice _ => match S.H[b]? with
    | some cells => .need (tsz e.c.P elem = 1 ∧ o + n ≤ cells.length ∧ (((cells.drop o).take n).map (·.1)).all AV.isCell = true) (K (((cells.drop o).take n).map (·.1)))
    | none => .fail
  | _, _ => optT (e.added S elem k x) K
def Env0.appendLT (e : Env0) (t t2 : TypeId) (s x : SV) (S : St) (K : SV → St → Tree) : Tree :=
  match tk e.c.P t, s.1 with
  | .slice elem, .sl xs =>
    onlyIfT (decide (1 ≤ tsz e.c.P elem) && decide (tsz e.c.P elem ≤ 256) && decide (e.c.P.bytesOf elem ≤ 4096) && hasZero e.c.P elem && decide ((tz e.c.P elem).length = tsz e.c.P elem)) <|
    .need (szOk xs (tsz e.c.P elem) = true) <| e.addedT S elem (tk e.c.P t2) x.1 fun ys =>
    .need (xs.length + ys.length ≤ roomB (e.c.P.bytesOf elem)) <| match s.2 with
      | .tok id => .need (S.T[id]? = some xs.length) (K (.sl (xs ++ ys), .tok id) ⟨S.H, S.T.set id (xs ++ ys).length⟩)
      | .full => Tree.ite ys.isEmpty (K s S) (K (.sl (xs ++ ys), .tok S.T.length) ⟨S.H, S.T ++ [(xs ++ ys).length]⟩)
      | _ => .fail
  | _, _ => .fail
def bytesT (k : TK) (x : AV) (K : List UInt8 → Tree) : Tree :=
  match x, k with
  | .str s, .string => K s
  | .sl [.int .u8 n], .slice _ => .need (0 ≤ n ∧ n < 256) (K [UInt8.ofNat n.toNat])
  | _, _ => .fail
def Env0.appendBT (e : Env0) (t t2 u : TypeId) (bs : List UInt8) (tg : Tag) (x : SV) (S : St) (K : SV → St → Tree) : Tree :=
  match tk e.c.P t, tk e.c.P u, tg with
  | .slice elem, .int .u8, .tok id =>
    onlyIfT (decide (elem = u) && decide (tsz e.c.P u = 1) && decide (e.c.P.bytesOf u ≤ 4096) && hasZero e.c.P u && decide ((tz e.c.P u).length = 1)) <|
    bytesT (tk e.c.P t2) x.1 fun ys => .need (bs.length + ys.length ≤ maxLen) <| .need (S.T[id]? = some bs.length) <| K (.buf u (bs ++ ys), .tok id) ⟨S.H, S.T.set id (bs ++ ys).length⟩
  | _, _, _ => .fail
def Env0.appendT (e : Env0) (t t2 : TypeId) (s x : SV) (S : St) (K : SV → St → Tree) : Tree :=
  match s with
  | (.buf u bs, tg) => e.appendBT t t2 u bs tg x S K
  | (.sl xs, tg) => e.appendLT t t2 (.sl xs, tg) x S K
  | _ => .fail
def sliceDataT (x : SV) (S : St) (K : SV → St → Tree) : Tree :=
  match x with
  | (.buf u s, .tok id) => .need (S.T[id]? = some s.length) (K (.bptr u s, .tok id) S)
  | _ => .fail
def unsafeStringT (P : Program) (pt : TypeId) (x n : SV) (S : St) (K : SV → St → Tree) : Tree :=
  match x, n.1 with
  | (.bptr u s, .tok id), .int .i64 k => onlyIfT (ptrU8 P pt u) (.need (S.T[id]? = some s.length ∧ k = (s.length : Nat) ∧ s.length ≤ maxLen) (K (.str s, .no) S))
  | _, _ => .fail
/-- how calls are taken -/
abbrev CT := FuncId → List SV → St → (SV → St → Tree) → (AV → St → Tree) → Tree
def Env0.actT (e : Env0) (ct : CT) (op : Op) (ρ : Operand → SV) (S : St) (K Kp : SV → St → Tree) : Tree :=
  match op with
  | .alloc t => match e.c.bty t with
    | none => onlyIfT (hasZero e.c.P t) (K (.ptr S.H.length 0, .no) ⟨S.H ++ [(e.zeroVar t S.T.length).1], S.T ++ (e.zeroVar t S.T.length).2⟩)
    | some u => onlyIfT (hasZero e.c.P t && (isZeroB (tzs e.c.P t) && decide (tsz e.c.P t = 2))) (K (.ptr S.H.length 0, .no) ⟨S.H ++ [zeroB t u S.H.length S.T.length], S.T ++ [0]⟩)
  | .box t x => onlyIfT (ρ x).1.known (K (.ptr S.H.length 0, .no) ⟨S.H ++ [(newCells (e.pre t) (expand (ρ x)) S.T.length).1], S.T ++ (newCells (e.pre t) (expand (ρ x)) S.T.length).2⟩)
  | .store t a x => match ρ a with
    | (.ptr b o, tg) => e.storeT t tg b o (expand (ρ x)) S K
    | _ => .fail
  | .panic x => match (ρ x).1 with
    | .iface t v => Kp (.iface t v, .no) S
    | _ => .fail
  | .call { callee := .value f, args, .. } => match (ρ f).1 with
    | .fn k first cap => ct k (first.map (·, .no) ++ args.toList.map ρ ++ cap.map (·, .no)) S K (fun v S' => Kp (v, .no) S')
    | _ => .fail
  | .call { callee := .builtin .append, args, argTypes } => match args.toList, argTypes.toList with
    | [s, x], [t, t2] => e.appendT t t2 (ρ s) (ρ x) S K
    | _, _ => .fail
  | .call { callee := .builtin .unsafeSliceData, args, .. } => match args.toList with
    | [x] => sliceDataT (ρ x) S K
    | _ => .fail
  | .call { callee := .builtin .unsafeString, args, argTypes } => match args.toList, argTypes.toList with
    | [x, n], [pt, _] => unsafeStringT e.c.P pt (ρ x) (ρ n) S K
    | _, _ => .fail
  | .convert src dst x => match (ρ x).1, tk e.c.P dst with
    | .str s, .slice elem => match tk e.c.P elem with
      | .int .u8 => onlyIfT (!(tk e.c.P src).isOther) (K (.slr S.H.length 0 s.length, .no) ⟨S.H ++ [(toBytes s).map (·, .no)], S.T⟩)
      | _ => .fail
    | _, _ => .fail
  | op => optT (e.act op ρ S) fun r => match r with
    | .ok v S' => K v S'
    | .panic v S' => Kp (v, .no) S'
def Env0.runT (e : Env0) (ct : CT) (op : Op) (ρ : Operand → SV) (S : St) (K Kp : SV → St → Tree) : Tree :=
  match isActOp e.c.P op with
  | true => e.actT ct op ρ S K Kp
  | false => readT e.c op ρ S fun v => K v S
def wantT (t want : Bool) (A B : Tree) : Tree := match want with
  | true => Tree.ite t A B
  | false => Tree.ite t B A
def Env0.stepT (e : Env0) (ct : CT) (ops : Array Oper) (o : Oper) (fr : Fr) (S : St) (K : Fr → St → Tree) (Kp : SV → Fr → St → Tree) : Tree :=
  match o.guard with
  | none => match o.op with
    | .defer { callee := .value f, args, .. } => match (e.c.eval fr.env f).1 with
      | .fn k first cap => K ({ fr with ds := (k, (first ++ args.toList.map (fun x => (e.c.eval fr.env x).1) ++ cap).map fun v => ((v, Tag.no) : SV)) :: fr.ds }.put o.dst (.tup [], .no)) S
      | _ => .fail
    | op => e.runT ct op (e.c.eval fr.env) S (fun v S' => K (fr.put o.dst v) S') (fun v S' => Kp v fr S')
  | some (j, want) => match (ops[j]?).bind (·.dst) with
    | some d => match (fr.env.getD d (.undef, .no)).1 with
      | .bool b => wantT b want (match o.op with
          | .defer _ => .fail
          | op => e.runT ct op (e.c.eval (setB fr.env d want)) S (fun v S' => K (Fr.put ⟨setB fr.env d want, fr.ds⟩ o.dst v) S') (fun v S' => Kp v ⟨setB fr.env d want, fr.ds⟩ S')) (K (Fr.put ⟨setB fr.env d (!want), fr.ds⟩ o.dst (.tup [], .no)) S)
      | .tup [] => K (fr.put o.dst (.tup [], .no)) S
      | _ => .fail
    | none => .fail
abbrev QT := Ex → Fr → St → Tree
def Env0.opsT (e : Env0) (ct : CT) (ops : Array Oper) (Q : QT) : List Oper → Fr → St → Tree
  | [], fr, S => Q .normal fr S
  | o :: rest, fr, S => e.stepT ct ops o fr S (fun fr S => e.opsT ct ops Q rest fr S) (fun v fr S => Q (.panic v.1) fr S)

section
variable {W : Orc} {f : FuncId} {Q : Out → Prop}
theorem lowT0_w {n : Nat} {x : AV} {t : Tree} (h : (lowT0 n x t).wp W f Q) : x.low n = true ∧ t.wp W f Q := by
  unfold lowT0 at h
  split at h
  · exact ⟨by simp only [AV.low]; exact AV.lows_mono (Nat.zero_le _) h.1, h.2⟩
  · exact ⟨by simp only [AV.low]; exact AV.lows_mono (Nat.zero_le _) h.1, h.2⟩
  · exact onlyIfT_w h
theorem lowTs0_w {n : Nat} : ∀ {xs : List AV} {t : Tree}, (lowTs0 n xs t).wp W f Q → AV.lows n xs = true ∧ t.wp W f Q
  | [], t, h => ⟨rfl, h⟩
  | x :: xs, t, h => by
    obtain ⟨h1, h2⟩ := lowT0_w h
    obtain ⟨h3, h4⟩ := lowTs0_w h2
    exact ⟨by simp [AV.lows, h1, h3], h4⟩
theorem lowT1_w {n : Nat} {x : AV} {t : Tree} (h : (lowT1 n x t).wp W f Q) : x.low n = true ∧ t.wp W f Q := by
  unfold lowT1 at h
  split at h
  · obtain ⟨h1, h2⟩ := lowTs0_w h
    exact ⟨by simpa only [AV.low] using h1, h2⟩
  · exact lowT0_w h
theorem lowTs_w {n : Nat} : ∀ {xs : List AV} {t : Tree}, (lowTs n xs t).wp W f Q → AV.lows n xs = true ∧ t.wp W f Q
  | [], t, h => ⟨rfl, h⟩
  | x :: xs, t, h => by
    obtain ⟨h1, h2⟩ := lowT1_w h
    obtain ⟨h3, h4⟩ := lowTs_w h2
    exact ⟨by simp [AV.lows, h1, h3], h4⟩
theorem lowT_w {n : Nat} {x : AV} {t : Tree} (h : (lowT n x t).wp W f Q) : x.low n = true ∧ t.wp W f Q := by
  unfold lowT at h
  split at h
  · exact lowTs_w h
  · exact lowTs_w h
  · exact lowT1_w h
theorem lowTAll_w {n : Nat} : ∀ {xs : List SV} {t : Tree}, (lowTAll n xs t).wp W f Q → (∀ x ∈ xs, x.1.low n = true) ∧ t.wp W f Q
  | [], t, h => ⟨by simp, h⟩
  | x :: xs, t, h => by
    obtain ⟨h1, h2⟩ := lowT_w h
    obtain ⟨h3, h4⟩ := lowTAll_w h2
    exact ⟨fun y hy => by rcases List.mem_cons.1 hy with rfl | hy; exact h1; exact h3 y hy, h4⟩
theorem storeT_sound {e : Env0} {t : TypeId} {a x : Operand} {ρ : Operand → SV} {tg : Tag} {b o : Nat} {S : St} {K : SV → St → Tree} (ha : ρ a = (.ptr b o, tg)) (h : (e.storeT t tg b o (expand (ρ x)) S K).wp W f Q) :
    ∃ v S', e.act (.store t a x) ρ S = some (.ok v S') ∧ (K v S').wp W f Q := by
  unfold Env0.storeT at h
  split at h
  · exact h.elim
  · rename_i cells hb
    have fin2 : (expand (ρ x)).length = tsz e.c.P t → 1 ≤ tsz e.c.P t → (expand (ρ x)).all (fun y => y.1.isCell) = true → (∀ y ∈ expand (ρ x), y.1.low (b + 1) = true) → o + tsz e.c.P t ≤ cells.length →
        e.act (.store t a x) ρ S = some (.ok (.tup [], .no) ⟨S.H.set b (replaceAt cells o (keptCells (decide (b < e.n0)) o cells (expand (ρ x)))), S.T⟩) := by
      intro h1 h2 h3 hl hle
      have hst := storeCells_kept (n0 := e.n0) (b := b) (o := o) (old := cells) hl
      simp only [Env0.act, ha, hb]
      rw [if_pos ⟨h1, h2, hle, h3⟩, hst]
    split at h
    · obtain ⟨⟨h1, h2, h3, h4⟩, h5⟩ := h
      have h9 := nm_w h5
      exact ⟨_, _, fin2 h1 h2 (List.all_eq_true.2 fun y hy => (h3 y hy).1) (fun y hy => (h3 y hy).2) h4, h9⟩
    · obtain ⟨hk, h⟩ := onlyIfT_w h
      obtain ⟨hl, h⟩ := lowTAll_w h
      simp only [Bool.and_eq_true, decide_eq_true_eq] at hk
      have fin := fin2 hk.1.1 hk.1.2 hk.2 hl
      split at h
      · obtain ⟨h1, h2⟩ := onlyIfT_w h
        exact ⟨_, _, fin (of_decide_eq_true h1), h2⟩
      · obtain ⟨h1, h2⟩ := h
        obtain ⟨l, h3, h4⟩ := opnT_w h2
        refine ⟨_, _, fin h1, ?_⟩
        rw [(plainL_eq h3).1]
        exact h4
      · have h9 := nm_w h.2
        exact ⟨_, _, fin h.1, h9⟩
theorem addedT_sound {e : Env0} {S : St} {elem : TypeId} {k : TK} {x : AV} {K : List AV → Tree} (h : (e.addedT S elem k x K).wp W f Q) : ∃ ys, e.added S elem k x = some ys ∧ (K ys).wp W f Q := by
  unfold Env0.addedT at h
  split at h
  · exact ⟨_, by simp only [Env0.added, h.1, if_true], h.2⟩
  · split at h
    · rename_i hke
      obtain ⟨c1, c2⟩ := onlyIfT_w h
      exact ⟨_, by simp only [Env0.added, hke]; rw [if_pos (of_decide_eq_true c1)], c2⟩
    · exact h.elim
  · split at h
    · rename_i b o n e2 cells hb
      exact ⟨_, by simp only [Env0.added, hb]; rw [if_pos h.1], h.2⟩
    · exact h.elim
  · exact optT_w h
theorem appendLT_sound {e : Env0} {t t2 : TypeId} {s x : SV} {S : St} {K : SV → St → Tree} (h : (e.appendLT t t2 s x S K).wp W f Q) : ∃ v S', e.appendL t t2 s x S = some (.ok v S') ∧ (K v S').wp W f Q := by
  unfold Env0.appendLT at h
  split at h
  · rename_i elem xs hk hx
    obtain ⟨h1, h2, h3⟩ := onlyIfT_w h
    simp only [Bool.and_eq_true, decide_eq_true_eq] at h1
    obtain ⟨⟨⟨⟨a1, a2⟩, a3⟩, a4⟩, a5⟩ := h1
    obtain ⟨ys, hadd, b1, b2⟩ := addedT_sound h3
    unfold Env0.appendL
    simp only [hk, hx, h2, if_true, hadd]
    rw [if_pos ⟨b1, a1, a2, a3, a4, a5⟩]
    split at b2
    · rename_i id ht
      obtain ⟨b2, b3⟩ := b2
      rw [ht]
      simp only [b2, if_true]
      cases hy : ys.isEmpty with
      | true =>
        have : ys = [] := by simpa using hy
        subst this
        refine ⟨_, _, rfl, ?_⟩
        rw [List.append_nil, set_same b2] at b3
        obtain ⟨s1, s2⟩ := s
        simp only at hx ht
        subst hx; subst ht
        exact b3
      | false => exact ⟨_, _, rfl, by rw [List.length_append] at b3; exact b3⟩
    · rename_i ht
      rw [ht]
      have b2 := ite_w b2
      cases hy : ys.isEmpty with
      | true => exact ⟨_, _, rfl, b2.1 hy⟩
      | false => exact ⟨_, _, rfl, by have := b2.2 hy; rw [List.length_append] at this; exact this⟩
    · exact b2.elim
  · exact h.elim
theorem appendBT_sound {e : Env0} {t t2 u : TypeId} {bs : List UInt8} {tg : Tag} {x : SV} {S : St} {K : SV → St → Tree} (h : (e.appendBT t t2 u bs tg x S K).wp W f Q) : ∃ v S', e.append t t2 (.buf u bs, tg) x S = some (.ok v S') ∧ (K v S').wp W f Q := by
  refine appendBW_sound (K := fun v S => (K v S).wp W f Q) ?_
  unfold Env0.appendBT at h
  unfold Env0.appendBW
  split at h
  · rename_i elem id hk hu
    simp only [hk, hu]
    obtain ⟨h1, h2⟩ := onlyIfT_w h
    rw [h1]
    show bytesW _ _ _
    unfold bytesT at h2
    unfold bytesW
    split at h2
    · rename_i hx hk2
      try simp only [hx, hk2]
      exact h2
    · rename_i hx hk2
      try simp only [hx, hk2]
      exact h2
    · exact h2.elim
  · exact h.elim
theorem appendT_sound {e : Env0} {t t2 : TypeId} {s x : SV} {S : St} {K : SV → St → Tree} (h : (e.appendT t t2 s x S K).wp W f Q) : ∃ v S', e.append t t2 s x S = some (.ok v S') ∧ (K v S').wp W f Q := by
  unfold Env0.appendT at h
  split at h
  · exact appendBT_sound h
  · exact appendLT_sound h
  · exact h.elim
def ARes.toT (r : ARes) (K Kp : SV → St → Tree) : Tree := match r with
  | .ok v S' => K v S'
  | .panic v S' => Kp (v, .no) S'
/-- the calls' trees are right -/
def CTOk (W : Orc) (f : FuncId) (Q : Out → Prop) (ct : CT) (tab : Tab) : Prop := ∀ k args S K Kp, (ct k args S K Kp).wp W f Q → ∃ sp, tab k = some sp ∧ sp.wp args S (fun v S' => (K v S').wp W f Q) (fun v S' => (Kp v S').wp W f Q)
variable {ct : CT} {tab : Tab}
theorem actT_sound {e : Env0} (he : e.call = callOf tab) (hct : CTOk W f Q ct tab) {op : Op} {ρ : Operand → SV} {S : St} {K Kp : SV → St → Tree} (h : (e.actT ct op ρ S K Kp).wp W f Q) : ∃ r, e.act op ρ S = some r ∧ (r.toT K Kp).wp W f Q := by
  unfold Env0.actT at h
  split at h
  · split at h
    · rename_i hb
      obtain ⟨h1, h2⟩ := onlyIfT_w h
      exact ⟨.ok _ _, by simp only [Env0.act, hb]; rw [if_pos h1]; rfl, h2⟩
    · rename_i u hb
      obtain ⟨h1, h2⟩ := onlyIfT_w h
      rw [Bool.and_eq_true] at h1
      exact ⟨.ok _ _, by simp only [Env0.act, hb]; rw [if_pos h1.1, if_pos h1.2], h2⟩
  · obtain ⟨h1, h2⟩ := onlyIfT_w h
    exact ⟨.ok _ _, by simp only [Env0.act]; rw [if_pos h1]; rfl, h2⟩
  · split at h
    · rename_i b o tg hx
      obtain ⟨v, S', h1, h2⟩ := storeT_sound hx h
      exact ⟨.ok v S', h1, h2⟩
    · exact h.elim
  · split at h
    · rename_i t v hx
      exact ⟨.panic (.iface t v) S, by simp only [Env0.act, hx], h⟩
    · exact h.elim
  · rename_i fx args ts
    split at h
    · rename_i k first cap hx
      obtain ⟨sp, hsp, h⟩ := hct _ _ _ _ _ h
      obtain ⟨⟨out, S'⟩, h1, h2⟩ := Spec.run_to h
      have hc : e.call k (first.map (·, .no) ++ args.toList.map ρ ++ cap.map (·, .no)) S = some (out, S') := by rw [he]; simp only [callOf, hsp]; exact h1
      cases out with
      | ret v => exact ⟨.ok v S', by simp only [Env0.act, hx, hc], h2⟩
      | panic v => exact ⟨.panic v S', by simp only [Env0.act, hx, hc], h2⟩
    · exact h.elim
  · split at h
    · rename_i s x t t2 ha ht
      obtain ⟨v, S', h1, h2⟩ := appendT_sound h
      exact ⟨.ok v S', by simp only [Env0.act, ha, ht]; exact h1, h2⟩
    · exact h.elim
  · split at h
    · rename_i x ha
      unfold sliceDataT at h
      split at h
      · rename_i u s id hx
        exact ⟨.ok _ _, by simp only [Env0.act, ha, hx]; rw [if_pos h.1], h.2⟩
      · exact h.elim
    · exact h.elim
  · split at h
    · rename_i x n pt it ha ht
      unfold unsafeStringT at h
      split at h
      · rename_i u s id k hx hn
        obtain ⟨h1, ⟨h2, h3, h4⟩, h5⟩ := onlyIfT_w h
        exact ⟨.ok _ _, by simp only [Env0.act, ha, ht, hx, hn]; rw [if_pos ⟨h2, h3, h4, h1⟩], h5⟩
      · exact h.elim
    · exact h.elim
  · split at h
    · rename_i s elem hx hd
      split at h
      · rename_i hel
        obtain ⟨h1, h2⟩ := onlyIfT_w h
        refine ⟨.ok _ _, ?_, h2⟩
        simp only [Env0.act, hx, hd, hel]
        rw [if_neg (by simpa using h1)]
      · exact h.elim
    · exact h.elim
  · obtain ⟨r, h1, h2⟩ := optT_w h
    exact ⟨r, h1, by cases r <;> exact h2⟩
theorem wantT_w {t want : Bool} {A B : Tree} (h : (wantT t want A B).wp W f Q) : (t = want → A.wp W f Q) ∧ (t = (!want) → B.wp W f Q) := by
  cases want with
  | true => exact ite_w (t := t) h
  | false => have := ite_w (t := t) h; exact ⟨this.2, this.1⟩
def ORes.toT (r : ORes) (K : Fr → St → Tree) (Kp : SV → Fr → St → Tree) : Tree := match r with
  | .ok fr S => K fr S
  | .panic v fr S => Kp (v, .no) fr S
theorem runT_sound {e : Env0} (he : e.call = callOf tab) (hct : CTOk W f Q ct tab) {ops : Array Oper} {o : Oper} {fr : Fr} {S : St} {K : Fr → St → Tree} {Kp : SV → Fr → St → Tree} (hw : wantedA ops fr.env o = some true) (hnd : ∀ cl, o.op ≠ .defer cl)
    (h : (e.runT ct o.op (e.c.eval fr.env) S (fun v S' => K (fr.put o.dst v) S') (fun v S' => Kp v fr S')).wp W f Q) : ∃ r, e.step ops o fr S = some r ∧ (r.toT K Kp).wp W f Q := by
  unfold Env0.step
  simp only [hw]
  unfold Env0.runT at h
  split at h
  · rename_i ha
    obtain ⟨r, h1, h2⟩ := actT_sound he hct h
    obtain ⟨h3, h4⟩ := pure_act (ρ := e.c.eval fr.env) (S := S) ha
    split
    · rename_i hop; exact absurd hop (hnd _)
    · rw [h3, h4, h1]
      cases r with
      | ok v S' => exact ⟨_, rfl, h2⟩
      | panic v S' => exact ⟨_, rfl, h2⟩
  · rename_i ha
    obtain ⟨v, h1, h2⟩ := readT_sound h
    unfold pureOrRead at h1
    split
    · rename_i hop; exact absurd hop (hnd _)
    · split at h1
      · rename_i v' hv; cases h1; rw [hv]; exact ⟨_, rfl, h2⟩
      · rename_i hv; rw [hv, h1]; exact ⟨_, rfl, h2⟩
theorem stepT_sound {e : Env0} (he : e.call = callOf tab) (hct : CTOk W f Q ct tab) {ops : Array Oper} {o : Oper} {fr : Fr} {S : St} {K : Fr → St → Tree} {Kp : SV → Fr → St → Tree} (h : (e.stepT ct ops o fr S K Kp).wp W f Q) : ∃ r, e.step ops o fr S = some r ∧ (r.toT K Kp).wp W f Q := by
  unfold Env0.stepT at h
  have off : wantedA ops fr.env o = some false → (K (fr.put o.dst (.tup [], .no)) S).wp W f Q → ∃ r, e.step ops o fr S = some r ∧ (r.toT K Kp).wp W f Q := by
    intro hw hr
    exact ⟨.ok _ S, by unfold Env0.step; simp only [hw], hr⟩
  split at h
  · rename_i hg
    have hw : wantedA ops fr.env o = some true := by simp [wantedA, hg]
    split at h
    · rename_i fx args ts hop
      split at h
      · rename_i k first cap hf
        exact ⟨.ok _ S, by unfold Env0.step; simp only [hw, hop, hf], h⟩
      · exact h.elim
    · rename_i hnd
      by_cases hd : ∃ cl, o.op = .defer cl
      · exfalso
        obtain ⟨⟨callee, args, ts⟩, hd⟩ := hd
        rw [hd] at h
        cases callee with
        | value fx => exact hnd fx args ts hd
        | builtin b =>
          simp only [Env0.runT, isActOp, readT, pureT, Ctx.pure, optT, Tree.wp] at h
        | invoke =>
          simp only [Env0.runT, isActOp, readT, pureT, Ctx.pure, optT, Tree.wp] at h
      · exact runT_sound he hct hw (fun cl hc => hd ⟨cl, hc⟩) h
  · rename_i j want hg
    split at h
    · rename_i d hd
      split at h
      · rename_i b hb
        have hw : wantedA ops fr.env o = some (b == want) := by simp only [wantedA, hg, hd, hb]
        have h := wantT_w h
        by_cases hbw : b = want
        · have h1 := h.1 hbw
          rw [setB_eq (v := want) (by rw [← hbw]; exact hb)] at h1
          split at h1
          · exact h1.elim
          · rename_i hnd
            exact runT_sound he hct (by rw [hw, hbw]; cases want <;> rfl) (fun cl hc => hnd cl hc) h1
        · have hbw' : b = !want := by clear hw h off; cases b <;> cases want <;> first | rfl | exact absurd rfl hbw
          have h2 := h.2 hbw'
          rw [setB_eq (v := !want) (by rw [← hbw']; exact hb)] at h2
          exact off (by rw [hw, hbw']; cases want <;> rfl) h2
      · rename_i hb; exact off (by simp only [wantedA, hg, hd, hb]) h
      · exact h.elim
    · exact h.elim
theorem opsT_sound {e : Env0} (he : e.call = callOf tab) (hct : CTOk W f Q ct tab) {ops : Array Oper} {Q' : QT} : ∀ (l : List Oper) (fr : Fr) (S : St), (e.opsT ct ops Q' l fr S).wp W f Q → ∃ r, e.ops ops l fr S = some r ∧ (r.toT (Q' .normal) (fun v => Q' (.panic v.1))).wp W f Q := by
  intro l
  induction l with
  | nil => intro fr S h; exact ⟨.ok fr S, rfl, h⟩
  | cons o l ih =>
    intro fr S h
    simp only [Env0.opsT] at h
    obtain ⟨r, h1, h2⟩ := stepT_sound he hct h
    cases r with
    | ok fr' S' =>
      obtain ⟨r2, h3, h4⟩ := ih fr' S' h2
      exact ⟨r2, by simp only [Env0.ops, h1]; exact h3, h4⟩
    | panic v fr' S' => exact ⟨.panic v fr' S', by simp only [Env0.ops, h1], h2⟩
end
end Go.Ab
end
section
/- TREES: regions whose order is open; code; a body's end. -/
namespace Go.Ab
open Go.RowKit

def Env0.seesT (e : Env0) (ops : Array Oper) (S0 : St) (base : Nat) (r : Rec) (S : St) (t : Tree) : Tree := match r.o.op with
  | .alloc _ => onlyIfT (Env0.fresh (base + r.al) S0 S) t
  | .load ty x => match e.c.evalR r.env (readsTmp ops r.o) x with
    | (.ptr b o, tg) => match S.H[b]? with
      | some cells => .need (loadW e.c ty tg cells o (fun v => v = r.v)) t
      | none => .fail
    | _ => .fail
  | op => .need (pureOrRead e.c op (e.c.evalR r.env (readsTmp ops r.o)) S = some r.v) t
def Env0.seesAllT (e : Env0) (ops : Array Oper) (S0 : St) (base : Nat) (r : Rec) (Ss : List St) : List Nat → Tree → Tree
  | [], t => t
  | k :: ks, t => match Ss[k]? with
    | some S => e.seesT ops S0 base r S (e.seesAllT ops S0 base r Ss ks t)
    | none => e.seesAllT ops S0 base r Ss ks t
def Env0.sameT (e : Env0) (ops : Array Oper) (b : List Nat) (S0 : St) (base : Nat) (Ss : List St) : Nat → List Rec → List (Option Nat) → Tree → Tree
  | _, [], _, t => t
  | i, r :: rs, some k0 :: fs, t => e.seesAllT ops S0 base r Ss ((List.range (highs e.c.P ops b i + 1)).filter fun k => !decide (k < lows e.c.P ops b i) && !Nat.beq k k0) (e.sameT ops b S0 base Ss (i + 1) rs fs t)
  | i, _ :: rs, none :: fs, t => e.sameT ops b S0 base Ss (i + 1) rs fs t
  | _, _ :: _, [], _ => .fail
/-- 'Ss': the states, the last one first -/
def FlagOkT (e : Env0) (ops : Array Oper) (S0 : St) (base : Nat) (Ss : List St) (r : Rec) (f : Option Nat) : Prop := match f with
  | none => moves e.c.P r.o = true ∨ ∀ S, e.quietAt ops S0 base r.al r.o r.env S = some r.v
  | some k0 => FlagOk e ops S0 base r true ∧ ∃ S, Ss.reverse[k0]? = some S ∧ e.quietAt ops S0 base r.al r.o r.env S = some r.v
theorem FlagOkT.more {e : Env0} {ops : Array Oper} {S0 : St} {base : Nat} {Ss : List St} {S' : St} {r : Rec} {f : Option Nat} (h : FlagOkT e ops S0 base Ss r f) : FlagOkT e ops S0 base (S' :: Ss) r f := by
  cases f with
  | none => exact h
  | some k0 =>
    obtain ⟨h1, S, h2, h3⟩ := h
    refine ⟨h1, S, ?_, h3⟩
    rw [List.reverse_cons, List.getElem?_append_left (List.getElem?_eq_some_iff.1 h2).1]
    exact h2
inductive FlagsOkT (e : Env0) (ops : Array Oper) (S0 : St) (base : Nat) (Ss : List St) : List Rec → List (Option Nat) → Prop
  | nil : FlagsOkT e ops S0 base Ss [] []
  | cons {r f rs fs} (h : FlagOkT e ops S0 base Ss r f) (hs : FlagsOkT e ops S0 base Ss rs fs) : FlagsOkT e ops S0 base Ss (r :: rs) (f :: fs)
theorem FlagsOkT.append {e : Env0} {ops : Array Oper} {S0 : St} {base : Nat} {Ss : List St} {rs rs' : List Rec} {fs fs' : List (Option Nat)} (h : FlagsOkT e ops S0 base Ss rs fs) (k : FlagsOkT e ops S0 base Ss rs' fs') : FlagsOkT e ops S0 base Ss (rs ++ rs') (fs ++ fs') := by
  induction h with
  | nil => exact k
  | cons h _ ih => exact .cons h ih
theorem FlagsOkT.reverse {e : Env0} {ops : Array Oper} {S0 : St} {base : Nat} {Ss : List St} {rs : List Rec} {fs : List (Option Nat)} (h : FlagsOkT e ops S0 base Ss rs fs) : FlagsOkT e ops S0 base Ss rs.reverse fs.reverse := by
  induction h with
  | nil => exact .nil
  | cons h _ ih => simpa using ih.append (.cons h .nil)
theorem FlagsOkT.more {e : Env0} {ops : Array Oper} {S0 : St} {base : Nat} {Ss : List St} {S' : St} {rs : List Rec} {fs : List (Option Nat)} (h : FlagsOkT e ops S0 base Ss rs fs) : FlagsOkT e ops S0 base (S' :: Ss) rs fs := by
  induction h with
  | nil => exact .nil
  | cons h _ ih => exact .cons h.more ih
section
variable {W : Orc} {f : FuncId} {Q : Out → Prop}
theorem seesT_sound {e : Env0} {ops : Array Oper} {S0 : St} {base : Nat} {r : Rec} {S : St} {t : Tree} (hf : FlagOk e ops S0 base r true) (h : (e.seesT ops S0 base r S t).wp W f Q) : e.quietAt ops S0 base r.al r.o r.env S = some r.v ∧ t.wp W f Q := by
  obtain ⟨h1, h2, h3⟩ := hf
  unfold Env0.seesT at h
  split at h
  · rename_i ty hop
    obtain ⟨k1, k2⟩ := onlyIfT_w h
    obtain ⟨q1, q2⟩ := h3 ty hop
    exact ⟨by simp only [Env0.quietAt, h2, hop, q1, k1, Bool.and_self, if_true, q2], k2⟩
  · rename_i ty x hop
    split at h
    · rename_i b o tg hx
      split at h
      · rename_i cells hc
        obtain ⟨v, hv, rfl⟩ := loadW_sound h.1
        exact ⟨by simp only [Env0.quietAt, h2, hop, Ctx.pure, Ctx.read, hx, hc]; exact hv, h.2⟩
      · exact h.elim
    · exact h.elim
  · rename_i h4 h5
    exact ⟨by rw [quietAt_run h2 h4]; exact h.1, h.2⟩
theorem seesAllT_sound {e : Env0} {ops : Array Oper} {S0 : St} {base : Nat} {r : Rec} {Ss : List St} (hf : FlagOk e ops S0 base r true) : ∀ {ks : List Nat} {t : Tree}, (e.seesAllT ops S0 base r Ss ks t).wp W f Q →
    (∀ k ∈ ks, ∀ S, Ss[k]? = some S → e.quietAt ops S0 base r.al r.o r.env S = some r.v) ∧ t.wp W f Q
  | [], t, h => ⟨by simp, h⟩
  | k :: ks, t, h => by
    unfold Env0.seesAllT at h
    split at h
    · rename_i S hS
      obtain ⟨h1, h2⟩ := seesT_sound hf h
      obtain ⟨h3, h4⟩ := seesAllT_sound hf h2
      refine ⟨fun k' hk' S' hS' => ?_, h4⟩
      rcases List.mem_cons.1 hk' with rfl | hk'
      · rw [hS] at hS'; cases hS'; exact h1
      · exact h3 k' hk' S' hS'
    · rename_i hS
      obtain ⟨h3, h4⟩ := seesAllT_sound hf h
      refine ⟨fun k' hk' S' hS' => ?_, h4⟩
      rcases List.mem_cons.1 hk' with rfl | hk'
      · rw [hS] at hS'; cases hS'
      · exact h3 k' hk' S' hS'
theorem sameT_sound {e : Env0} {ops : Array Oper} {b : List Nat} {S0 : St} {base : Nat} {Ss : List St} : ∀ {rs : List Rec} {fs : List (Option Nat)} {i : Nat} {t : Tree}, FlagsOkT e ops S0 base Ss rs fs → (e.sameT ops b S0 base Ss.reverse i rs fs t).wp W f Q →
    e.sameAll ops b S0 base Ss.reverse i rs = true ∧ t.wp W f Q
  | [], _, i, t, hf, h => by
    cases hf
    exact ⟨rfl, h⟩
  | r :: rs, _, i, t, hf, h => by
    cases hf with
    | cons h1 h2 =>
      rename_i fl fs
      have all : (∀ k, lows e.c.P ops b i ≤ k → k < highs e.c.P ops b i + 1 → ∀ S, Ss.reverse[k]? = some S → e.quietAt ops S0 base r.al r.o r.env S = some r.v) → e.sameAll ops b S0 base Ss.reverse (i + 1) rs = true → e.sameAll ops b S0 base Ss.reverse i (r :: rs) = true := by
        intro hq hr
        simp only [Env0.sameAll, hr, Bool.and_true, Bool.or_eq_true]
        right
        rw [List.all_eq_true]
        intro k hk
        simp only [List.mem_range] at hk
        by_cases hl : k < lows e.c.P ops b i
        · simp [hl]
        · simp only [hl, decide_false, Bool.false_or]
          split
          · rename_i S hS
            rw [hq k (by omega) hk S hS]
            exact SV.beq_refl _
          · rfl
      cases fl with
      | none =>
        unfold Env0.sameT at h
        obtain ⟨h3, h4⟩ := sameT_sound h2 h
        refine ⟨?_, h4⟩
        rcases h1 with hm | hq
        · simp only [Env0.sameAll, hm, Bool.true_or, h3, Bool.and_self]
        · exact all (fun k _ _ S _ => hq S) h3
      | some k0 =>
        unfold Env0.sameT at h
        obtain ⟨g1, S1, g2, g3⟩ := h1
        obtain ⟨h5, h6⟩ := seesAllT_sound g1 h
        obtain ⟨h3, h4⟩ := sameT_sound h2 h6
        refine ⟨all (fun k k1 k2 S hS => ?_) h3, h4⟩
        by_cases hk : k = k0
        · subst hk
          rw [hS] at g2; cases g2; exact g3
        · refine h5 k (List.mem_filter.2 ⟨by simpa using k2, ?_⟩) S hS
          have : Nat.beq k k0 = false := by
            cases hb : Nat.beq k k0 with
            | false => rfl
            | true => exact absurd (Nat.eq_of_beq_eq_true hb) hk
          simp [this]; omega
end
def Env0.lexT (e : Env0) (ct : CT) (ops : Array Oper) (b : List Nat) (S0 : St) (base : Nat) (fr0 : Fr) (S : St) (Q : QT) : List Oper → Nat → Env → List St → List Rec → List (Option Nat) → Tree
  | [], _, env, Ss, recs, fl => e.sameT ops b S0 base Ss.reverse 0 recs.reverse fl.reverse (Q .normal ⟨env, fr0.ds⟩ (Ss.headD S))
  | o :: rest, al, env, Ss, recs, fl => match Ss with
    | [] => .fail
    | S1 :: Sr =>
      match o.guard with
      | none => match moves e.c.P o with
        | true => e.actT ct o.op (e.c.evalR env (readsTmp ops o)) S1
            (fun v S' => e.lexT ct ops b S0 base fr0 S Q rest (match allocs e.c.P o with | true => al + 1 | false => al) (Fr.put ⟨env, []⟩ o.dst v).env (S' :: Ss) (⟨o, env, v, al⟩ :: recs) (none :: fl))
            (fun v S' => e.sameT ops b S0 base Ss.reverse 0 (⟨o, env, (.undef, .no), al⟩ :: recs).reverse (none :: fl).reverse (onlyIfT (restOk b recs.length (recs.length + 1) rest) (Q (.panic v.1) (forget ops.toList fr0) S')))
        | false => match o.op with
          | .alloc _ => onlyIfT (allocs e.c.P o && Env0.fresh (base + al) S0 S1)
              (e.lexT ct ops b S0 base fr0 S Q rest (al + 1) (Fr.put ⟨env, []⟩ o.dst (.ptr (base + al) 0, .no)).env Ss (⟨o, env, (.ptr (base + al) 0, .no), al⟩ :: recs) (some Sr.length :: fl))
          | op => readT e.c op (e.c.evalR env (readsTmp ops o)) S1 fun v =>
              e.lexT ct ops b S0 base fr0 S Q rest al (Fr.put ⟨env, []⟩ o.dst v).env Ss (⟨o, env, v, al⟩ :: recs) ((match isSens op (e.c.evalR env (readsTmp ops o)) with | true => some Sr.length | false => none) :: fl)
      | some (j, want) => match (ops[j]?).bind (·.dst) with
        | some d => match (env.getD d (.undef, .no)).1 with
          | .bool t => wantT t want (match moves e.c.P o with
              | true => e.actT ct o.op (e.c.evalR (setB env d want) (readsTmp ops o)) S1
                  (fun v S' => e.lexT ct ops b S0 base fr0 S Q rest (match allocs e.c.P o with | true => al + 1 | false => al) (Fr.put ⟨setB env d want, []⟩ o.dst v).env (S' :: Ss) (⟨o, setB env d want, v, al⟩ :: recs) (none :: fl))
                  (fun v S' => e.sameT ops b S0 base Ss.reverse 0 (⟨o, setB env d want, (.undef, .no), al⟩ :: recs).reverse (none :: fl).reverse (onlyIfT (restOk b recs.length (recs.length + 1) rest) (Q (.panic v.1) (forget ops.toList fr0) S')))
              | false => match o.op with
                | .alloc _ => .fail
                | op => readT e.c op (e.c.evalR (setB env d want) (readsTmp ops o)) S1 fun v =>
                    e.lexT ct ops b S0 base fr0 S Q rest al (Fr.put ⟨setB env d want, []⟩ o.dst v).env Ss (⟨o, setB env d want, v, al⟩ :: recs) ((match isSens op (e.c.evalR (setB env d want) (readsTmp ops o)) with | true => some Sr.length | false => none) :: fl))
              (e.lexT ct ops b S0 base fr0 S Q rest al (Fr.put ⟨setB env d (!want), []⟩ o.dst (.tup [], .no)).env (match moves e.c.P o with | true => S1 :: Ss | false => Ss) (⟨o, setB env d (!want), (.tup [], .no), al⟩ :: recs) (none :: fl))
          | .tup [] => e.lexT ct ops b S0 base fr0 S Q rest al (Fr.put ⟨env, []⟩ o.dst (.tup [], .no)).env (match moves e.c.P o with | true => S1 :: Ss | false => Ss) (⟨o, env, (.tup [], .no), al⟩ :: recs) (none :: fl)
          | _ => .fail
        | none => .fail
section
variable {W : Orc} {f : FuncId} {Q : Out → Prop} {ct : CT} {tab : Tab}
/-- what a region's order, in the text's, came to -/
def DRes.toT (W : Orc) (f : FuncId) (Q : Out → Prop) (e : Env0) (ops : Array Oper) (b : List Nat) (S0 : St) (base : Nat) (fr0 : Fr) (S : St) (Q' : QT) : DRes → Prop
  | .ok env Ss recs => e.sameAll ops b S0 base Ss.reverse 0 recs.reverse = true ∧ (Q' .normal ⟨env, fr0.ds⟩ (Ss.headD S)).wp W f Q
  | .panic v S' Ss recs rest => e.sameAll ops b S0 base Ss.reverse 0 recs.reverse = true ∧ restOk b (recs.length - 1) recs.length rest = true ∧ (Q' (.panic v) (forget ops.toList fr0) S').wp W f Q
theorem lexT_sound {e : Env0} (he : e.call = callOf tab) (hct : CTOk W f Q ct tab) {ops : Array Oper} {b : List Nat} {S0 : St} {base : Nat} {fr0 : Fr} {S : St} {Q' : QT} : ∀ (l : List Oper) (al : Nat) (env : Env) (Ss : List St) (recs : List Rec) (fl : List (Option Nat)),
    FlagsOkT e ops S0 base Ss recs fl → (e.lexT ct ops b S0 base fr0 S Q' l al env Ss recs fl).wp W f Q → ∃ r, e.lexD ops S0 base l al env Ss recs = some r ∧ r.toT W f Q e ops b S0 base fr0 S Q' := by
  intro l
  induction l with
  | nil =>
    intro al env Ss recs fl hf h
    simp only [Env0.lexT] at h
    exact ⟨.ok env Ss recs, rfl, sameT_sound hf.reverse h⟩
  | cons o rest ih =>
    intro al env Ss recs fl hf h
    cases Ss with
    | nil => exact h.elim
    | cons S1 Ss =>
      have alEq : (if allocs e.c.P o then al + 1 else al) = (match allocs e.c.P o with | true => al + 1 | false => al) := by cases allocs e.c.P o <;> rfl
      have own : (S1 :: Ss).reverse[Ss.length]? = some S1 := by
        rw [List.reverse_cons, List.getElem?_append_right (by simp)]
        simp
      -- a move that is carried out
      have act : moves e.c.P o = true → wantedA ops env o = some true → (e.actT ct o.op (e.c.evalR env (readsTmp ops o)) S1
            (fun v S' => e.lexT ct ops b S0 base fr0 S Q' rest (match allocs e.c.P o with | true => al + 1 | false => al) (Fr.put ⟨env, []⟩ o.dst v).env (S' :: S1 :: Ss) (⟨o, env, v, al⟩ :: recs) (none :: fl))
            (fun v S' => e.sameT ops b S0 base (S1 :: Ss).reverse 0 (⟨o, env, (.undef, .no), al⟩ :: recs).reverse (none :: fl).reverse (onlyIfT (restOk b recs.length (recs.length + 1) rest) (Q' (.panic v.1) (forget ops.toList fr0) S')))).wp W f Q →
          ∃ r, e.lexD ops S0 base (o :: rest) al env (S1 :: Ss) recs = some r ∧ r.toT W f Q e ops b S0 base fr0 S Q' := by
        intro hm hw h
        obtain ⟨r, h1, h2⟩ := actT_sound he hct h
        cases r with
        | ok v S' =>
          obtain ⟨r2, h3, h4⟩ := ih _ _ _ _ _ (.cons (show FlagOkT e ops S0 base (S' :: S1 :: Ss) ⟨o, env, v, al⟩ none from .inl hm) hf.more) h2
          exact ⟨r2, by simp only [Env0.lexD, hm, if_true, hw, h1, alEq]; exact h3, h4⟩
        | panic v S' =>
          obtain ⟨h3, h4⟩ := sameT_sound (FlagsOkT.reverse (.cons (show FlagOkT e ops S0 base (S1 :: Ss) ⟨o, env, (.undef, .no), al⟩ none from .inl hm) hf)) h2
          obtain ⟨h5, h6⟩ := onlyIfT_w h4
          exact ⟨.panic v S' (S1 :: Ss) (⟨o, env, (.undef, .no), al⟩ :: recs) rest, by simp only [Env0.lexD, hm, if_true, hw, h1], h3, by simpa using h5, h6⟩
      -- one that leaves the state
      have quiet : moves e.c.P o = false → wantedA ops env o = some true → (∀ t, o.op ≠ .alloc t) → allocs e.c.P o = false → (readT e.c o.op (e.c.evalR env (readsTmp ops o)) S1 (fun v =>
              e.lexT ct ops b S0 base fr0 S Q' rest al (Fr.put ⟨env, []⟩ o.dst v).env (S1 :: Ss) (⟨o, env, v, al⟩ :: recs) ((match isSens o.op (e.c.evalR env (readsTmp ops o)) with | true => some Ss.length | false => none) :: fl))).wp W f Q →
          ∃ r, e.lexD ops S0 base (o :: rest) al env (S1 :: Ss) recs = some r ∧ r.toT W f Q e ops b S0 base fr0 S Q' := by
        intro hm hw hna hnal h
        obtain ⟨v, h1, h2⟩ := readT_sound h
        have hq : ∀ S, e.quietAt ops S0 base al o env S = pureOrRead e.c o.op (e.c.evalR env (readsTmp ops o)) S := by
          intro S
          exact quietAt_run hw hna S
        have hfl : FlagOkT e ops S0 base (S1 :: Ss) ⟨o, env, v, al⟩ (match isSens o.op (e.c.evalR env (readsTmp ops o)) with | true => some Ss.length | false => none) := by
          cases hs : isSens o.op (e.c.evalR env (readsTmp ops o)) with
          | true => exact ⟨⟨hm, hw, fun t ht => absurd ht (hna t)⟩, S1, own, by rw [hq]; exact h1⟩
          | false =>
            refine .inr fun S => ?_
            rw [hq]
            unfold pureOrRead at h1 ⊢
            split at h1
            · rename_i v' hv; exact h1
            · rw [read_none hs] at h1; cases h1
        obtain ⟨r2, h3, h4⟩ := ih _ _ _ _ _ (.cons hfl hf) h2
        refine ⟨r2, ?_, h4⟩
        simp only [Env0.lexD, hm, hnal, Bool.false_eq_true, if_false, hq, h1]
        exact h3
      have off : wantedA ops env o = some false → allocs e.c.P o = false → (e.lexT ct ops b S0 base fr0 S Q' rest al (Fr.put ⟨env, []⟩ o.dst (.tup [], .no)).env (match moves e.c.P o with | true => S1 :: S1 :: Ss | false => S1 :: Ss) (⟨o, env, (.tup [], .no), al⟩ :: recs) (none :: fl)).wp W f Q →
          ∃ r, e.lexD ops S0 base (o :: rest) al env (S1 :: Ss) recs = some r ∧ r.toT W f Q e ops b S0 base fr0 S Q' := by
        intro hw hnal h
        have hfl : ∀ Ss', FlagOkT e ops S0 base Ss' ⟨o, env, (.tup [], .no), al⟩ none := by
          intro Ss'
          refine .inr fun S => ?_
          simp only [Env0.quietAt, hw]
        cases hm : moves e.c.P o with
        | true =>
          rw [hm] at h
          obtain ⟨r2, h3, h4⟩ := ih _ _ _ _ _ (.cons (hfl _) hf.more) h
          refine ⟨r2, ?_, h4⟩
          simp only [Env0.lexD, hm, hnal, Bool.false_eq_true, if_false, if_true, hw]
          exact h3
        | false =>
          rw [hm] at h
          obtain ⟨r2, h3, h4⟩ := ih _ _ _ _ _ (.cons (hfl _) hf) h
          refine ⟨r2, ?_, h4⟩
          simp only [Env0.lexD, hm, hnal, Bool.false_eq_true, if_false, Env0.quietAt, hw]
          exact h3
      simp only [Env0.lexT] at h
      split at h
      · rename_i hg
        have hw : wantedA ops env o = some true := by simp [wantedA, hg]
        split at h
        · rename_i hm; exact act hm hw h
        · rename_i hm
          split at h
          · rename_i t hop
            obtain ⟨h1, h2⟩ := onlyIfT_w h
            simp only [Bool.and_eq_true] at h1
            have hq : e.quietAt ops S0 base al o env S1 = some (.ptr (base + al) 0, .no) := by
              simp only [Env0.quietAt, hw, hop, h1.1, h1.2, Bool.and_self, if_true]
            have hfl : FlagOkT e ops S0 base (S1 :: Ss) ⟨o, env, (.ptr (base + al) 0, .no), al⟩ (some Ss.length) := ⟨⟨hm, hw, fun t ht => ⟨h1.1, rfl⟩⟩, S1, own, hq⟩
            obtain ⟨r2, h3, h4⟩ := ih _ _ _ _ _ (.cons hfl hf) h2
            refine ⟨r2, ?_, h4⟩
            simp only [Env0.lexD, hm, h1.1, Bool.false_eq_true, if_false, if_true, hq]
            exact h3
          · rename_i hna
            have hnal : allocs e.c.P o = false := by
              unfold allocs
              split
              · rename_i t hop _; exact absurd hop (hna t)
              · rfl
            exact quiet hm hw hna hnal h
      · rename_i j want hg
        have hnal := allocs_noguard (P := e.c.P) hg
        split at h
        · rename_i d hd
          split at h
          · rename_i t ht
            have hw : wantedA ops env o = some (t == want) := by simp only [wantedA, hg, hd, ht]
            have h := wantT_w h
            by_cases hbw : t = want
            · have hw' : wantedA ops env o = some true := by rw [hw, hbw]; cases want <;> rfl
              have h1 := h.1 hbw
              rw [setB_eq (v := want) (by rw [← hbw]; exact ht)] at h1
              split at h1
              · rename_i hm; exact act hm hw' h1
              · rename_i hm
                split at h1
                · exact h1.elim
                · rename_i hna; exact quiet hm hw' hna hnal h1
            · have hbw' : t = !want := by clear h hw act quiet off; cases t <;> cases want <;> first | rfl | exact absurd rfl hbw
              have h2 := h.2 hbw'
              rw [setB_eq (v := !want) (by rw [← hbw']; exact ht)] at h2
              exact off (by rw [hw, hbw']; cases want <;> rfl) hnal h2
          · rename_i ht; exact off (by simp only [wantedA, hg, hd, ht]) hnal h
          · exact h.elim
        · exact h.elim
end
def Env0.drawsT (e : Env0) (ct : CT) (ops : Array Oper) (fr : Fr) (S : St) (Q : QT) : Tree :=
  onlyIfT (drawOk e.c.P ops (CheckFast.beforeL ops.toList 0 [])) (e.lexT ct ops (CheckFast.beforeL ops.toList 0 []) (e.prealloc ops.toList S) S.H.length fr S Q ops.toList 0 fr.env [e.prealloc ops.toList S] [] [])
section
variable {W : Orc} {f : FuncId} {Q : Out → Prop} {ct : CT} {tab : Tab}
theorem drawsT_sound {e : Env0} (he : e.call = callOf tab) (hct : CTOk W f Q ct tab) {ops : Array Oper} {fr : Fr} {S : St} {Q' : QT} (h : (e.drawsT ct ops fr S Q').wp W f Q) : ∃ r, e.draws ops fr S = some r ∧ (Q' r.1 r.2.1 r.2.2).wp W f Q := by
  obtain ⟨h1, h2⟩ := onlyIfT_w h
  obtain ⟨r, h3, h4⟩ := lexT_sound he hct _ _ _ _ _ _ .nil h2
  cases r with
  | ok env Ss recs =>
    obtain ⟨k1, k2⟩ := h4
    exact ⟨(.normal, ⟨env, fr.ds⟩, Ss.headD S), by unfold Env0.draws Env0.drawsAt; rw [if_pos h1, h3]; simp only [k1, if_true], k2⟩
  | panic v S' Ss recs rest =>
    obtain ⟨k1, k2, k3⟩ := h4
    exact ⟨(.panic v, forget ops.toList fr, S'), by unfold Env0.draws Env0.drawsAt; rw [if_pos h1, h3]; simp only [k1, k2, Bool.and_self, if_true], k3⟩
end

/-! ### frames and states worked out -/
def forceVT (x : SV) (K : SV → Tree) : Tree := match x with
  | (.undef, .no) => K (.undef, .no)
  | (.int k n, .no) => K (.int k n, .no)
  | (.bool b, .no) => K (.bool b, .no)
  | (.str s, .no) => K (.str s, .no)
  | (.ptr b o, .no) => K (.ptr b o, .no)
  | (.sl xs, .no) => K (.sl xs, .no)
  | (.sl xs, .tok i) => K (.sl xs, .tok i)
  | (.tup vs, .no) => K (.tup vs, .no)
  | (a, t) => K (a, t)
theorem forceVT_eq (x : SV) (K : SV → Tree) : forceVT x K = K x := by
  unfold forceVT
  split <;> rfl
def forceLT : List SV → (List SV → Tree) → Tree
  | [], K => K []
  | x :: xs, K => forceVT x fun x => forceLT xs fun xs => K (x :: xs)
theorem forceLT_eq : ∀ (l : List SV) (K : List SV → Tree), forceLT l K = K l
  | [], K => rfl
  | x :: xs, K => by simp only [forceLT, forceVT_eq, forceLT_eq xs]

def Env0.regionT (e : Env0) (ct : CT) (id : Nat) (ops : Array Oper) (draw : Bool) (fr : Fr) (S : St) (Q : QT) : Tree :=
  match draw with
  | true => e.drawsT ct ops fr S fun ex fr' S' => Q ex (dropped (e.drop id) fr') S'
  | false => e.opsT ct ops (fun ex fr' S' => Q ex (dropped (e.drop id) fr') S') ops.toList fr S

/-- how code is taken: its calls, and the places at which it is cut -/
structure GenT where
  ct : CT
  jump : List Nat → Option (Fr → St → Tree)
def GenT.hk (g : GenT) (p : List Nat) (F : Fr → St → QT → Tree) (fr : Fr) (S : St) (Q : QT) : Tree := match g.jump p with
  | some J => J fr S
  | none => F fr S Q
/-- the tree of code that lies at a path; the code's own cut is not looked at -/
def Env0.codeU (e : Env0) (g : GenT) : List Nat → Code → Fr → St → QT → Tree
  | p, .seq a b, fr, S, Q => g.hk (0 :: p) (e.codeU g (0 :: p) a) fr S fun ex fr S => match ex with
      | .normal => g.hk (1 :: p) (e.codeU g (1 :: p) b) fr S Q
      | ex => Q ex fr S
  | _, .skip, fr, S, Q => Q .normal fr S
  | _, .label _, fr, S, Q => Q .normal fr S
  | _, .region id ops draw, fr, S, Q => forceLT fr.env fun env => e.regionT g.ct id ops draw ⟨env, fr.ds⟩ S Q
  | p, .cond x a b, fr, S, Q => match (e.c.eval fr.env x).1 with
      | .bool t => Tree.ite t (g.hk (0 :: p) (e.codeU g (0 :: p) a) fr S Q) (g.hk (1 :: p) (e.codeU g (1 :: p) b) fr S Q)
      | _ => .fail
  | p, .block id body, fr, S, Q => g.hk (0 :: p) (e.codeU g (0 :: p) body) fr S fun ex fr S => match ex with
      | .exit id' => if id' = id then Q .normal fr S else Q (.exit id') fr S
      | ex => Q ex fr S
  | p, .loop body, fr, S, Q => g.hk (0 :: p) (e.codeU g (0 :: p) body) fr S fun ex fr S => match ex with
      | .normal => match g.jump p with
        | some J => J fr S
        | none => .fail
      | ex => Q ex fr S
  | _, .exit id, fr, S, Q => Q (.exit id) fr S
  | _, .ret, fr, S, Q => Q .ret fr S
  | _, _, _, _, _ => .fail
/-- what comes behind the code at a path -/
def Env0.contT (e : Env0) (g : GenT) (root : Code) (fin : QT) : List Nat → QT
  | [] => fin
  | d :: p => match subR p root with
    | .seq _ b => match d with
      | 0 => fun ex fr S => match ex with
        | .normal => g.hk (1 :: p) (e.codeU g (1 :: p) b) fr S (e.contT g root fin p)
        | ex => e.contT g root fin p ex fr S
      | _ => e.contT g root fin p
    | .block id _ => fun ex fr S => match ex with
      | .exit id' => if id' = id then e.contT g root fin p .normal fr S else e.contT g root fin p (.exit id') fr S
      | ex => e.contT g root fin p ex fr S
    | .loop _ => fun ex fr S => match ex with
      | .normal => match g.jump p with
        | some J => J fr S
        | none => .fail
      | ex => e.contT g root fin p ex fr S
    | _ => e.contT g root fin p

/-! ### code without loops, as the run goes through it; a deferred function's body -/
def Env0.codeRT (e : Env0) (ct : CT) : Code → Fr → St → QT → Tree
  | .skip, fr, S, Q => Q .normal fr S
  | .label _, fr, S, Q => Q .normal fr S
  | .region id ops draw, fr, S, Q => e.regionT ct id ops draw fr S Q
  | .seq a b, fr, S, Q => e.codeRT ct a fr S fun ex fr S => match ex with
    | .normal => e.codeRT ct b fr S Q
    | ex => Q ex fr S
  | .cond x a b, fr, S, Q => match (e.c.eval fr.env x).1 with
    | .bool t => Tree.ite t (e.codeRT ct a fr S Q) (e.codeRT ct b fr S Q)
    | _ => .fail
  | .block id body, fr, S, Q => e.codeRT ct body fr S fun ex fr S => match ex with
    | .exit id' => if id' = id then Q .normal fr S else Q (.exit id') fr S
    | ex => Q ex fr S
  | .exit id, fr, S, Q => Q (.exit id) fr S
  | .ret, fr, S, Q => Q .ret fr S
  | _, _, _, _ => .fail
def Env0.opsDT (e : Env0) (ct : CT) (ops : Array Oper) (Q : Below1 → QT) : List Oper → Below1 → Fr → St → Tree
  | [], u, fr, S => Q u .normal fr S
  | o :: rest, u, fr, S => match isRecover o with
    | true => match u with
      | .panics v => e.opsDT ct ops Q rest .recovered (fr.put o.dst (v, .no)) S
      | u => e.opsDT ct ops Q rest u (fr.put o.dst (.nili, .no)) S
    | false => e.stepT ct ops o fr S (fun fr S => e.opsDT ct ops Q rest u fr S) (fun v fr S => Q u (.panic v.1) fr S)
def Env0.codeDT (e : Env0) (ct : CT) : Code → Below1 → Fr → St → (Below1 → QT) → Tree
  | .seq a b, u, fr, S, Q => match asksRecover (.seq a b) with
    | true => e.codeDT ct a u fr S fun u' ex fr' S' => match ex with
      | .normal => e.codeDT ct b u' fr' S' Q
      | ex => Q u' ex fr' S'
    | false => e.codeRT ct (.seq a b) fr S (Q u)
  | .region id ops false, u, fr, S, Q => match ops.toList.any isRecover with
    | true => e.opsDT ct ops Q ops.toList u fr S
    | false => e.codeRT ct (.region id ops false) fr S (Q u)
  | k, u, fr, S, Q => e.codeRT ct k fr S (Q u)
def Ctx.deferT (c : Ctx) (pre : TypeId → Bool) (call : CallFn) (ct : CT) (g : FuncId) (args : List SV) (u : Below1) (S : St) (K : Below1 → St → Tree) : Tree :=
  match c.P.funcs[g]? with
  | none => .fail
  | some fn => match fn.body with
    | none => .fail
    | some code => match Nat.beq fn.results.size 0 with
      | true => Env0.codeDT ⟨c, pre, S.H.length, S.T.length, call, c.drop g⟩ ct code u (frame0 fn args) S fun u' ex fr S' => match fr.ds with
        | [] => match ex with
          | .normal | .ret => K u' ⟨S'.H.take S.H.length, S'.T.take S.T.length⟩
          | _ => .fail
        | _ => .fail
      | false => .fail
section
variable {W : Orc} {f : FuncId} {Q : Out → Prop} {ct : CT} {tab : Tab}
theorem regionT_run {e : Env0} (he : e.call = callOf tab) (hct : CTOk W f Q ct tab) {n id : Nat} {ops : Array Oper} {draw : Bool} {fr : Fr} {S : St} {Q' : QT} (h : (e.regionT ct id ops draw fr S Q').wp W f Q) : ∃ r, e.code n (.region id ops draw) fr S = some r ∧ (Q' r.1 r.2.1 r.2.2).wp W f Q := by
  unfold Env0.regionT at h
  cases draw with
  | true =>
    obtain ⟨r, h1, h2⟩ := drawsT_sound he hct h
    exact ⟨(r.1, dropped (e.drop id) r.2.1, r.2.2), by simp [Env0.code, Env0.region, h1], h2⟩
  | false =>
    obtain ⟨r, h1, h2⟩ := opsT_sound he hct _ _ _ h
    cases r with
    | ok fr' S' => exact ⟨(.normal, dropped (e.drop id) fr', S'), by simp [Env0.code, Env0.region, h1], h2⟩
    | panic v fr' S' => exact ⟨(.panic v, dropped (e.drop id) fr', S'), by simp [Env0.code, Env0.region, h1], h2⟩
theorem codeRT_sound {e : Env0} (he : e.call = callOf tab) (hct : CTOk W f Q ct tab) {n : Nat} : ∀ (k : Code) (fr : Fr) (S : St) (Q' : QT), (e.codeRT ct k fr S Q').wp W f Q → ∃ r, e.code n k fr S = some r ∧ (Q' r.1 r.2.1 r.2.2).wp W f Q := by
  intro k
  induction k with
  | skip => intro fr S Q' h; exact ⟨(.normal, fr, S), rfl, h⟩
  | label => intro fr S Q' h; exact ⟨(.normal, fr, S), rfl, h⟩
  | exit id => intro fr S Q' h; exact ⟨(.exit id, fr, S), rfl, h⟩
  | ret => intro fr S Q' h; exact ⟨(.ret, fr, S), rfl, h⟩
  | region id ops draw => intro fr S Q' h; exact regionT_run he hct h
  | seq a b iha ihb =>
    intro fr S Q' h
    simp only [Env0.codeRT] at h
    obtain ⟨⟨ex, fr1, S1⟩, h1, h2⟩ := iha _ _ _ h
    cases ex with
    | normal =>
      obtain ⟨r, h3, h4⟩ := ihb _ _ _ h2
      exact ⟨r, by simp only [Env0.code, h1]; exact h3, h4⟩
    | exit i => exact ⟨(.exit i, fr1, S1), by simp only [Env0.code, h1], h2⟩
    | ret => exact ⟨(.ret, fr1, S1), by simp only [Env0.code, h1], h2⟩
    | panic v => exact ⟨(.panic v, fr1, S1), by simp only [Env0.code, h1], h2⟩
  | cond x a b iha ihb =>
    intro fr S Q' h
    simp only [Env0.codeRT] at h
    split at h
    · rename_i t hx
      have h := ite_w h
      cases t with
      | true =>
        obtain ⟨r, h3, h4⟩ := iha _ _ _ (h.1 rfl)
        exact ⟨r, by simp only [Env0.code, hx]; exact h3, h4⟩
      | false =>
        obtain ⟨r, h3, h4⟩ := ihb _ _ _ (h.2 rfl)
        exact ⟨r, by simp only [Env0.code, hx]; exact h3, h4⟩
    · exact h.elim
  | block id body ih =>
    intro fr S Q' h
    simp only [Env0.codeRT] at h
    obtain ⟨⟨ex, fr1, S1⟩, h1, h2⟩ := ih _ _ _ h
    cases ex with
    | exit i =>
      simp only at h2
      by_cases e : i = id
      · rw [if_pos e] at h2; exact ⟨(.normal, fr1, S1), by simp only [Env0.code, h1]; rw [if_pos e], h2⟩
      · rw [if_neg e] at h2; exact ⟨(.exit i, fr1, S1), by simp only [Env0.code, h1]; rw [if_neg e], h2⟩
    | normal => exact ⟨(.normal, fr1, S1), by simp only [Env0.code, h1], h2⟩
    | ret => exact ⟨(.ret, fr1, S1), by simp only [Env0.code, h1], h2⟩
    | panic v => exact ⟨(.panic v, fr1, S1), by simp only [Env0.code, h1], h2⟩
  | loop => intro fr S Q' h; exact h.elim
  | rangeFunc => intro fr S Q' h; exact h.elim
  | scope => intro fr S Q' h; exact h.elim
  | goto => intro fr S Q' h; exact h.elim
  | refuse => intro fr S Q' h; exact h.elim
theorem opsDT_sound {e : Env0} (he : e.call = callOf tab) (hct : CTOk W f Q ct tab) {ops : Array Oper} {Q' : Below1 → QT} : ∀ (l : List Oper) (u : Below1) (fr : Fr) (S : St), (e.opsDT ct ops Q' l u fr S).wp W f Q → ∃ r, e.opsD ops l u fr S = some r ∧ (r.2.toT (Q' r.1 .normal) (fun v => Q' r.1 (.panic v.1))).wp W f Q := by
  intro l
  induction l with
  | nil => intro u fr S h; exact ⟨(u, .ok fr S), rfl, h⟩
  | cons o l ih =>
    intro u fr S h
    simp only [Env0.opsDT] at h
    split at h
    · rename_i hr
      split at h
      · rename_i v
        obtain ⟨r, h1, h2⟩ := ih _ _ _ h
        exact ⟨r, by simp only [Env0.opsD, hr, if_true]; exact h1, h2⟩
      · rename_i hu
        obtain ⟨r, h1, h2⟩ := ih _ _ _ h
        refine ⟨r, ?_, h2⟩
        cases u with
        | panics v => exact absurd rfl (hu v)
        | _ => simp only [Env0.opsD, hr, if_true]; exact h1
    · rename_i hr
      obtain ⟨r, h1, h2⟩ := stepT_sound he hct h
      cases r with
      | ok fr' S' =>
        obtain ⟨r2, h3, h4⟩ := ih _ _ _ h2
        exact ⟨r2, by simp only [Env0.opsD, hr, Bool.false_eq_true, if_false, h1]; exact h3, h4⟩
      | panic v fr' S' => exact ⟨(u, .panic v fr' S'), by simp only [Env0.opsD, hr, Bool.false_eq_true, if_false, h1], h2⟩
theorem codeDT_sound {e : Env0} (he : e.call = callOf tab) (hct : CTOk W f Q ct tab) {n : Nat} : ∀ (k : Code) (u : Below1) (fr : Fr) (S : St) (Q' : Below1 → QT), (e.codeDT ct k u fr S Q').wp W f Q → ∃ r, e.codeD n k u fr S = some r ∧ (Q' r.1 r.2.1 r.2.2.1 r.2.2.2).wp W f Q := by
  have plain : ∀ (k : Code) (u : Below1) (fr : Fr) (S : St) (Q' : Below1 → QT), (e.codeRT ct k fr S (Q' u)).wp W f Q → ∃ r, (e.code n k fr S).map (fun r => (u, r)) = some r ∧ (Q' r.1 r.2.1 r.2.2.1 r.2.2.2).wp W f Q := by
    intro k u fr S Q' h
    obtain ⟨r, h1, h2⟩ := codeRT_sound he hct (n := n) k _ _ _ h
    exact ⟨(u, r), by rw [h1]; rfl, h2⟩
  intro k
  induction k with
  | seq a b iha ihb =>
    intro u fr S Q' h
    simp only [Env0.codeDT] at h
    split at h
    · rename_i ha
      obtain ⟨⟨u1, ex, fr1, S1⟩, h1, h2⟩ := iha _ _ _ _ h
      cases ex with
      | normal =>
        obtain ⟨r, h3, h4⟩ := ihb _ _ _ _ h2
        exact ⟨r, by simp only [Env0.codeD, ha, if_true, h1]; exact h3, h4⟩
      | exit i => exact ⟨(u1, .exit i, fr1, S1), by simp only [Env0.codeD, ha, if_true, h1], h2⟩
      | ret => exact ⟨(u1, .ret, fr1, S1), by simp only [Env0.codeD, ha, if_true, h1], h2⟩
      | panic v => exact ⟨(u1, .panic v, fr1, S1), by simp only [Env0.codeD, ha, if_true, h1], h2⟩
    · rename_i ha
      obtain ⟨r, h1, h2⟩ := plain _ _ _ _ _ h
      exact ⟨r, by simp only [Env0.codeD, ha, Bool.false_eq_true, if_false]; exact h1, h2⟩
  | region id ops draw =>
    intro u fr S Q' h
    cases draw with
    | true => exact plain _ _ _ _ _ h
    | false =>
      simp only [Env0.codeDT] at h
      split at h
      · rename_i ha
        obtain ⟨⟨u1, r⟩, h1, h2⟩ := opsDT_sound he hct _ _ _ _ h
        cases r with
        | ok fr' S' => exact ⟨(u1, .normal, fr', S'), by simp only [Env0.codeD, ha, if_true, h1], h2⟩
        | panic v fr' S' => exact ⟨(u1, .panic v, fr', S'), by simp only [Env0.codeD, ha, if_true, h1], h2⟩
      · rename_i ha
        obtain ⟨r, h1, h2⟩ := plain _ _ _ _ _ h
        exact ⟨r, by simp only [Env0.codeD, ha, Bool.false_eq_true, if_false]; exact h1, h2⟩
  | _ => intro u fr S Q' h; exact plain _ _ _ _ _ h
theorem deferT_sound {c : Ctx} {pre : TypeId → Bool} {call : CallFn} (he : call = callOf tab) (hct : CTOk W f Q ct tab) {n : Nat} {g : FuncId} {args : List SV} {u : Below1} {S : St} {K : Below1 → St → Tree} (h : (c.deferT pre call ct g args u S K).wp W f Q) :
    ∃ u' S3, c.deferred pre call n g args u S = some (u', S3) ∧ (K u' S3).wp W f Q := by
  unfold Ctx.deferT at h
  split at h
  · exact h.elim
  · rename_i fn hf
    split at h
    · exact h.elim
    · rename_i code hb
      split at h
      · rename_i hz
        have hz := Nat.eq_of_beq_eq_true hz
        obtain ⟨⟨u', ex, ⟨env, ds⟩, S'⟩, h1, h2⟩ := codeDT_sound (n := n) (e := ⟨c, pre, S.H.length, S.T.length, call, c.drop g⟩) he hct _ _ _ _ _ h
        simp only at h2
        cases ds with
        | nil =>
          cases ex with
          | normal => exact ⟨_, _, by simp only [Ctx.deferred, hf, hb, hz, if_true, h1], h2⟩
          | ret => exact ⟨_, _, by simp only [Ctx.deferred, hf, hb, hz, if_true, h1], h2⟩
          | exit => exact h2.elim
          | panic => exact h2.elim
        | cons => exact h2.elim
      · exact h.elim
end
/-! ### the end of a function -/
def resT (c : Ctx) (env : Env) (S : St) : List ResultVar → List SV → (List SV → Tree) → Tree
  | [], acc, K => K acc.reverse
  | .tmp t :: r, acc, K => resT c env S r (env.getD t (.undef, .no) :: acc) K
  | .cell a t :: r, acc, K => match env.getD a (.undef, .no) with
    | (.ptr b o, _) => match S.H[b]? with
      | some cells => loadT c t .no cells o fun v => resT c env S r (v :: acc) K
      | none => .fail
    | _ => .fail
def allLow (n : Nat) (vs : List SV) : Prop := ∀ v ∈ vs, v.1.low n = true
def leaveT (lv : Leave) (n0 m0 : Nat) (vs : List SV) (S : St) (K : SV → St → Tree) : Tree := match lv with
  | .plain => lowTAll n0 vs (K (asOne (vs.map fun v => (v.1, .no))) ⟨S.H.take n0, S.T.take m0⟩)
  | .whole => K (asOne vs) S
  | .great => .need (allLow n0 vs) (K (asOne (vs.map fun v => (v.1, .no))) ⟨S.H.take n0, S.T.take m0⟩)
def backT (c : Ctx) (lv : Leave) (fn : Func) (n0 m0 : Nat) (env : Env) : Below1 × St → Tree
  | (.returning, S3) => resT c env S3 fn.results.toList [] fun vs => leaveT lv n0 m0 vs S3 fun v S => .done (.ret v, S)
  | (.recovered, S3) => resT c env S3 fn.results.toList [] fun vs => leaveT lv n0 m0 vs S3 fun v S => .done (.ret v, S)
  | (.panics v, S3) => lowT n0 v (.done (.panic v, ⟨S3.H.take n0, S3.T.take m0⟩))
def endT (c : Ctx) (pre : TypeId → Bool) (call : CallFn) (ct : CT) (lv : Leave) (fn : Func) (n0 m0 : Nat) : QT := fun ex fr S => match fr.ds with
  | [] => match ex with
    | .normal | .ret => resT c fr.env S fn.results.toList [] fun vs => leaveT lv n0 m0 vs S fun v S => .done (.ret v, S)
    | .panic v => lowT n0 v (.done (.panic v, ⟨S.H.take n0, S.T.take m0⟩))
    | _ => .fail
  | [(g, dargs)] => match ex with
    | .normal | .ret => c.deferT pre call ct g dargs .returning S fun u S3 => match u with
      | .returning => backT c lv fn n0 m0 fr.env (.returning, S3)
      | _ => .fail
    | .panic v => c.deferT pre call ct g dargs (.panics v) S fun u S3 => match u with
      | .recovered => backT c lv fn n0 m0 fr.env (.recovered, S3)
      | .panics v' => backT c lv fn n0 m0 fr.env (.panics v', S3)
      | _ => .fail
    | _ => .fail
  | _ => .fail
section
variable {W : Orc} {f : FuncId} {Q : Out → Prop} {c : Ctx} {n0 m0 : Nat}
theorem resT_sound {env : Env} {S : St} : ∀ {rs : List ResultVar} {acc : List SV} {K : List SV → Tree}, (resT c env S rs acc K).wp W f Q → ∃ vs, allSome (rs.map (c.result env S)) = some vs ∧ (K (acc.reverse ++ vs)).wp W f Q
  | [], acc, K, h => ⟨[], rfl, by simpa [resT] using h⟩
  | .tmp t :: r, acc, K, h => by
    simp only [resT] at h
    obtain ⟨vs, h1, h2⟩ := resT_sound h
    exact ⟨env.getD t (.undef, .no) :: vs, by simp only [List.map_cons, Ctx.result, allSome, h1, Option.map_some], by simpa using h2⟩
  | .cell a t :: r, acc, K, h => by
    simp only [resT] at h
    split at h
    · rename_i b o tg ha
      split at h
      · rename_i cells hc
        obtain ⟨v, h1, h2⟩ := loadT_sound h
        obtain ⟨vs, h3, h4⟩ := resT_sound h2
        exact ⟨v :: vs, by simp only [List.map_cons, Ctx.result, ha, hc, h1, allSome, h3, Option.map_some], by simpa using h4⟩
      · exact h.elim
    · exact h.elim
theorem leaveT_out {lv : Leave} {vs : List SV} {S : St} (h : (leaveT lv n0 m0 vs S fun v S => .done (.ret v, S)).wp W f Q) :
    ∃ p, ((∀ v ∈ vs, v.1.low n0 = true) ∧ p = (.ret (asOne (vs.map fun v => (v.1, .no))), ⟨S.H.take n0, S.T.take m0⟩) ∨ p = (COut.ret (asOne vs), S)) ∧ Q p := by
  cases lv with
  | plain =>
    obtain ⟨h3, h4⟩ := lowTAll_w h
    exact ⟨_, .inl ⟨h3, rfl⟩, h4⟩
  | whole => exact ⟨_, .inr rfl, h⟩
  | great => exact ⟨_, .inl ⟨h.1, rfl⟩, h.2⟩
theorem endT_ends {ct : CT} {tab : Tab} {pre : TypeId → Bool} {call : CallFn} (he : call = callOf tab) (hct : CTOk W f Q ct tab) {lv : Leave} {fn : Func} {ex : Ex} {fr : Fr} {S : St} (h : (endT c pre call ct lv fn n0 m0 ex fr S).wp W f Q) : ∃ p, EndsV c pre call fn n0 m0 p ex fr S ∧ Q p := by
  unfold endT at h
  split at h
  · rename_i hds
    have res : (ex = .normal ∨ ex = .ret) → (resT c fr.env S fn.results.toList [] fun vs => leaveT lv n0 m0 vs S fun v S => .done (.ret v, S)).wp W f Q → ∃ p, EndsV c pre call fn n0 m0 p ex fr S ∧ Q p := by
      intro hex h
      obtain ⟨vs, h3, h4⟩ := resT_sound h
      simp only [List.reverse_nil, List.nil_append] at h4
      obtain ⟨p, h5, h6⟩ := leaveT_out h4
      exact ⟨p, .inl (.inr ⟨hds, hex, vs, h3, h5⟩), h6⟩
    split at h
    · exact res (.inl rfl) h
    · exact res (.inr rfl) h
    · rename_i v
      obtain ⟨h1, h2⟩ := lowT_w h
      obtain ⟨env, ds⟩ := fr
      simp only at hds
      subst hds
      exact ⟨(.panic v, ⟨S.H.take n0, S.T.take m0⟩), .inl (.inl ⟨0, by simp only [Ctx.ends, panicked, h1, if_true]⟩), h2⟩
    · exact h.elim
  · rename_i g dargs hds
    split at h
    · obtain ⟨u', S3, h1, h2⟩ := deferT_sound (n := 9) he hct h
      cases u' with
      | returning =>
        obtain ⟨vs, h3, h4⟩ := resT_sound h2
        simp only [List.reverse_nil, List.nil_append] at h4
        obtain ⟨p, h5, h6⟩ := leaveT_out h4
        exact ⟨p, .inr ⟨9, g, dargs, _, _, S3, hds, .inl ⟨.inl rfl, rfl, rfl⟩, h1, vs, h3, h5⟩, h6⟩
      | panics => exact h2.elim
      | recovered => exact h2.elim
    · obtain ⟨u', S3, h1, h2⟩ := deferT_sound (n := 9) he hct h
      cases u' with
      | returning =>
        obtain ⟨vs, h3, h4⟩ := resT_sound h2
        simp only [List.reverse_nil, List.nil_append] at h4
        obtain ⟨p, h5, h6⟩ := leaveT_out h4
        exact ⟨p, .inr ⟨9, g, dargs, _, _, S3, hds, .inl ⟨.inr rfl, rfl, rfl⟩, h1, vs, h3, h5⟩, h6⟩
      | panics => exact h2.elim
      | recovered => exact h2.elim
    · rename_i v
      obtain ⟨u', S3, h1, h2⟩ := deferT_sound (n := 9) he hct h
      cases u' with
      | returning => exact h2.elim
      | recovered =>
        obtain ⟨vs, h3, h4⟩ := resT_sound h2
        simp only [List.reverse_nil, List.nil_append] at h4
        obtain ⟨p, h5, h6⟩ := leaveT_out h4
        exact ⟨p, .inr ⟨9, g, dargs, _, _, S3, hds, .inr ⟨v, rfl, rfl, rfl⟩, h1, vs, h3, h5⟩, h6⟩
      | panics v' =>
        obtain ⟨h3, h4⟩ := lowT_w h2
        obtain ⟨env, ds⟩ := fr
        simp only at hds
        subst hds
        exact ⟨(.panic v', ⟨S3.H.take n0, S3.T.take m0⟩), .inl (.inl ⟨9, by simp only [Ctx.ends, h1, panicked, h3, if_true]⟩), h4⟩
    · exact h.elim
  · exact h.elim
end
end Go.Ab
end
