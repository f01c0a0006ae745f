import Derived.Test.YtdiphholophdcaaDoorXSAbV
import Derived.Test.YtdiphholophdcaaDoorXSAbTrace
import Derived.Test.YtdiphholophdcaaDoorProg
import Derived.KernelRfl
import Derived.Lib.Builder
import Derived.Lib.Bytealg
import Derived.Laws.Externs
import Derived.Lib.IndexMore
import Derived.Lib.Fields
import Derived.Lib.LaidTab
import Derived.Lib.Join
import Derived.Below
set_option linter.all false
section
/- TREES OF FUNCTIONS; all functions at once; what they come to is the machine's. -/
namespace Go.Ab
open Go.RowKit

/-! ### calls -/
def okT1 (P : Nat → Bool) (x : AV) (t : Tree) : Tree := match x with
  | .ptr b _ => onlyIfT (P b) t
  | .slr b _ _ => onlyIfT (P b) t
  | .bself _ b => onlyIfT (P b) t
  | .sl xs => .need (AV.lows 0 xs = true) t
  | .iface _ (.sl xs) => .need (AV.lows 0 xs = true) t
  | x => onlyIfT (x.low 0) t
def okTs (P : Nat → Bool) : List AV → Tree → Tree
  | [], t => t
  | x :: xs, t => okT1 P x (okTs P xs t)
def okT (P : Nat → Bool) (x : AV) (t : Tree) : Tree := match x with
  | .agg cs => okTs P cs t
  | .tup cs => okTs P cs t
  | .fn _ a b => okTs P a (okTs P b t)
  | x => okT1 P x t
def okArgsT (P : Nat → Bool) : List SV → Tree → Tree
  | [], t => t
  | x :: xs, t => okT P x.1 (okArgsT P xs t)
def okBlksT (P : Nat → Bool) : List Blk → Tree → Tree
  | [], t => t
  | x :: xs, t => okArgsT P x (okBlksT P xs t)
section
variable {W : Orc} {f : FuncId} {Q : Out → Prop} {P : Nat → Bool}
theorem okT1_w {x : AV} {t : Tree} {K : Prop} (h : (okT1 P x t).wp W f Q) (k : t.wp W f Q → K) : okW1 P x K := by
  have oi : ∀ {b : Bool}, (onlyIfT b t).wp W f Q → onlyIf b K := fun h => by
    obtain ⟨h1, h2⟩ := onlyIfT_w h
    rw [h1]; exact k h2
  unfold okT1 at h
  split at h
  · exact oi h
  · exact oi h
  · exact oi h
  · exact ⟨h.1, k h.2⟩
  · exact ⟨h.1, k h.2⟩
  · rename_i h1 h2 h3 h4 h5
    unfold okW1
    split
    · exact absurd rfl (h1 _ _)
    · exact absurd rfl (h2 _ _ _)
    · exact absurd rfl (h3 _ _)
    · exact absurd rfl (h4 _)
    · exact absurd rfl (h5 _ _)
    · exact oi h
theorem okTs_w : ∀ {xs : List AV} {t : Tree} {K : Prop}, (okTs P xs t).wp W f Q → (t.wp W f Q → K) → okWs P xs K
  | [], _, _, h, k => k h
  | _ :: _, _, _, h, k => okT1_w h fun h => okTs_w h k
theorem okT_w {x : AV} {t : Tree} {K : Prop} (h : (okT P x t).wp W f Q) (k : t.wp W f Q → K) : okW P x K := by
  unfold okT at h
  split at h
  · exact okTs_w h k
  · exact okTs_w h k
  · rename_i g a b; exact okTs_w (xs := a) h fun h => okTs_w h k
  · rename_i h1 h2 h3
    unfold okW
    split
    · exact absurd rfl (h1 _)
    · exact absurd rfl (h2 _)
    · exact absurd rfl (h3 _ _ _)
    · exact okT1_w h k
theorem okArgsT_w : ∀ {xs : List SV} {t : Tree} {K : Prop}, (okArgsT P xs t).wp W f Q → (t.wp W f Q → K) → okArgs P xs K
  | [], _, _, h, k => k h
  | _ :: _, _, _, h, k => okT_w h fun h => okArgsT_w h k
theorem okBlksT_w : ∀ {xs : List Blk} {t : Tree} {K : Prop}, (okBlksT P xs t).wp W f Q → (t.wp W f Q → K) → okBlks P xs K
  | [], _, _, h, k => k h
  | _ :: _, _, _, h, k => okArgsT_w h fun h => okBlksT_w h k
end
def Res.toT : Res → (SV → St → Tree) → (AV → St → Tree) → Tree
  | .fail, _, _ => .fail
  | .ret v S, K, _ => K v S
  | .panic v S, _, Kp => Kp v S
  | .need p r, K, Kp => .need p (r.toT K Kp)
  | .cond b x y, K, Kp => Tree.ite b (x.toT K Kp) (y.toT K Kp)
  | .name e r, K, Kp => .nm e fun x => (r x).toT K Kp
  | .ex _ _ _, _, _ => .fail
def KT.kt (k : KT) : Bool := (Spec.mk k fun _ _ => .fail).kt
/-- a call, seen from its caller -/
def callT (kt0 : KT) (R : List SV → St → (SV → St → Tree) → (AV → St → Tree) → Tree) (args : List SV) (S : St) (K : SV → St → Tree) (Kp : AV → St → Tree) : Tree :=
  let kt : Bool := kt0.kt
  let ps := pickP args S
  let ts := pickT kt args S ps
  onlyIfT (!kt || args.all fun x => x.2.low S.T.length) <|
  okArgsT (ps.contains ·) args <|
  okBlksT (ps.contains ·) (ps.map (S.H.getD · [])) <|
  R (args.map (argDown kt ps ts)) (S.pick ps ts)
    (fun v S0 => match kt0 with
      | .big => .need (v.1.low 0 = true ∧ v.2 = .no) (okBlksT (fun _ => true) S0.H (onlyIfT (tagsKept (S.pick ps ts).H S0.H) (K v (S.merge ps ts S0))))
      | _ => okArgsT (fun _ => true) [v] <| okBlksT (fun _ => true) S0.H <| onlyIfT (v.2.low S0.T.length && tagsKept (S.pick ps ts).H S0.H) (K (v.up ps ts S) (S.merge ps ts S0)))
    (fun v S0 => okArgsT (fun _ => true) [(v, .no)] <| okBlksT (fun _ => true) S0.H <| onlyIfT (tagsKept (S.pick ps ts).H S0.H) (Kp (v.up ps S) (S.merge ps ts S0)))
section
variable {W : Orc} {f : FuncId} {Q : Out → Prop}
theorem Res.toT_w {r : Res} : ∀ {K : SV → St → Tree} {Kp : AV → St → Tree}, (r.toT K Kp).wp W f Q → r.wp (fun v S => (K v S).wp W f Q) (fun v S => (Kp v S).wp W f Q) := by
  induction r with
  | fail => intro K Kp h; exact h
  | ret v S => intro K Kp h; exact h
  | panic v S => intro K Kp h; exact h
  | need p r ih => intro K Kp h; exact ⟨h.1, ih h.2⟩
  | cond b x y ihx ihy => intro K Kp h; have h := ite_w h; exact ⟨fun e => ihx (h.1 e), fun e => ihy (h.2 e)⟩
  | name e r ih => intro K Kp h x hx; subst hx; exact ih _ (nm_w h)
  | ex P u r ih => intro K Kp h; exact h.elim
theorem callT_w {sp : Spec} {R : List SV → St → (SV → St → Tree) → (AV → St → Tree) → Tree} (hR : ∀ args S K Kp, (R args S K Kp).wp W f Q → (sp.res args S).wp (fun v S => (K v S).wp W f Q) (fun v S => (Kp v S).wp W f Q))
    {args : List SV} {S : St} {K : SV → St → Tree} {Kp : AV → St → Tree} (h : (callT sp.kt0 R args S K Kp).wp W f Q) : sp.wp args S (fun v S => (K v S).wp W f Q) (fun v S => (Kp v S).wp W f Q) := by
  unfold callT at h
  simp only at h
  rw [show KT.kt sp.kt0 = sp.kt from rfl] at h
  unfold Spec.wp
  obtain ⟨h1, h⟩ := onlyIfT_w h
  rw [h1]
  have toI : ∀ {b : Bool} {t : Tree}, (onlyIfT b t).wp W f Q → onlyIf b (t.wp W f Q) := fun h => by
    obtain ⟨h1, h2⟩ := onlyIfT_w h
    rw [h1]; exact h2
  refine okArgsT_w h fun h => okBlksT_w h fun h => Res.mono (hR _ _ _ _ h) (fun v S0 k => ?_) (fun v S0 k => ?_)
  · cases hk : sp.kt0 with
    | big =>
      rw [hk] at k
      exact ⟨k.1, okBlksT_w k.2 toI⟩
    | no => rw [hk] at k; exact okArgsT_w k fun k => okBlksT_w k toI
    | yes => rw [hk] at k; exact okArgsT_w k fun k => okBlksT_w k toI
  · exact okArgsT_w k fun k => okBlksT_w k toI
end

/-! ### a function's data -/
structure Cut where
  path : List Nat
  n0 : Nat
  m0 : Nat
  own : List Nat
  sh : FSh
structure FnD where
  fn : Func
  code : Code
  kt : KT
  lv : Leave
  cuts : List Cut
  outs : List OSh
structure Lay where
  c : Ctx
  pre : TypeId → Bool
  fns : FuncId → Option FnD
  ext : FuncId → Option Spec

def findCuts : List Cut → Nat → Nat → Nat → List Nat → List (Nat × Cut)
  | [], _, _, _, _ => []
  | c :: r, i, n0, m0, p => match c.path == p && Nat.beq c.n0 n0 && Nat.beq c.m0 m0 with
    | true => (i, c) :: findCuts r (i + 1) n0 m0 p
    | false => findCuts r (i + 1) n0 m0 p
def Cut.fits (c : Cut) (fr : Fr) (S : St) : Bool :=
  dsEq (owned c.own fr S).1.ds c.sh.ds && (genSs c.sh.slots (owned c.own fr S).1.env).isSome && (genBs c.sh.blks (owned c.own fr S).2.H).isSome
/-- the first of some cuts whose shape it is -/
def jumpsK (n0 m0 : Nat) (leaf : Nat → List AV → Tree) (fr : Fr) (S : St) : List (Nat × Cut) → Tree
  | [] => .fail
  | (i, c) :: r => match c.fits fr S with
    | true => jumpK n0 m0 c.own c.sh (leaf i) fr S
    | false => jumpsK n0 m0 leaf fr S r
/-- a function's begin -/
def FnD.begin (d : FnD) (leaf : Nat → List AV → Tree) (args : List SV) (S : St) : Tree :=
  jumpsK S.H.length S.T.length leaf (frame0 d.fn args) S (findCuts d.cuts 0 S.H.length S.T.length [])
def FnD.enter (d : FnD) (g : FuncId) (args : List SV) (S : St) (K : SV → St → Tree) (Kp : AV → St → Tree) : Tree :=
  d.begin (fun i vals => .call g i vals fun o => outsT d.outs o fun o => match o.1 with
    | .ret v => K v o.2
    | .panic v => Kp v o.2) args S
def Lay.ct (L : Lay) : CT := fun k args S K Kp => match L.ext k with
  | some sp => callT sp.kt0 (fun a s k kp => (sp.res a s).toT k kp) args S K Kp
  | none => match L.fns k with
    | some d => callT d.kt (d.enter k) args S K Kp
    | none => .fail
def FnD.jump (d : FnD) (n0 m0 : Nat) (p : List Nat) : Option (Fr → St → Tree) := match findCuts d.cuts 0 n0 m0 p with
  | [] => none
  | cs => some fun fr S => jumpsK n0 m0 .jump fr S cs
def Lay.env (L : Lay) (call : CallFn) (f : FuncId) (n0 m0 : Nat) : Env0 := ⟨L.c, L.pre, n0, m0, call, L.c.drop f⟩
/-- THE TREE of a function's piece -/
def Lay.tree (L : Lay) (call : CallFn) (f : FuncId) (d : FnD) (k : Nat) (vals : List AV) : Tree := match d.cuts[k]? with
  | some cut => (L.env call f cut.n0 cut.m0).codeU ⟨L.ct, d.jump cut.n0 cut.m0⟩ cut.path (subR cut.path d.code) (cut.sh.fr vals) (cut.sh.st vals)
      ((L.env call f cut.n0 cut.m0).contT ⟨L.ct, d.jump cut.n0 cut.m0⟩ d.code (endT L.c L.pre call L.ct d.lv d.fn cut.n0 cut.m0) cut.path)
  | none => .fail
def resOf : Option Out → Res
  | some (.ret v, S) => .ret v S
  | some (.panic v, S) => .panic v S
  | none => .fail
noncomputable def Lay.specOf (W : Orc) (g : FuncId) (d : FnD) : Go.Ab.Spec := ⟨d.kt, fun args S => resOf ((d.begin .jump args S).run W g)⟩
noncomputable def Lay.tab (L : Lay) (W : Orc) : Tab := fun g => match L.ext g with
  | some sp => some sp
  | none => match L.fns g with
    | some d => some (Lay.specOf W g d)
    | none => none
/-- WHAT THE FUNCTIONS' PIECES COME TO, in so many steps -/
noncomputable def Lay.evalN (L : Lay) : Nat → Orc
  | 0 => fun _ _ _ => none
  | n + 1 => fun f k vals => match L.fns f with
    | some d => (L.tree (callOf (L.tab (L.evalN n))) f d k vals).run (L.evalN n) f
    | none => none
open Classical in
/-- what they come to -/
noncomputable def Lay.ev (L : Lay) : Orc := fun f k vals => if h : ∃ o N, ∀ n, N ≤ n → L.evalN n f k vals = some o then some (Classical.choose h) else none
theorem Lay.ev_some {L : Lay} {f : FuncId} {k : Nat} {vals : List AV} {o : Out} (h : L.ev f k vals = some o) : ∃ N, ∀ n, N ≤ n → L.evalN n f k vals = some o := by
  unfold Lay.ev at h
  split at h
  · rename_i hx
    cases h
    exact Classical.choose_spec hx
  · cases h
theorem Lay.ev_of {L : Lay} {f : FuncId} {k : Nat} {vals : List AV} {o : Out} (h : ∃ N, ∀ n, N ≤ n → L.evalN n f k vals = some o) : L.ev f k vals = some o := by
  have hx : ∃ o N, ∀ n, N ≤ n → L.evalN n f k vals = some o := ⟨o, h⟩
  unfold Lay.ev
  rw [dif_pos hx]
  obtain ⟨N, hN⟩ := Classical.choose_spec hx
  obtain ⟨M, hM⟩ := h
  have h1 := hN (max N M) (by omega)
  have h2 := hM (max N M) (by omega)
  rw [h1] at h2
  exact h2
/-- a piece comes to K -/
def Lay.Wp (L : Lay) (f : FuncId) (k : Nat) (vals : List AV) (K : Out → Prop) : Prop := ∃ o, L.ev f k vals = some o ∧ K o
/-- THE LAW's RULE: from a piece's tree to what it comes to -/
theorem Lay.wp_of {L : Lay} {f : FuncId} {d : FnD} (hd : L.fns f = some d) {k : Nat} {vals : List AV} {t : Tree} (ht : ∀ call, L.tree call f d k vals = t) {K : Out → Prop} (h : t.wp L.ev f K) : L.Wp f k vals K := by
  obtain ⟨o, h1, h2⟩ := Tree.wp_run.1 h
  refine ⟨o, Lay.ev_of ?_, h2⟩
  obtain ⟨N, hN⟩ := Tree.run_lim (V := L.evalN) (fun f k vs o h => Lay.ev_some h) h1
  refine ⟨N + 1, fun n hn => ?_⟩
  obtain ⟨m, rfl⟩ : ∃ m, n = m + 1 := ⟨n - 1, by omega⟩
  simp only [Lay.evalN, hd, ht]
  exact hN m (by omega)

/-! ### where code is cut -/
section
variable {c : Ctx} {n0 m0 : Nat}
/-- a loop, of so many rounds -/
def RoundsH (c : Ctx) (n0 m0 : Nat) (body : Code) (N : Nat) (fr : Fr) (S : St) (Q : Post1) : Prop :=
  ∀ B w0 G0 T0 G a w Q', G0.φ.length = n0 → T0.length = m0 → Inv c B w0 G S w → Grows G0 T0 G S.T → FrR G S.T fr a → TagsLow n0 m0 S → PostH c B w0 G0 T0 Q Q' → Code.rounds c.P body Q' N a w
theorem RoundsH.code {body : Code} {N : Nat} {fr : Fr} {S : St} {Q : Post1} (h : RoundsH c n0 m0 body N fr S Q) : CodeH c n0 m0 (.loop body) fr S Q :=
  fun B w0 G0 T0 G a w Q' h1 h2 h3 h4 h5 h6 h7 => wp_loop_rounds N (h B w0 G0 T0 G a w Q' h1 h2 h3 h4 h5 h6 h7)
theorem RoundsH.mono {body : Code} {N M : Nat} (hn : N ≤ M) {fr : Fr} {S : St} {Q Q2 : Post1} (h : RoundsH c n0 m0 body N fr S Q) (hq : ∀ ex fr S, Q ex fr S → Q2 ex fr S) : RoundsH c n0 m0 body M fr S Q2 :=
  fun B w0 G0 T0 G a w Q' h1 h2 h3 h4 h5 h6 h7 => rounds_le hn (h B w0 G0 T0 G a w Q' h1 h2 h3 h4 h5 h6 fun ex fr S q => h7 ex fr S (hq ex fr S q))
theorem RoundsH.wkn {body : Code} {N : Nat} {fr fr2 : Fr} {S S2 : St} {Q : Post1} (hw : Wkn c n0 m0 fr S fr2 S2) (h : RoundsH c n0 m0 body N fr2 S2 Q) : RoundsH c n0 m0 body N fr S Q := by
  intro B w0 G0 T0 G a w Q' h1 h2 h3 h4 h5 h6 h7
  obtain ⟨G2, i3, i4, i5, i6⟩ := hw B w0 G0 T0 G a w h1 h2 h3 h4 h5 h6
  exact h B w0 G0 T0 G2 a w Q' h1 h2 i3 i4 i5 i6 h7
theorem RoundsH.succ {body : Code} {N : Nat} {fr : Fr} {S : St} {Q : Post1} (h : CodeH c n0 m0 body fr S fun ex fr' S' => match ex with
    | .normal => RoundsH c n0 m0 body N fr' S' Q
    | ex => Q ex fr' S') : RoundsH c n0 m0 body (N + 1) fr S Q := by
  intro B w0 G0 T0 G a w Q' h1 h2 h3 h4 h5 h6 h7
  rw [rounds_succ]
  refine h B w0 G0 T0 G a w _ h1 h2 h3 h4 h5 h6 fun ex fr1 S1 hq G1 ex' a1 w1 hex i1 g1 f1 t1 => ?_
  cases ex with
  | normal =>
    cases ex' <;> simp only [ExR] at hex
    exact hq B w0 G0 T0 G1 a1 w1 Q' h1 h2 i1 g1 f1 (by rw [← h1, ← h2]; exact t1) h7
  | _ =>
    cases ex' <;> simp only [ExR] at hex <;> exact h7 _ _ _ hq G1 _ a1 w1 hex i1 g1 f1 t1
/-- what must hold behind the code at a path -/
def contH (c : Ctx) (n0 m0 : Nat) (root : Code) (Qf : Post1) (N : Nat) : List Nat → Post1
  | [] => Qf
  | d :: p => match subR p root with
    | .seq _ b => match d with
      | 0 => fun ex fr S => match ex with
        | .normal => CodeH c n0 m0 b fr S (contH c n0 m0 root Qf N p)
        | ex => contH c n0 m0 root Qf N p ex fr S
      | _ => contH c n0 m0 root Qf N p
    | .block id _ => fun ex fr S => match ex with
      | .exit id' => if id' = id then contH c n0 m0 root Qf N p .normal fr S else contH c n0 m0 root Qf N p (.exit id') fr S
      | ex => contH c n0 m0 root Qf N p ex fr S
    | .loop body => fun ex fr S => match ex with
      | .normal => RoundsH c n0 m0 body N fr S (contH c n0 m0 root Qf N p)
      | ex => contH c n0 m0 root Qf N p ex fr S
    | _ => contH c n0 m0 root Qf N p
theorem contH_more {root : Code} {Qf : Post1} {N : Nat} : ∀ (p : List Nat) ex fr S, contH c n0 m0 root Qf N p ex fr S → contH c n0 m0 root Qf (N + 1) p ex fr S
  | [], _, _, _, h => h
  | d :: p, ex, fr, S, h => by
    have ih := contH_more (root := root) (Qf := Qf) (N := N) p
    cases hs : subR p root with
    | seq a b =>
      cases d with
      | zero =>
        simp only [contH, hs] at h ⊢
        cases ex with
        | normal => exact CodeH.mono h ih
        | _ => exact ih _ _ _ h
      | succ d => simp only [contH, hs] at h ⊢; exact ih _ _ _ h
    | block id b =>
      simp only [contH, hs] at h ⊢
      cases ex with
      | exit i =>
        simp only at h ⊢
        split
        · rename_i e; rw [if_pos e] at h; exact ih _ _ _ h
        · rename_i e; rw [if_neg e] at h; exact ih _ _ _ h
      | _ => exact ih _ _ _ h
    | loop body =>
      simp only [contH, hs] at h ⊢
      cases ex with
      | normal => exact RoundsH.mono (Nat.le_succ N) h ih
      | _ => exact ih _ _ _ h
    | _ => simp only [contH, hs] at h ⊢; exact ih _ _ _ h
/-- the code at a path comes to what must hold behind it -/
def AtH (c : Ctx) (n0 m0 : Nat) (root : Code) (Qf : Post1) (N : Nat) (p : List Nat) (fr : Fr) (S : St) : Prop := match subR p root with
  | .loop body => RoundsH c n0 m0 body N fr S (contH c n0 m0 root Qf N p)
  | k => CodeH c n0 m0 k fr S (contH c n0 m0 root Qf N p)
theorem AtH.code {root : Code} {Qf : Post1} {N : Nat} {p : List Nat} {fr : Fr} {S : St} (h : AtH c n0 m0 root Qf N p fr S) : CodeH c n0 m0 (subR p root) fr S (contH c n0 m0 root Qf N p) := by
  unfold AtH at h
  split at h
  · rename_i body hs; rw [hs]; exact RoundsH.code h
  · exact h
theorem AtH.wkn {root : Code} {Qf : Post1} {N : Nat} {p : List Nat} {fr fr2 : Fr} {S S2 : St} (hw : Wkn c n0 m0 fr S fr2 S2) (h : AtH c n0 m0 root Qf N p fr2 S2) : AtH c n0 m0 root Qf N p fr S := by
  unfold AtH at h ⊢
  split at h
  · exact RoundsH.wkn hw h
  · exact CodeH.wkn hw h
variable {W : Orc} {f : FuncId} {Q : Out → Prop} {tab : Tab}
theorem regionT_sound {e : Env0} {ct : CT} (he : e.c = c) (hn : e.n0 = n0) (hcall : e.call = callOf tab) (hct : CTOk W f Q ct tab) (hm : c.P.follows .mixedOrders = true) (ht : TabSound c tab) {id : Nat} {ops : Array Oper} {draw : Bool} {fr : Fr} {S : St} {Q' : QT}
    (h : (e.regionT ct id ops draw fr S Q').wp W f Q) : CodeH c n0 m0 (.region id ops draw) fr S fun ex fr S => (Q' ex fr S).wp W f Q := by
  have hcs : CallSound c e.call := by rw [hcall]; exact tab_sound ht
  have htags : CallTags e.call := by rw [hcall]; exact tab_tags tab
  have h1 : CodeH c n0 m0 (.region id ops draw) fr S fun ex fr' S' => (Q' ex (dropped (e.drop id) fr') S').wp W f Q := by
    unfold Env0.regionT at h
    cases draw with
    | true =>
      obtain ⟨r, h1, h2⟩ := drawsT_sound hcall hct h
      exact CodeH.region he hm hcs htags hn (by simp only [Env0.region, if_true]; exact h1) h2
    | false =>
      obtain ⟨r, h1, h2⟩ := opsT_sound hcall hct _ _ _ h
      cases r with
      | ok fr' S' => exact CodeH.region (r := (.normal, fr', S')) he hm hcs htags hn (by simp [Env0.region, h1]) h2
      | panic v fr' S' => exact CodeH.region (r := (.panic v, fr', S')) he hm hcs htags hn (by simp [Env0.region, h1]) h2
  exact fun B w0 G0 T0 G a w Q2 k1 k2 k3 k4 k5 k6 k7 => h1 B w0 G0 T0 G a w Q2 k1 k2 k3 k4 k5 k6 fun ex fr' S' hq G1 ex' a1 w1 m1 m2 m3 m4 m5 =>
    k7 _ _ _ hq G1 ex' a1 w1 m1 m2 m3 ⟨m4.env.wk (wk_dropped _ _), m4.ds⟩ m5
/-- THE TREE OF CODE IS RIGHT -/
theorem codeU_sound {e : Env0} {g : GenT} (he : e.c = c) (hn : e.n0 = n0) (hcall : e.call = callOf tab) (hct : CTOk W f Q g.ct tab) (hm : c.P.follows .mixedOrders = true) (ht : TabSound c tab) {root : Code} {fin : QT} {Qf : Post1} {N : Nat}
    (hj : ∀ p J, g.jump p = some J → ∀ fr S, (J fr S).wp W f Q → AtH c n0 m0 root Qf N p fr S) :
    ∀ (k : Code) (p : List Nat), subR p root = k → (∀ ex fr S, (e.contT g root fin p ex fr S).wp W f Q → contH c n0 m0 root Qf N p ex fr S) → ∀ (fr : Fr) (S : St), (e.codeU g p k fr S (e.contT g root fin p)).wp W f Q → CodeH c n0 m0 k fr S (contH c n0 m0 root Qf N p) := by
  have hk : ∀ (k : Code) (p : List Nat), subR p root = k → (∀ fr S, (e.codeU g p k fr S (e.contT g root fin p)).wp W f Q → CodeH c n0 m0 k fr S (contH c n0 m0 root Qf N p)) →
      ∀ fr S, (g.hk p (e.codeU g p k) fr S (e.contT g root fin p)).wp W f Q → CodeH c n0 m0 k fr S (contH c n0 m0 root Qf N p) := by
    intro k p hp ih fr S h
    unfold GenT.hk at h
    split at h
    · rename_i J hJ; have := (hj p J hJ fr S h).code; rw [hp] at this; exact this
    · exact ih fr S h
  intro k
  induction k with
  | skip => intro p _ hc fr S h; exact .skip (hc _ _ _ h)
  | label => intro p _ hc fr S h; exact .label (hc _ _ _ h)
  | exit id => intro p _ hc fr S h; exact .exit (hc _ _ _ h)
  | ret => intro p _ hc fr S h; exact .ret (hc _ _ _ h)
  | region id ops draw =>
    intro p _ hc fr S h
    simp only [Env0.codeU, forceLT_eq] at h
    exact (regionT_sound he hn hcall hct hm ht h).mono hc
  | seq a b iha ihb =>
    intro p hp hc fr S h
    have e1 : e.contT g root fin (1 :: p) = e.contT g root fin p := by simp only [Env0.contT, hp]
    have e0 : e.contT g root fin (0 :: p) = fun ex fr S => match ex with
        | .normal => g.hk (1 :: p) (e.codeU g (1 :: p) b) fr S (e.contT g root fin p)
        | ex => e.contT g root fin p ex fr S := by simp only [Env0.contT, hp]; rfl
    have k1 : contH c n0 m0 root Qf N (1 :: p) = contH c n0 m0 root Qf N p := by simp only [contH, hp]
    have k0 : contH c n0 m0 root Qf N (0 :: p) = fun ex fr S => match ex with
        | .normal => CodeH c n0 m0 b fr S (contH c n0 m0 root Qf N p)
        | ex => contH c n0 m0 root Qf N p ex fr S := by simp only [contH, hp]
    have hb : ∀ fr S, (g.hk (1 :: p) (e.codeU g (1 :: p) b) fr S (e.contT g root fin p)).wp W f Q → CodeH c n0 m0 b fr S (contH c n0 m0 root Qf N p) := by
      have := hk b (1 :: p) (by simp [subR, hp]) (ihb (1 :: p) (by simp [subR, hp]) (by rw [e1, k1]; exact hc))
      rw [e1, k1] at this
      exact this
    have hc0 : ∀ ex fr S, (e.contT g root fin (0 :: p) ex fr S).wp W f Q → contH c n0 m0 root Qf N (0 :: p) ex fr S := by
      rw [e0, k0]
      intro ex fr S h
      cases ex with
      | normal => exact hb fr S h
      | _ => exact hc _ _ _ h
    have ha := hk a (0 :: p) (by simp [subR, hp]) (iha (0 :: p) (by simp [subR, hp]) hc0) fr S
    rw [e0, k0] at ha
    exact .seq (ha h)
  | cond x a b iha ihb =>
    intro p hp hc fr S h
    have e1 : ∀ d, e.contT g root fin (d :: p) = e.contT g root fin p := fun d => by simp only [Env0.contT, hp]
    have k1 : ∀ d, contH c n0 m0 root Qf N (d :: p) = contH c n0 m0 root Qf N p := fun d => by simp only [contH, hp]
    have ha := hk a (0 :: p) (by simp [subR, hp]) (iha (0 :: p) (by simp [subR, hp]) (by rw [e1, k1]; exact hc)) fr S
    have hb := hk b (1 :: p) (by simp [subR, hp]) (ihb (1 :: p) (by simp [subR, hp]) (by rw [e1, k1]; exact hc)) fr S
    rw [e1, k1] at ha hb
    simp only [Env0.codeU] at h
    split at h
    · rename_i t hx
      have h := ite_w h
      exact .cond (by rw [← he]; exact hx) (fun e => ha (h.1 e)) (fun e => hb (h.2 e))
    · exact h.elim
  | block id body ih =>
    intro p hp hc fr S h
    have e0 : e.contT g root fin (0 :: p) = fun ex fr S => match ex with
        | .exit id' => if id' = id then e.contT g root fin p .normal fr S else e.contT g root fin p (.exit id') fr S
        | ex => e.contT g root fin p ex fr S := by simp only [Env0.contT, hp]; rfl
    have k0 : contH c n0 m0 root Qf N (0 :: p) = fun ex fr S => match ex with
        | .exit id' => if id' = id then contH c n0 m0 root Qf N p .normal fr S else contH c n0 m0 root Qf N p (.exit id') fr S
        | ex => contH c n0 m0 root Qf N p ex fr S := by simp only [contH, hp]
    have hc0 : ∀ ex fr S, (e.contT g root fin (0 :: p) ex fr S).wp W f Q → contH c n0 m0 root Qf N (0 :: p) ex fr S := by
      rw [e0, k0]
      intro ex fr S h
      cases ex with
      | exit i =>
        simp only at h ⊢
        split
        · rename_i e; rw [if_pos e] at h; exact hc _ _ _ h
        · rename_i e; rw [if_neg e] at h; exact hc _ _ _ h
      | _ => exact hc _ _ _ h
    have ha := hk body (0 :: p) (by simp [subR, hp]) (ih (0 :: p) (by simp [subR, hp]) hc0) fr S
    rw [e0, k0] at ha
    refine .block ((ha h).mono fun ex fr S hq => ?_)
    cases ex <;> exact hq
  | loop body ih =>
    intro p hp hc fr S h
    have e0 : e.contT g root fin (0 :: p) = fun ex fr S => match ex with
        | .normal => match g.jump p with
          | some J => J fr S
          | none => .fail
        | ex => e.contT g root fin p ex fr S := by simp only [Env0.contT, hp]; rfl
    have k0 : contH c n0 m0 root Qf N (0 :: p) = fun ex fr S => match ex with
        | .normal => RoundsH c n0 m0 body N fr S (contH c n0 m0 root Qf N p)
        | ex => contH c n0 m0 root Qf N p ex fr S := by simp only [contH, hp]
    have hc0 : ∀ ex fr S, (e.contT g root fin (0 :: p) ex fr S).wp W f Q → contH c n0 m0 root Qf N (0 :: p) ex fr S := by
      rw [e0, k0]
      intro ex fr S h
      cases ex with
      | normal =>
        simp only at h ⊢
        split at h
        · rename_i J hJ
          have := hj p J hJ fr S h
          unfold AtH at this
          rw [hp] at this
          exact this
        · exact h.elim
      | _ => exact hc _ _ _ h
    have ha := hk body (0 :: p) (by simp [subR, hp]) (ih (0 :: p) (by simp [subR, hp]) hc0) fr S
    rw [e0, k0] at ha
    exact (RoundsH.succ (ha h)).code
  | rangeFunc => intro p _ _ fr S h; simp [Env0.codeU, Tree.wp] at h
  | scope => intro p _ _ fr S h; simp [Env0.codeU, Tree.wp] at h
  | goto => intro p _ _ fr S h; simp [Env0.codeU, Tree.wp] at h
  | refuse => intro p _ _ fr S h; simp [Env0.codeU, Tree.wp] at h
theorem contT_sound {e : Env0} {g : GenT} (he : e.c = c) (hn : e.n0 = n0) (hcall : e.call = callOf tab) (hct : CTOk W f Q g.ct tab) (hm : c.P.follows .mixedOrders = true) (ht : TabSound c tab) {root : Code} {fin : QT} {Qf : Post1} {N : Nat}
    (hj : ∀ p J, g.jump p = some J → ∀ fr S, (J fr S).wp W f Q → AtH c n0 m0 root Qf N p fr S) (hf : ∀ ex fr S, (fin ex fr S).wp W f Q → Qf ex fr S) :
    ∀ (p : List Nat) ex fr S, (e.contT g root fin p ex fr S).wp W f Q → contH c n0 m0 root Qf N p ex fr S
  | [], ex, fr, S, h => hf _ _ _ h
  | d :: p, ex, fr, S, h => by
    have ih := contT_sound he hn hcall hct hm ht hj hf p
    cases hs : subR p root with
    | seq a b =>
      cases d with
      | zero =>
        simp only [contH, Env0.contT, hs] at h ⊢
        have e1 : e.contT g root fin (1 :: p) = e.contT g root fin p := by simp only [Env0.contT, hs]
        have k1 : contH c n0 m0 root Qf N (1 :: p) = contH c n0 m0 root Qf N p := by simp only [contH, hs]
        cases ex with
        | normal =>
          simp only [GenT.hk] at h
          split at h
          · rename_i J hJ
            have := (hj (1 :: p) J hJ fr S h).code
            rw [k1] at this
            simpa [subR, hs] using this
          · have := codeU_sound he hn hcall hct hm ht hj b (1 :: p) (by simp [subR, hs]) (by rw [e1, k1]; exact ih) fr S (by rw [e1]; exact h)
            rw [k1] at this
            exact this
        | _ => exact ih _ _ _ h
      | succ d => simp only [contH, Env0.contT, hs] at h ⊢; exact ih _ _ _ h
    | block id b =>
      simp only [contH, Env0.contT, hs] at h ⊢
      cases ex with
      | exit i =>
        simp only at h ⊢
        split
        · rename_i e; rw [if_pos e] at h; exact ih _ _ _ h
        · rename_i e; rw [if_neg e] at h; exact ih _ _ _ h
      | _ => exact ih _ _ _ h
    | loop body =>
      simp only [contH, Env0.contT, hs] at h ⊢
      cases ex with
      | normal =>
        simp only at h ⊢
        split at h
        · rename_i J hJ
          have := hj p J hJ fr S h
          unfold AtH at this
          rw [hs] at this
          exact this
        · exact h.elim
      | _ => exact ih _ _ _ h
    | _ => simp only [contH, Env0.contT, hs] at h ⊢; exact ih _ _ _ h
end
end Go.Ab
end
section
/- EVERY FUNCTION OF THE TABLE MEETS WHAT ITS TREE COMES TO. -/
namespace Go.Ab
open Go.RowKit

section
variable {c : Ctx} {n0 m0 : Nat}
/-- what a body's end may come to, its deferred call by whatever contracts hold -/
def EndsT (c : Ctx) (pre : TypeId → Bool) (fn : Func) (n0 m0 : Nat) (p : Out) : Post1 := fun ex fr S => ∃ tab, TabSound c tab ∧ EndsV c pre (callOf tab) fn n0 m0 p ex fr S
theorem fn_soundT {pre : TypeId → Bool} (hm : c.P.follows .mixedOrders = true) (hname : ∀ (f : FuncId) (fn : Func), c.P.funcs[f]? = some fn → (fn.name == "runtime.NumGoroutine") = false) {f : FuncId} {fn : Func} {k : Code}
    (hf : c.P.funcs[f]? = some fn) (hb : fn.body = some k) {sp : Spec}
    (h : ∀ args S K Kp, (sp.res args S).wp K Kp → CodeH c S.H.length S.T.length k (frame0 fn args) S fun ex fr S1 => ∃ p, EndsT c pre fn S.H.length S.T.length p ex fr S1 ∧ outTo p K Kp) : SpecSound c f sp := by
  intro args S p hp B w0 G w vs inv ha
  refine .inl ⟨enter_run hf (hname f fn hf) hb _ _, calls_of_wp_defers hf hb ?_⟩
  refine h args S _ _ hp B w0 G S.T G _ w _ inv.lenφ rfl inv (.refl _ _) (frame0_sound ha) (fun b cells hb hc x hx => inv.tag b cells hc x hx) fun ex fr S1 hq G' ex' a' w' h1 h2 h3 h4 h5 => ?_
  obtain ⟨p', ⟨tab, ht, he⟩, hto⟩ := hq
  have htags := tab_tags tab
  have hcall := tab_sound ht
  have hd : ∀ (S : St) (d : Nat → List Tmp), DrawSound c B w0 ⟨c, pre, S.H.length, S.T.length, callOf tab, d⟩ := fun S d => draws_sound rfl hm hcall
  have hpp : p = p' := by
    unfold outTo at hto
    obtain ⟨o, S2⟩ := p'
    cases o <;> exact hto
  subst hpp
  have hlen : S.H.length ≤ S1.H.length := by rw [← inv.lenφ, ← h2.lenφ]; exact len_le_of h3.φ
  have htl : TagsLow S.H.length S.T.length S1 := by rw [inv.lenφ] at h5; exact h5
  have fin : ∀ {G2 : Gh} {S2 : St} {w2 : World} {env : Env} {vs' : List SV}, Inv c B w0 G2 S2 w2 → Grows G S.T G2 S2.T → TagsLow S.H.length S.T.length S2 → EnvR G2 S2.T env a' → allSome (fn.results.toList.map (c.result env S2)) = some vs' →
      ((∀ v ∈ vs', v.1.low S.H.length = true) ∧ p = (.ret (asOne (vs'.map fun v => (v.1, .no))), ⟨S2.H.take S.H.length, S2.T.take S.T.length⟩) ∨ p = (.ret (asOne vs'), S2)) →
      ∃ v, (results fn a'.tmps).run c.P w2 = .ok v w2 ∧ ∃ G'', Inv c B w0 G'' p.2 w2 ∧ Grows G S.T G'' p.2.T ∧ OutR G'' p.2.T p.1 (.returned v) := by
    intro G2 S2 w2 env vs' i2 g2 t2 e2 hvs hout
    obtain ⟨us, r1, r2⟩ := results_sound i2 e2 hvs
    refine ⟨_, r1, ?_⟩
    rcases hout with ⟨hl, rfl⟩ | rfl
    · have hrl : RSl (G2.cut S.H.length S.T.length) (S2.T.take S.T.length) (vs'.map fun v => (v.1, .no)) us := r2.plain hl
      exact ⟨_, i2.cut t2, g2.cut (n := S.H.length) (m := S.T.length) (by rw [inv.lenφ]; exact Nat.le_refl _) (Nat.le_refl _), hrl.one⟩
    · exact ⟨_, i2, g2, r2.one⟩
  rcases he with (⟨n, he⟩ | ⟨hds, hex, vs', hvs, hout⟩) | ⟨n, g1, dargs, u, u', S3, hds, hmode, hdef, vs', hvs, hout⟩
  · obtain ⟨out, S2⟩ := p
    exact ends_sound (q := (ex, fr, S1)) hcall htags hd hname inv htl hlen he G' ex' a' w' h1 h2 h3 h4
  · have hds' : a'.defers = [] := by
      have := h4.ds
      rw [hds] at this
      cases hd2 : a'.defers with
      | nil => rfl
      | cons x xs => rw [hd2] at this; exact this.elim
    have hfin := fin h2 h3 htl h4.env hvs hout
    rcases hex with rfl | rfl <;> cases ex' <;> simp only [ExR] at h1
    · show Leaves _ _ _ _ a'.defers _ _
      rw [hds']; exact hfin
    · show Leaves _ _ _ _ a'.defers _ _
      rw [hds']; exact hfin
  · obtain ⟨env, ds⟩ := fr
    simp only at hds
    subst hds
    rcases hmode with ⟨hex, rfl, rfl⟩ | ⟨v, rfl, rfl, rfl⟩
    · have hfin := defer_main hcall htags hd hname (fn := fn) (R0 := fun en w' => ∃ G', Inv c B w0 G' p.2 w' ∧ Grows G S.T G' p.2.T ∧ OutR G' p.2.T p.1 en) htl hlen h2 h3 h4 (u := .returning) (u' := .returning) (m := .returning) (by simp) rfl hdef fun G2 w2 i2 g2 t2 e2 m2 u2 => by
        have : m2 = .returning := u2
        subst this
        exact fin i2 g2 t2 e2 hvs hout
      rcases hex with rfl | rfl <;> cases ex' <;> simp only [ExR] at h1
      · exact hfin
      · exact hfin
    · cases ex' <;> simp only [ExR] at h1
      obtain ⟨v', rfl, hv⟩ := h1
      exact defer_main hcall htags hd hname (fn := fn) htl hlen h2 h3 h4 (u := .panics v) (u' := .recovered) (by simp) ⟨v', rfl, hv⟩ hdef fun G2 w2 i2 g2 t2 e2 m2 u2 => by
        obtain ⟨v2, rfl⟩ := u2
        exact fin i2 g2 t2 e2 hvs hout
end
theorem resOf_wp {m : Option Out} {K : SV → St → Prop} {Kp : AV → St → Prop} (h : (resOf m).wp K Kp) : ∃ o, m = some o ∧ outTo o K Kp := by
  rcases m with _ | ⟨o, S⟩
  · exact h.elim
  · cases o <;> exact ⟨_, rfl, h⟩
theorem resOf_of {m : Option Out} {o : Out} (hm : m = some o) {K : SV → St → Prop} {Kp : AV → St → Prop} (h : outTo o K Kp) : (resOf m).wp K Kp := by
  subst hm
  obtain ⟨o, S⟩ := o
  cases o <;> exact h
/-- a function's begin, taken for another leaf -/
theorem jumps_swap {W W' : Orc} {f f' : FuncId} {Q Q' : Out → Prop} {n0 m0 : Nat} {leaf leaf' : Nat → List AV → Tree} {fr : Fr} {S : St} (k : ∀ i vals, (leaf i vals).wp W f Q → (leaf' i vals).wp W' f' Q') :
    ∀ {cs : List (Nat × Cut)}, (jumpsK n0 m0 leaf fr S cs).wp W f Q → (jumpsK n0 m0 leaf' fr S cs).wp W' f' Q'
  | [], h => h.elim
  | (i, c) :: r, h => by
    simp only [jumpsK] at h ⊢
    split at h
    · exact jumpK_swap h (k i)
    · exact jumps_swap k h
theorem jumps_w {W : Orc} {f : FuncId} {Q : Out → Prop} {c : Ctx} {n0 m0 : Nat} {leaf : Nat → List AV → Tree} {fr : Fr} {S : St} :
    ∀ {cs : List (Nat × Cut)}, (jumpsK n0 m0 leaf fr S cs).wp W f Q → ∃ i cut, (i, cut) ∈ cs ∧ ∃ vals, Wkn c n0 m0 fr S (cut.sh.fr vals) (cut.sh.st vals) ∧ (leaf i vals).wp W f Q
  | [], h => h.elim
  | (i, c1) :: r, h => by
    simp only [jumpsK] at h
    split at h
    · obtain ⟨vals, h1, h2⟩ := jumpK_w (c := c) h
      exact ⟨i, c1, List.mem_cons_self .., vals, h1, h2⟩
    · obtain ⟨j, cut, h1, h2⟩ := jumps_w h
      exact ⟨j, cut, List.mem_cons_of_mem _ h1, h2⟩
/-- the calls' trees are right -/
theorem Lay.ct_ok (L : Lay) {W : Orc} {f : FuncId} {Q : Out → Prop} : CTOk W f Q L.ct (L.tab W) := by
  intro k args S K Kp h
  unfold Lay.ct at h
  unfold Lay.tab
  split at h
  · rename_i sp he
    refine ⟨sp, rfl, ?_⟩
    exact callT_w (sp := sp) (fun args S K Kp h => Res.toT_w h) h
  · rename_i he
    split at h
    · rename_i d hd
      refine ⟨Lay.specOf W k d, rfl, ?_⟩
      refine callT_w (sp := Lay.specOf W k d) (fun args S K Kp h => ?_) h
      have h2 : (d.begin .jump args S).wp W k fun o => outTo o (fun v S => (K v S).wp W f Q) (fun v S => (Kp v S).wp W f Q) := by
        refine jumps_swap (fun i vals hl => ?_) h
        obtain ⟨o, h1, h2⟩ := hl
        refine ⟨o, h1, ?_⟩
        have h3 := outsT_w h2
        obtain ⟨o1, S1⟩ := o
        cases o1 <;> exact h3
      obtain ⟨o, h3, h4⟩ := Tree.wp_run.1 h2
      exact resOf_of h3 h4
    · exact h.elim

/-- the table fits the program -/
structure Lay.Fits (L : Lay) : Prop where
  hm : L.c.P.follows .mixedOrders = true
  hname : ∀ (f : FuncId) (fn : Func), L.c.P.funcs[f]? = some fn → (fn.name == "runtime.NumGoroutine") = false
  fns : ∀ f d, L.fns f = some d → L.c.P.funcs[f]? = some d.fn ∧ d.fn.body = some d.code
  ext : ∀ f sp, L.ext f = some sp → SpecSound L.c f sp
theorem findCuts_at : ∀ {cs : List Cut} {i n0 m0 : Nat} {p : List Nat} {j : Nat} {cut : Cut}, (j, cut) ∈ findCuts cs i n0 m0 p → i ≤ j ∧ cs[j - i]? = some cut ∧ cut.path = p ∧ cut.n0 = n0 ∧ cut.m0 = m0
  | [], _, _, _, _, _, _, h => by cases h
  | c :: r, i, n0, m0, p, j, cut, h => by
    have step : (j, cut) ∈ findCuts r (i + 1) n0 m0 p → i ≤ j ∧ (c :: r)[j - i]? = some cut ∧ cut.path = p ∧ cut.n0 = n0 ∧ cut.m0 = m0 := by
      intro h
      obtain ⟨h1, h2, h3⟩ := findCuts_at h
      refine ⟨by omega, ?_, h3⟩
      rw [show j - i = (j - (i + 1)) + 1 by omega]
      simpa using h2
    simp only [findCuts] at h
    split at h
    · rename_i e
      rcases List.mem_cons.1 h with h | h
      · cases h
        simp only [Bool.and_eq_true] at e
        exact ⟨Nat.le_refl _, by simp, eq_of_beq e.1.1, Nat.eq_of_beq_eq_true e.1.2, Nat.eq_of_beq_eq_true e.2⟩
      · exact step h
    · exact step h
section
variable {L : Lay}
/-- what a piece comes to, the machine comes to -/
def PieceOk (L : Lay) (n : Nat) : Prop := ∀ f d, L.fns f = some d → ∀ k cut, d.cuts[k]? = some cut → ∀ vals (Q : Out → Prop), (∃ o, L.evalN n f k vals = some o ∧ Q o) →
  AtH L.c cut.n0 cut.m0 d.code (fun ex fr S => ∃ p, EndsT L.c L.pre d.fn cut.n0 cut.m0 p ex fr S ∧ Q p) n cut.path (cut.sh.fr vals) (cut.sh.st vals)
theorem spec_ok (hL : L.Fits) {n : Nat} (hp : PieceOk L n) {f : FuncId} {d : FnD} (hd : L.fns f = some d) : SpecSound L.c f (Lay.specOf (L.evalN n) f d) := by
  obtain ⟨h1, h2⟩ := hL.fns f d hd
  refine fn_soundT (pre := L.pre) hL.hm hL.hname h1 h2 fun args S K Kp h => ?_
  obtain ⟨o, h6, h7⟩ := resOf_wp h
  have h8 := (Tree.wp_run (K := fun o => outTo o K Kp)).2 ⟨o, h6, h7⟩
  obtain ⟨i, cut, hin, vals, hw, hl⟩ := jumps_w (c := L.c) h8
  obtain ⟨_, hc, h4, e1, e2⟩ := findCuts_at hin
  have hAt := hp f d hd i cut hc vals (fun o => outTo o K Kp) hl
  rw [e1, e2] at hAt
  have := (AtH.wkn hw hAt).code
  rw [h4] at this
  exact this
theorem tab_ok (hL : L.Fits) {n : Nat} (hp : PieceOk L n) : TabSound L.c (L.tab (L.evalN n)) := by
  intro f sp h
  unfold Lay.tab at h
  split at h
  · rename_i s he; cases h; exact hL.ext f _ he
  · split at h
    · rename_i d hd; cases h; exact spec_ok hL hp hd
    · cases h
theorem piece_ok (hL : L.Fits) : ∀ n, PieceOk L n
  | 0 => fun f d hd k cut hc vals Q h => by
    obtain ⟨o, h, _⟩ := h
    cases h
  | n + 1 => fun f d hd k cut hc vals Q h => by
    have ih := piece_ok hL n
    have ht := tab_ok hL ih
    obtain ⟨o, ho, hQ⟩ := h
    simp only [Lay.evalN, hd] at ho
    have hw := Tree.wp_run.2 ⟨o, ho, hQ⟩
    unfold Lay.tree at hw
    rw [hc] at hw
    simp only at hw
    have hfin : ∀ ex fr S, (endT L.c L.pre (callOf (L.tab (L.evalN n))) L.ct d.lv d.fn cut.n0 cut.m0 ex fr S).wp (L.evalN n) f Q → ∃ p, EndsT L.c L.pre d.fn cut.n0 cut.m0 p ex fr S ∧ Q p := by
      intro ex fr S h
      obtain ⟨p, h1, h2⟩ := endT_ends rfl L.ct_ok h
      exact ⟨p, ⟨_, ht, h1⟩, h2⟩
    have hj : ∀ p J, d.jump cut.n0 cut.m0 p = some J → ∀ fr S, (J fr S).wp (L.evalN n) f Q → AtH L.c cut.n0 cut.m0 d.code (fun ex fr S => ∃ p, EndsT L.c L.pre d.fn cut.n0 cut.m0 p ex fr S ∧ Q p) n p fr S := by
      intro p J hJ fr S h
      unfold FnD.jump at hJ
      split at hJ
      · cases hJ
      · cases hJ
        obtain ⟨i, c1, hin, vals', hwk, hl⟩ := jumps_w (c := L.c) h
        obtain ⟨_, g2, g3, g4, g5⟩ := findCuts_at hin
        have := ih f d hd i c1 g2 vals' Q hl
        rw [g3, g4, g5] at this
        exact AtH.wkn hwk this
    have hcont := contT_sound (c := L.c) (n0 := cut.n0) (m0 := cut.m0) (e := L.env (callOf (L.tab (L.evalN n))) f cut.n0 cut.m0) (g := ⟨L.ct, d.jump cut.n0 cut.m0⟩) rfl rfl rfl (L.ct_ok) hL.hm ht (root := d.code) (Qf := fun ex fr S => ∃ p, EndsT L.c L.pre d.fn cut.n0 cut.m0 p ex fr S ∧ Q p) (N := n) hj hfin
    have hU := codeU_sound (c := L.c) (n0 := cut.n0) (m0 := cut.m0) (e := L.env (callOf (L.tab (L.evalN n))) f cut.n0 cut.m0) (g := ⟨L.ct, d.jump cut.n0 cut.m0⟩) rfl rfl rfl (L.ct_ok) hL.hm ht (fin := endT L.c L.pre (callOf (L.tab (L.evalN n))) L.ct d.lv d.fn cut.n0 cut.m0) hj
    generalize L.env (callOf (L.tab (L.evalN n))) f cut.n0 cut.m0 = e at hw hcont hU
    generalize endT L.c L.pre (callOf (L.tab (L.evalN n))) L.ct d.lv d.fn cut.n0 cut.m0 = fin at hw hcont hU
    generalize (fun ex fr S => ∃ p, EndsT L.c L.pre d.fn cut.n0 cut.m0 p ex fr S ∧ Q p) = Qf at hj hcont hU ⊢
    unfold AtH
    split
    · rename_i body hs
      rw [hs] at hw
      -- one round, then the loop again
      have e0 : e.contT ⟨L.ct, d.jump cut.n0 cut.m0⟩ d.code fin (0 :: cut.path) = fun ex fr S => match ex with
          | .normal => match d.jump cut.n0 cut.m0 cut.path with
            | some J => J fr S
            | none => .fail
          | ex => e.contT ⟨L.ct, d.jump cut.n0 cut.m0⟩ d.code fin cut.path ex fr S := by simp only [Env0.contT, hs] <;> rfl
      have k0 : contH L.c cut.n0 cut.m0 d.code Qf n (0 :: cut.path) = fun ex fr S => match ex with
          | .normal => RoundsH L.c cut.n0 cut.m0 body n fr S (contH L.c cut.n0 cut.m0 d.code Qf n cut.path)
          | ex => contH L.c cut.n0 cut.m0 d.code Qf n cut.path ex fr S := by simp only [contH, hs] <;> rfl
      have hb : CodeH L.c cut.n0 cut.m0 body (cut.sh.fr vals) (cut.sh.st vals) (contH L.c cut.n0 cut.m0 d.code Qf n (0 :: cut.path)) := by
        have hw2 : (GenT.hk ⟨L.ct, d.jump cut.n0 cut.m0⟩ (0 :: cut.path) (e.codeU ⟨L.ct, d.jump cut.n0 cut.m0⟩ (0 :: cut.path) body) (cut.sh.fr vals) (cut.sh.st vals)
            (e.contT ⟨L.ct, d.jump cut.n0 cut.m0⟩ d.code fin (0 :: cut.path))).wp (L.evalN n) f Q := by
          rw [e0]; exact hw
        unfold GenT.hk at hw2
        split at hw2
        · rename_i J hJ
          have := (hj (0 :: cut.path) J hJ _ _ hw2).code
          simpa [subR, hs] using this
        · exact hU body (0 :: cut.path) (by simp [subR, hs]) (hcont (0 :: cut.path)) _ _ hw2
      rw [k0] at hb
      exact RoundsH.mono (Nat.le_refl _) (RoundsH.succ hb) (contH_more cut.path)
    · exact (hU _ cut.path rfl (hcont cut.path) _ _ hw).mono (contH_more cut.path)
/-- WHAT A FUNCTION COMES TO, as a contract -/
theorem spec_sound (hL : L.Fits) {f : FuncId} {d : FnD} (hd : L.fns f = some d) (n : Nat) : SpecSound L.c f (Lay.specOf (L.evalN n) f d) := spec_ok hL (piece_ok hL n) hd
/-- a run of a function, out of the law's part -/
theorem run_spec {f : FuncId} {d : FnD} {args : List SV} {S : St} {o : Out} (h : (d.begin .jump args S).wp L.ev f (fun o' => o' = o)) : ∃ n, ((Lay.specOf (L.evalN n) f d).res args S).is o := by
  obtain ⟨o', h1, rfl⟩ := Tree.wp_run.1 h
  obtain ⟨N, hN⟩ := Tree.run_lim (V := L.evalN) (fun f k vs o h => Lay.ev_some h) h1
  refine ⟨N, resOf_of (hN N (Nat.le_refl _)) ?_⟩
  unfold outTo
  obtain ⟨o, S'⟩ := o'
  cases o <;> rfl
end
end Go.Ab
end
section
/- THE LAW's PART: what trees come to, in plain words. -/
namespace Go.Ab
section
variable {L : Lay} {f : FuncId} {K : Out → Prop}
theorem tw_fail : (Tree.fail).wp L.ev f K ↔ False := Iff.rfl
theorem tw_done {o : Out} : (Tree.done o).wp L.ev f K ↔ K o := Iff.rfl
theorem tw_jump {k : Nat} {vs : List AV} : (Tree.jump k vs).wp L.ev f K ↔ L.Wp f k vs K := Iff.rfl
theorem tw_need {p : Prop} {t : Tree} : (Tree.need p t).wp L.ev f K ↔ p ∧ t.wp L.ev f K := Iff.rfl
theorem tw_needR {α : Type} {x : α} {t : Tree} : (Tree.need (x = x) t).wp L.ev f K ↔ t.wp L.ev f K := ⟨fun h => h.2, fun h => ⟨rfl, h⟩⟩
theorem tw_bind {α : Type} {o : Option α} {k : α → Tree} : (Tree.bind o k).wp L.ev f K ↔ ∃ x, o = some x ∧ (k x).wp L.ev f K := Iff.rfl
theorem tw_bindS {α : Type} {x : α} {k : α → Tree} : (Tree.bind (some x) k).wp L.ev f K ↔ (k x).wp L.ev f K :=
  ⟨fun ⟨_, h1, h2⟩ => by cases h1; exact h2, fun h => ⟨x, rfl, h⟩⟩
theorem tw_nm {α : Type} {e : α} {k : α → Tree} : (Tree.nm e k).wp L.ev f K ↔ (k e).wp L.ev f K := tw_bindS
theorem tw_ite {b : Bool} {A B : Tree} : (Tree.ite b A B).wp L.ev f K ↔ if b = true then A.wp L.ev f K else B.wp L.ev f K := by
  cases b <;> exact Iff.rfl
theorem tw_iteT {A B : Tree} : (Tree.ite true A B).wp L.ev f K ↔ A.wp L.ev f K := Iff.rfl
theorem tw_iteF {A B : Tree} : (Tree.ite false A B).wp L.ev f K ↔ B.wp L.ev f K := Iff.rfl
theorem tw_callT {g : FuncId} {i : Nat} {vs : List AV} {k : Out → Tree} : (Tree.call g i vs k).wp L.ev f K ↔ L.Wp g i vs fun o => (k o).wp L.ev f K := Iff.rfl
theorem tw_opnS {ks : List TyK} {vs : List AV} {g : Cur ks} : (Tree.opn ks (some vs) g).wp L.ev f K ↔ (openC ks vs g).wp L.ev f K := tw_bindS
theorem Wp_mono {k : Nat} {vs : List AV} {K' : Out → Prop} (h : L.Wp f k vs K) (hk : ∀ o, K o → K' o) : L.Wp f k vs K' := by
  obtain ⟨o, h1, h2⟩ := h
  exact ⟨o, h1, hk o h2⟩
end
theorem openC_nil {g : Cur []} : openC [] [] g = g := rfl
theorem openC_int {k : IntKind} {r : List TyK} {n : Int} {vs : List AV} {g : Cur (.int k :: r)} : openC (.int k :: r) (.int k n :: vs) g = openC r vs (g n) := by
  simp [openC, getI, optT]
theorem openC_bool {r : List TyK} {n : Bool} {vs : List AV} {g : Cur (.bool :: r)} : openC (.bool :: r) (.bool n :: vs) g = openC r vs (g n) := rfl
theorem openC_str {r : List TyK} {n : List UInt8} {vs : List AV} {g : Cur (.str :: r)} : openC (.str :: r) (.str n :: vs) g = openC r vs (g n) := rfl
theorem openC_sl {r : List TyK} {n : List AV} {vs : List AV} {g : Cur (.sl :: r)} : openC (.sl :: r) (.sl n :: vs) g = openC r vs (g n) := rfl
theorem openC_any {r : List TyK} {n : AV} {vs : List AV} {g : Cur (.any :: r)} : openC (.any :: r) (n :: vs) g = openC r vs (g n) := rfl
/-- a byte of a text -/
theorem byteAt_nat {s : List UInt8} {n : Nat} (h : n < s.length) : byteAt s (n : Int) = some ((s[n].toNat : Nat) : Int) := by
  unfold byteAt
  rw [if_pos (by omega), Int.toNat_natCast, List.getElem?_eq_getElem h]; rfl
theorem wrap64 {x : Int} (h1 : -9223372036854775808 ≤ x) (h2 : x ≤ 9223372036854775807) : IntKind.wrap .i64 x = x := by
  rw [IntKind.wrap_i64]; omega
/-- a text's tail -/
theorem drop_take_all {α : Type} (s : List α) (n : Nat) : List.drop n (List.take (List.length s) s) = s.drop n := by rw [List.take_length]
theorem byteAt_app (pre : List UInt8) (b : UInt8) (r : List UInt8) : byteAt (pre ++ b :: r) ((pre.length : Nat) : Int) = some ((b.toNat : Nat) : Int) := by
  rw [byteAt_nat (by simp)]; simp
theorem byteAt_app1 (pre : List UInt8) (a b : UInt8) (r : List UInt8) : byteAt (pre ++ a :: b :: r) ((pre.length + 1 : Nat) : Int) = some ((b.toNat : Nat) : Int) := by
  have := byteAt_app (pre ++ [a]) b r
  simpa using this
/-- a byte is this one -/
theorem byteEq {b : UInt8} (c : UInt8) {k : Int} (h : ((c.toNat : Nat) : Int) = k) : ((((b.toNat : Nat) : Int) == k) = true) ↔ b = c := by
  rw [beq_iff_eq, ← h]
  constructor
  · intro e; apply UInt8.toNat_inj.1; omega
  · intro e; rw [e]
theorem byteBack (b : UInt8) : UInt8.ofNat (Int.toNat ((b.toNat : Nat) : Int)) = b := by simp
end Go.Ab
end
section
/- FROM A FUNCTION's TREE TO THE ROW's WALK. -/
namespace Go.Ab
open Go.RowKit
/-- a table of functions -/
def fnsL : List (FuncId × FnD) → FuncId → Option FnD
  | [], _ => none
  | (g, d) :: r, f => match Nat.beq g f with
    | true => some d
    | false => fnsL r f
theorem fnsL_mem : ∀ {l : List (FuncId × FnD)} {f : FuncId} {d : FnD}, fnsL l f = some d → (f, d) ∈ l
  | (g, e) :: r, f, d, h => by
    simp only [fnsL] at h
    split at h
    · rename_i e2
      rw [Nat.eq_of_beq_eq_true e2] at *
      cases h
      exact List.mem_cons_self ..
    · exact List.mem_cons_of_mem _ (fnsL_mem h)
def extL : List (FuncId × Go.Ab.Spec) → FuncId → Option Go.Ab.Spec
  | [], _ => none
  | (g, d) :: r, f => match Nat.beq g f with
    | true => some d
    | false => extL r f
theorem extL_mem : ∀ {l : List (FuncId × Go.Ab.Spec)} {f : FuncId} {d : Go.Ab.Spec}, extL l f = some d → (f, d) ∈ l
  | (g, e) :: r, f, d, h => by
    simp only [extL] at h
    split at h
    · rename_i e2
      rw [Nat.eq_of_beq_eq_true e2] at *
      cases h
      exact List.mem_cons_self ..
    · exact List.mem_cons_of_mem _ (extL_mem h)
/-- the table fits, function by function -/
inductive FnsOk (P : Program) : List (FuncId × FnD) → Prop
  | nil : FnsOk P []
  | cons {f : FuncId} {d : FnD} {l : List (FuncId × FnD)} (h1 : P.funcs[f]? = some d.fn) (h2 : d.fn.body = some d.code) (h : FnsOk P l) : FnsOk P ((f, d) :: l)
theorem FnsOk.mem {P : Program} {l : List (FuncId × FnD)} (h : FnsOk P l) : ∀ {f : FuncId} {d : FnD}, (f, d) ∈ l → P.funcs[f]? = some d.fn ∧ d.fn.body = some d.code := by
  induction h with
  | nil => intro f d h; cases h
  | cons h1 h2 _ ih =>
    intro f d h
    rcases List.mem_cons.1 h with h | h
    · cases h; exact ⟨h1, h2⟩
    · exact ih h
inductive ExtsOk (c : Ctx) : List (FuncId × Go.Ab.Spec) → Prop
  | nil : ExtsOk c []
  | cons {f : FuncId} {d : Go.Ab.Spec} {l : List (FuncId × Go.Ab.Spec)} (h1 : SpecSound c f d) (h : ExtsOk c l) : ExtsOk c ((f, d) :: l)
theorem ExtsOk.mem {c : Ctx} {l : List (FuncId × Go.Ab.Spec)} (h : ExtsOk c l) : ∀ {f : FuncId} {d : Go.Ab.Spec}, (f, d) ∈ l → SpecSound c f d := by
  induction h with
  | nil => intro f d h; cases h
  | cons h1 _ ih =>
    intro f d h
    rcases List.mem_cons.1 h with h | h
    · cases h; exact h1
    · exact ih h
theorem walk_of_spec {c : Ctx} {f : FuncId} {sp : Spec} (hs : SpecSound c f sp) {args : List SV} {tg : Tag} {S' : St} (h : (sp.res args ⟨[], []⟩).is (.ret (.bool true, tg), S')) {fn : Func} {k : Code} (hf : c.P.funcs[f]? = some fn) (hb : fn.body = some k)
    (hn : (fn.name == "runtime.NumGoroutine") = false) (vs : Array Value) (W : World) (hg : GlobOk c W ∧ KnowOk c W) (ha : RArgs (ghost0 W) [] args vs) : Calls c.P f vs W fun e w' => e = .returned (.bool true) ∧ Below W.heap.size W w' := by
  rcases hs args _ _ h ⟨(· < W.heap.size), (ghost0 W).I⟩ W (ghost0 W) W vs (inv0 hg) ha with ⟨_, hc⟩ | ⟨v, w', hr, _⟩
  · refine hc.mono fun e w' ⟨G', i', _, ho⟩ => ?_
    cases e with
    | returned v =>
      have h1 : R G' (.bool true) v := ho.1
      cases h1
      exact ⟨rfl, i'.below.os, i'.below.tape, i'.below.output, i'.below.size, i'.below.block⟩
    | panicked => exact ho.elim
    | outgrown => exact ho.elim
  · rw [enter_run hf hn hb] at hr; cases hr
theorem walk_of_tree {L : Lay} (hL : L.Fits) {f : FuncId} {d : FnD} (hd : L.fns f = some d) {args : List SV} {tg : Tag} {S' : St} (h : (d.begin .jump args ⟨[], []⟩).wp L.ev f (fun o' => o' = (.ret (.bool true, tg), S')))
    (vs : Array Value) (W : World) (hg : GlobOk L.c W ∧ KnowOk L.c W) (ha : RArgs (ghost0 W) [] args vs) : Calls L.c.P f vs W fun e w' => e = .returned (.bool true) ∧ Below W.heap.size W w' := by
  obtain ⟨n, hn⟩ := run_spec h
  obtain ⟨h1, h2⟩ := hL.fns f d hd
  exact walk_of_spec (spec_sound hL hd n) hn h1 h2 (hL.hname f _ h1) vs W hg ha
/-- a function of nothing that answers true -/
def specTrue : Go.Ab.Spec := ⟨KT.no, fun args S => match args, S with
  | [], ⟨[], []⟩ => .ret (.bool true, .no) ⟨[], []⟩
  | _, _ => .fail⟩
theorem specTrue_sound {c : Ctx} {call : CallFn} (hs : CallSound c call) {f : FuncId} (h : call f [] ⟨[], []⟩ = some (.ret (.bool true, .no), ⟨[], []⟩)) : SpecSound c f specTrue := by
  intro args S p hp B w0 G w vs inv ha
  unfold specTrue at hp
  simp only at hp
  split at hp
  · cases hp
    exact hs f [] _ _ _ h B w0 G w vs inv ha
  · exact hp.elim
end Go.Ab
end
section
/- alias=Tryd -/
open Go Go.Ab
namespace Go.Proofs.YtdiphholophdcaaDoor.T
def dropT : Nat → List (List Nat)
  | 2 => [[0]]
  | 3 => [[2], [4, 8, 9, 10, 11, 12, 13], [5, 14], [3, 16, 17, 18, 19, 20, 21], [], [22, 23, 24], [26, 27], [28, 29, 30, 31], [32, 33, 34, 35, 36, 37, 38, 39, 40, 41, 42, 43, 44, 45, 46, 47, 48, 49, 50, 51, 52, 53, 54, 55, 56, 57, 58, 59, 60, 61, 62, 63, 64, 65, 66, 67, 68, 69, 70, 71], [], [7, 73, 74, 75, 76, 77, 78, 79, 80, 81, 82, 83, 84, 85, 86, 87, 88, 89, 90, 91, 92, 93, 94, 95, 96, 97, 98, 99, 100, 101, 102, 103, 104, 105], [], [3, 107, 108, 109, 110, 111, 112]]
  | 4 => [[2], [0, 3, 4, 5, 6, 7, 8, 9, 10, 11, 12, 13, 14, 15, 16, 17, 18, 19, 20, 21, 22, 23, 24]]
  | 5 => [[2], [7, 8], [10], [11, 12], [5, 13, 14, 15, 16, 17, 18], [0, 3, 4, 6, 19, 20, 21, 22, 23, 24, 25, 26, 27, 28, 29, 30, 31, 32, 33, 34, 35, 36, 37, 38, 39, 40, 41, 42]]
  | 6 => [[0, 2], [6, 7], [9], [10, 11], [12, 13, 14, 15], [3, 16], [1, 4, 5, 18, 19, 20, 21, 22, 23, 24, 25, 26, 27, 28, 29, 30, 31], [1, 4, 5, 32, 33, 34, 35, 36, 37, 38, 39, 40, 41, 42, 43, 44, 45, 46, 47, 48]]
  | 7 => [[0, 2], [7, 8, 9, 10, 11, 12, 13], [15], [16, 17], [5, 18, 19, 20, 21, 22, 23], [3, 24, 25, 26, 27, 28, 29, 30], [6, 32, 33, 34, 35, 36], [1, 4, 6, 37, 38, 39, 40, 41, 42, 43, 44, 45, 46]]
  | 8 => [[2], [10, 11], [13], [14, 15], [3, 5, 16, 17, 18, 19, 20, 21], [6, 22, 23, 24, 25, 26, 27, 28, 29], [], [31, 32], [33, 34], [36], [37, 38], [4, 40, 41], [42, 43, 44, 45], [], [], [47, 48, 49], [51, 52], [53], [54, 55, 56, 57, 58, 59, 60, 61, 62, 63], [9, 64, 65, 66, 67, 68, 69, 70, 71, 72, 73, 74, 75, 76, 77], [], [79]]
  | 9 => [[], [6, 7], [], [9], [10, 11, 12], [13, 14], [15, 16, 17, 18, 19, 20], [22, 23], [24, 25], [26, 27], [5, 28, 29, 30, 31]]
  | 10 => [[0], [2, 7, 8, 9, 10, 11], [5, 12, 13, 14, 15, 16], [1, 3, 4, 6, 17, 18, 19, 20, 21, 22, 23, 24, 25, 26, 27, 28, 29, 30, 31, 32, 33, 34, 35, 36, 37, 38, 39, 40, 41, 42, 43, 44, 45, 46]]
  | 11 => [[2], [0, 3, 4]]
  | 12 => [[2], [0, 3, 4, 5]]
  | 13 => [[2], [0, 3, 4]]
  | 14 => [[2], [0, 3, 4, 5]]
  | 15 => [[2], [0, 3, 4, 5, 6, 7, 8, 9, 10, 11, 12, 13, 14, 15, 16, 17, 18, 19, 20, 21, 22, 23, 24, 25, 26, 27, 28, 29, 30]]
  | 16 => [[2], [4, 5, 6, 7, 8, 9, 10, 11, 12, 13, 14, 15, 16, 17, 18, 19, 20, 21, 22], [], [], [24, 25, 26], [28, 29], [30, 31, 32, 33, 34, 35, 36, 37, 38, 39, 40], [], []]
  | 17 => [[2], [], [6], [0, 7], [], [12, 13], [], [5, 15, 16], [18], [19], [21], [22], [24], [14, 25], [26], [5, 27, 28], [29], [30], [3, 31]]
  | 18 => [[2], [], [], [5, 6, 7], [9, 10], [11, 12], [14, 15, 16, 17, 18, 19, 20], [22], [23, 24], [26], [27, 28], [30], [13, 31], [32, 33, 34, 35, 36, 37, 38, 39], [3, 40, 41]]
  | 19 => [[0, 2], [1, 3, 4, 5]]
  | 20 => [[0], [4, 5, 6, 7, 8], [1, 2, 3, 9, 10, 11, 12, 13, 14, 15, 16, 17, 18, 19, 20, 21, 22, 23, 24, 25, 26, 27, 28, 29, 30, 31, 32, 33, 34, 35, 36, 37, 38, 39]]
  | 21 => [[0, 6], [9, 10], [11, 12, 13, 14, 15, 16, 17, 18, 19, 20, 21, 22, 23, 24, 25, 26, 27, 28, 29, 30, 31, 32, 33, 34, 35, 36, 37, 38, 39, 40, 41, 42, 43, 44, 45, 46, 47, 48, 49, 50, 51, 52, 53], [], [1, 55, 56, 57, 58, 59, 60, 61, 62, 63, 64, 65, 66, 67, 68, 69, 70, 71, 72, 73, 74, 75, 76, 77, 78], [], [80, 81, 82, 83, 84, 85, 86, 87, 88, 89, 90, 91, 92, 93, 94, 95, 96, 97, 98, 99, 100, 101, 102, 103, 104, 105, 106, 107, 108, 109, 110, 111, 112, 113], [], [], [115, 116, 117, 118], [120, 121], [122, 123, 124, 125, 126, 127, 128, 129, 130], [], []]
  | 22 => [[0, 2], [3, 4], [], [1, 6, 7]]
  | 23 => [[0, 2], [3, 4], [], [1, 6, 7]]
  | 24 => [[0, 2], [1, 3, 4]]
  | 25 => [[0, 2], [8], [11], [12, 13, 14], [], [1, 16, 17, 18], [20], [], [22], [], [24], [25], [], [], [26, 27, 28, 29], [31, 32], [33, 34, 35, 36, 37, 38], [39, 40, 41, 42, 43, 44, 45, 46, 47, 48, 49], [51, 52, 53], [54, 55, 56, 57, 58, 59], [61, 62], [5, 63, 64, 65], [3, 66], [9, 68], [69, 70, 71, 72, 73], [74, 75, 76, 77, 78], [7, 79, 80, 81, 82, 83, 84, 85, 86, 87], [89, 90, 91], [92, 93, 94, 95, 96, 97, 98], [1, 6, 100, 101, 102, 103, 104, 105, 106], [107, 108, 109, 110, 111, 112, 113], [6, 115, 116], [117, 118, 119, 120, 121, 122], [123, 124, 125, 126], [128, 129], [130, 131], [1, 133, 134, 135, 136, 137], [6, 138, 139], []]
  | 26 => [[0, 2], [6, 7], [], [9, 10], [1, 12, 13, 14, 15, 16, 17, 18, 19], [], [], [20, 21, 22, 23], [25, 26], [27, 28, 29, 30, 31, 32], [33, 34], [5, 36, 37, 38], [39, 40, 41, 42, 43, 44], [5, 46], [3, 47]]
  | 27 => [[], [6, 7], [9], [10], [0, 11, 12, 13], [5, 14, 15]]
  | 28 => [[0, 2], [], [], [7, 8, 9, 10], [12, 13], [14, 15, 16, 17, 18, 19], [20, 21, 22, 23, 24, 25], [6, 26, 27, 28, 29, 30, 31, 32, 33, 34, 35, 36, 37, 38, 39, 40, 41, 42, 43, 44, 45, 46, 47, 48], [50, 51], [52, 53], [5, 55], [3, 56]]
  | 29 => [[0, 1, 4], [6, 7, 8, 9, 10, 11, 12, 13, 14, 15, 16, 17, 18, 19, 20, 21, 22, 23, 24, 25, 26, 27, 28, 29, 30, 31, 32, 33, 34, 35, 36, 37, 38, 39], [], [], [41, 42, 43, 44], [46, 47], [48, 49, 50, 51, 52, 53, 54, 55, 56, 57, 58], [], []]
  | 30 => [[2], [], [0, 6], [], [11, 12], [13, 14], [16], [5, 17, 18], [19], [3, 20]]
  | 31 => [[6], [7], [9, 10, 11, 12, 13], [5, 14], [3, 16], [0, 1, 2, 4, 17, 18, 19, 20]]
  | 32 => [[3, 4, 5, 6, 7, 8, 9, 10, 11], [13, 14, 15, 16, 17, 18, 19, 20, 21], [23, 24, 25, 26, 27, 28], [29, 30, 31, 32, 33, 34, 35], [37, 38, 39, 40, 41, 42, 43, 44, 45, 46], [47, 48, 49, 50, 51, 52, 53], [2, 55, 56], [57, 58, 59, 60, 61, 62, 63, 64, 65, 66, 67, 68, 69, 70, 71, 72, 73, 74]]
  | 33 => [[5, 6, 7, 8, 9, 10, 11, 12, 13], [14, 15], [0, 16, 17], [19, 20], [0, 21, 22], [24, 25], [0, 26, 27], [29, 30, 31, 32, 33, 34, 35, 36, 37, 38, 39, 40, 41, 42, 43, 44], [2, 45, 46], [0, 4, 47, 48, 49, 50, 51], [53, 54], [0, 55, 56], [3, 58, 59, 60, 61, 62, 63], [0, 64, 65]]
  | 34 => [[8, 9, 10, 11, 12], [14, 15], [1, 2, 16, 17, 18, 19, 20, 21, 22, 23, 24, 25, 26, 27, 28, 29, 30, 31], [0, 3, 32, 33, 34, 35, 36, 37, 38, 39]]
  | 35 => [[4], [0, 1, 5, 6, 7, 8, 9, 10, 11, 12, 13]]
  | 36 => [[4], [], [6, 7, 8], [10, 11], [12, 13, 14, 15, 16], [], []]
  | 37 => [[2], [0, 3, 4, 5, 6, 7, 8, 9, 10, 11, 12, 13, 14, 15, 16, 17, 18, 19, 20]]
  | 38 => [[4], [], [6, 7, 8, 9, 10, 11, 12, 13, 14, 15], [17, 18], [0, 5, 19, 20, 21]]
  | 39 => [[2], [0, 3, 4, 5, 6, 7, 8]]
  | 40 => [[2], [0, 3, 4, 5, 6, 7, 8]]
  | 41 => [[2], [0, 3, 4, 5, 6, 7, 8, 9, 10, 11, 12, 13, 14, 15, 16, 17, 18, 19, 20]]
  | 42 => [[4], [5, 6], [0, 1, 7, 8, 9, 10, 11, 12, 13, 14, 15, 16], []]
  | 43 => [[4, 5], [6, 7], [0, 8, 9, 10, 11, 12, 13, 14, 15, 16], [1, 17, 18]]
  | 44 => [[2], [0, 3, 4, 5, 6, 7, 8, 9, 10, 11, 12, 13]]
  | 45 => [[0, 6], [], [], [9, 10, 11, 12, 13, 14, 15, 16, 17, 18, 19, 20, 21], [23, 24], [25, 26, 27, 28, 29, 30, 31, 32, 33, 34, 35, 36, 37], [1, 38], [2, 40, 41], [7, 42]]
  | 46 => [[0, 2, 6], [7, 8, 9, 10, 11, 12, 13, 14, 15, 16, 17, 18, 19, 20, 21, 22, 23, 24, 25, 26, 27, 28, 29, 30, 31, 32, 33], [], [35], [], [38], [1, 3, 39, 40, 41, 42, 43, 44, 45, 46], [48], [49], [50], [3, 51, 52, 53, 54], [56], [57], [1, 58, 59, 60, 61, 62, 63, 64, 65, 66], [], [36, 69], [70, 71, 72, 73, 74, 75, 76, 77, 78, 79, 80, 81, 82, 83, 84, 85, 86, 87, 88, 89, 90, 91, 92, 93, 94, 95, 96, 97, 98, 99], [], [3, 5, 101, 102, 103, 104, 105]]
  | 47 => [[0, 2], [6], [9], [10, 11, 12, 13], [], [1, 15, 16, 17], [19], [], [21], [], [7, 23], [1, 24, 25, 26, 27, 28, 29, 30, 31, 32, 33, 34, 35], [], [36], [], [41, 42], [43, 44], [5, 46, 47, 48, 49, 50, 51], [5, 52, 53, 54, 55, 56], [57], [1, 58, 59], [3, 61, 62], [3, 63, 64]]
  | 48 => [[0, 2], [], [8], [11], [], [13], [1, 14, 15, 16, 17, 18, 19, 20, 21], [23], [1, 24], [], [29, 30], [5, 31, 32, 33, 34], [35], [9, 37], [38, 39, 40, 41, 42], [1, 43], [], [48, 49], [7, 50, 51, 52, 53], [54], [3, 55]]
  | 49 => [[], [1]]
  | 50 => [[0, 2], [7, 8, 9], [1, 10, 11, 12], [], [14, 15, 16], [], [17], [19, 20], [21, 22, 23, 24, 25], [27, 28, 29, 30, 31, 32, 33, 34, 35, 36, 37, 38, 39, 40, 41, 42, 43], [45, 46, 47], [48, 49, 50, 51, 52], [4, 53, 54, 55, 56]]
  | 51 => [[2], [3], [0, 5, 6, 7, 8, 9], [0, 10, 11, 12, 13, 14, 15, 16]]
  | 52 => [[6], [7], [9, 10, 11, 12, 13], [5, 14], [3, 16], [0, 1, 2, 4, 17, 18, 19, 20, 21]]
  | 53 => [[], [6, 7, 8, 9], [10], [12, 13, 14, 15, 16, 17], [5, 18, 19]]
  | 54 => [[4], [0, 1, 5, 6, 7]]
  | 55 => [[4], [0, 1, 5, 6, 7]]
  | 56 => [[2], [0, 3, 4]]
  | 57 => [[4, 5, 6, 7, 8, 9, 10, 11, 12, 13], [14, 15, 16, 17, 18, 19, 20], [0, 2, 21, 22, 23, 24, 25], [27, 28, 29], [0, 30, 31], [33, 34], [0, 2, 35, 36, 37, 38, 39], [41, 42], [0, 2, 43, 44, 45, 46, 47], [3, 49, 50, 51, 52, 53, 54, 55, 56, 57, 58, 59, 60, 61, 62, 63, 64], [0, 2, 65, 66, 67, 68, 69]]
  | 58 => [[2], [0, 3, 4, 5, 6, 7, 8]]
  | 59 => [[2], [4, 5, 6], [7, 8, 9, 10, 11, 12, 13, 14, 15], [17, 18], [19, 20, 21, 22, 23, 24, 25], [0, 3, 26, 27, 28]]
  | 60 => [[], [5, 6, 7, 8, 9], [10, 11, 12, 13, 14, 15], [17, 18], [19, 20, 21, 22, 23, 24], [4, 25, 26], [28, 29], [30, 31], [33, 34], [0, 2, 3, 35, 36, 37, 38, 39, 40, 41, 42, 43, 44], [46, 47, 48, 49, 50, 51, 52, 53, 54, 55, 56, 57], [58, 59], [60, 61, 62, 63, 64, 65, 66, 67], [68, 69, 70, 71, 72, 73], [75, 76], [0, 77, 78]]
  | 61 => [[2], [4, 5, 6, 7, 8], [], [0, 10, 11, 12, 13, 14, 15, 16, 17, 18, 19, 20, 21], [22], [25], [26], [27], [28], [], [23, 30], [3, 31, 32, 33, 34], []]
  | 62 => [[], [], [6, 7, 8, 9, 10], [11, 12, 13, 14, 15, 16], [18, 19], [20, 21, 22, 23, 24, 25], [27, 28], [29, 30], [32, 33, 34, 35, 36, 37, 38, 39, 40, 41, 42, 43, 44, 45, 46, 47, 48, 49, 50, 51, 52, 53], [54, 55], [56, 57, 58, 59, 60, 61], [63], [64, 65, 66, 67, 68, 69], [71, 72, 73, 74, 75, 76], [77, 78], [79, 80, 81, 82, 83, 84], [86, 87], [89, 90, 91, 92, 93, 94, 95, 96, 97, 98, 99], [], [101, 102, 103, 104, 105, 106], [0, 2, 4, 107, 108, 109, 110, 111, 112, 113, 114, 115, 116], [5, 117, 118], [0, 119, 120]]
  | 63 => [[3, 4, 5, 6, 7, 8, 9, 10, 11], [12, 13, 14, 15, 16, 17, 18, 19, 20, 21, 22, 23, 24], [0, 2, 26, 27, 28, 29], [30, 31, 32], [34, 35], [0, 2, 36, 37, 38, 39]]
  | 64 => [[0, 1, 4, 5, 6, 7, 8, 9, 10]]
  | 65 => [[4], [0, 1, 5, 6, 7, 8]]
  | 66 => [[], [0, 7, 8, 9, 10, 11, 12, 13], []]
  | 67 => [[4], [0, 1, 5, 6, 7, 8]]
  | 68 => [[0, 4], [1, 2, 3, 5, 6, 7, 8, 9, 10, 11]]
  | 69 => [[0], [1, 3, 4]]
  | 70 => [[0, 2], [], [5], [6, 7], [9], [10, 11], [], [], [14], [15, 16, 17, 18], [20, 21, 22], [24], [4, 25, 26, 27], [28], [29], [3, 30]]
  | 71 => [[0, 4], [1, 5, 6, 7], [2, 9, 10, 11, 12], [2, 13, 14]]
  | 72 => [[4], [6, 7, 8, 9, 10, 11], [], [13, 14, 15, 16, 17, 18], [], [20, 21, 22, 23, 24, 25], [], [27, 28], [0, 29, 30, 31, 32], [34, 35, 36], [0, 37, 38, 39, 40], [0, 1, 41, 42, 43, 44, 45, 46, 47, 48]]
  | 73 => [[4], [11], [14], [], [12, 16], [0, 17, 18, 19], [], [20, 21], [23, 24, 25, 26, 27, 28], [30], [31, 32, 33, 34, 35, 36, 37, 38], [], [], [43, 44], [45, 46, 47, 48], [50], [7, 51, 52, 53, 54], [55], [], [5, 56, 57], [58, 59, 60, 61], [0, 62], [], [67, 68], [69, 70], [10, 71, 72], [73], [8, 74]]
  | 74 => [[0], [5], [], [6], [8, 9], [10, 11, 12, 13, 14, 15, 16, 17, 18, 19, 20, 21], [3, 22]]
  | 75 => [[], [], [8, 9, 10, 11, 12], [6, 7, 13, 14, 15, 16, 17, 18, 19, 20, 21, 22, 23, 24, 25], [5, 27, 28], [29, 30, 31, 32, 33, 34]]
  | 76 => [[4], [7, 8, 9, 10, 11], [1, 5, 12, 13, 14, 15, 16, 17], [], [0, 19, 20, 21, 22, 23, 24, 25], [6, 26]]
  | 77 => [[], [8], [11], [12], [9, 14], [1, 15, 16, 17], [], [1], [], [22, 23], [24, 25, 26], [7, 28, 29, 30, 31], [32, 33, 34, 35, 36, 37], [7, 39, 40, 41, 42], [43], [44, 45], [0, 5, 47, 48, 49], [0, 5, 50, 51, 52]]
  | 78 => [[4], [0, 1, 5, 6, 7]]
  | 79 => [[4], [0, 1, 5, 6, 7, 8, 9, 10, 11, 12, 13, 14, 15, 16, 17]]
  | 80 => [[2], [], [5], [], [7], [], [9], [10], [3, 11], [0, 12, 13, 14], [0, 15, 16, 17]]
  | 81 => [[4], [0, 1, 5, 6, 7, 8]]
  | 82 => [[2], [], [], [], [], [13, 14, 15], [17, 18], [19, 20, 21], [22, 23, 24], [7, 25, 26, 27, 28], [4, 29, 30, 31, 32, 33, 34], [8, 35], [5, 36], [0, 38, 39], [3, 40, 41], [], [11], [], [42, 43, 44, 45, 46, 47, 48, 49, 50, 51, 52], [54, 55], [56], [57, 58, 59], [61, 62, 63, 64, 65], [67, 68], [11, 69, 70, 71, 72, 73, 74, 75], [76, 77], [78, 79], [80, 81, 82, 83, 84, 85, 86, 87, 88, 89, 90], [92, 93], [94], [95, 96, 97], [0, 10, 11, 99, 100, 101, 102, 103, 104], [9, 105]]
  | 83 => [[4], [0, 1, 5, 6, 7]]
  | 85 => [[4], [6], [], [10], [11, 12, 13, 14, 15], [5, 17], [18], []]
  | 86 => [[0], [], [], [6], [3, 7, 8, 9, 10, 11, 12], [13], [1, 14]]
  | 87 => [[0, 4], [1, 2, 5, 6, 7, 8, 9, 10, 11, 12, 13]]
  | 88 => [[4], [0, 1, 5, 6, 7, 8]]
  | 89 => [[2], [0, 3, 4]]
  | 90 => [[4, 5], [6], [8], [9, 10, 11, 12, 13, 14, 15, 16, 17, 18, 19, 20], [0, 1, 22, 23, 24]]
  | 91 => [[2, 3], [4, 5, 6, 7, 8, 9, 10, 11, 12], [], [0, 14, 15, 16, 17, 18, 19, 20, 21, 22]]
  | 92 => [[], [1, 9, 10, 11], [12, 13, 14, 15], [], [5, 16], [18, 19], [21, 22], [], [24, 25], [], [27, 28], [6, 29, 30, 31, 32, 33, 34], [7, 8, 35, 36, 37, 38, 39]]
  | 94 => [[4], [6], [], [10], [11, 12, 13, 14, 15], [5, 17], [18], []]
  | 95 => [[4], [12], [], [13], [], [15, 17, 18], [8, 19, 20], [22], [7, 24, 25, 26, 27, 28, 29], [30, 31], [32], [7, 34], [35], [6, 37, 38, 39, 40, 41, 42, 43], [44, 45, 46], [5], [], [51, 52, 53], [10, 11, 54, 55, 56, 57, 58, 59, 60, 61, 62], [63], [9, 64]]
  | 96 => [[2], [3, 4], [0], [8], [9], [10], [11], [12], [13], [14], [6, 15], [], [], [0, 16, 17, 18]]
  | 97 => [[4], [14, 15], [17, 18, 19, 20, 21, 22, 23], [], [25, 26], [0, 1, 27, 28, 29, 30], [32, 33, 34, 35], [], [37, 38, 39, 40, 41, 42, 43, 44], [0, 1, 45, 46, 47], [48, 49], [50, 51], [], [52, 53, 54, 55, 56], [], [57, 58], [60, 61, 62, 63], [65, 66, 67, 68, 69, 70, 71], [72], [], [11, 74, 75, 76, 77], [78, 79, 80, 81, 82, 83, 84, 85, 86, 87, 88, 89, 90, 91, 92], [8, 94], [95, 96], [97, 98], [99, 100, 101, 102, 103, 104, 105, 106], [0, 1, 108, 109, 110, 111, 112], [113], [8, 12, 115, 116, 117], [], [118, 119, 120, 121, 122, 123, 124, 125, 126, 127, 128, 129, 130, 131], [0, 1, 133, 134, 135, 136, 137], [138], [], [8, 13, 140, 141, 142], []]
  | 98 => [[4], [6], [], [10], [11, 12, 13, 14, 15], [5, 17], [18], []]
  | 99 => [[2], [0, 3, 4]]
  | 100 => [[1, 5, 6, 7, 8, 9, 10, 11, 12, 13, 14, 15, 16, 17, 18, 19], [20, 21, 22, 23, 24, 25], [0, 4, 26, 27, 28, 29]]
  | 101 => [[], [12, 13, 14, 15], [7, 16, 17, 18, 19, 20], [], [23], [24], [25], [26], [27, 28, 29], [31], [32, 33, 34], [21, 36], [37, 38, 39, 40, 41, 42, 43, 44, 45, 46], [47], [5, 10, 49, 50, 51, 52], [0, 9, 53, 54, 55, 56], [8, 57, 58], [59, 60, 61, 62, 63, 64, 65], [], [68], [69], [5, 71, 72, 73], [1, 74, 75, 76, 77], [78, 79], [0, 81, 82, 83, 84, 85, 86], [11, 87], [89], [90, 91, 92], [94], [95], [97], [98], [66, 100], [0, 101, 102, 103], [6, 104, 105]]
  | 102 => [[4, 5], [9, 10, 11, 12, 13], [14], [15, 16, 17, 18], [20], [6, 22], [23, 24, 25, 26, 27], [7, 28, 29, 30, 31, 32, 33, 34, 35, 36, 37, 38], [0, 1, 40, 41, 42], [6, 8, 43, 44]]
  | 103 => [[4], [8, 9, 10, 11], [12, 13, 14, 15], [16, 17, 18, 19, 20, 21, 22, 23, 24, 25, 26, 27, 28, 29, 30, 31], [1, 5, 6, 33, 34, 35, 36, 37, 38], [0, 39, 40, 41, 42], [43, 44, 45, 46, 47, 48, 49, 50, 51, 52, 53], [1, 7, 55, 56, 57, 58], []]
  | 105 => [[2], [0, 3, 4, 5]]
  | 106 => [[4], [11, 12, 13, 14, 15], [16, 17], [], [], [18, 19], [21, 22], [23, 24, 25, 26, 27, 28, 29], [30, 31, 32, 33, 34, 35, 36, 37, 38], [], [40], [41, 42, 43], [45, 46], [47, 48, 49, 50, 51, 52], [53, 54, 55, 56, 57, 58, 59, 60, 61, 62], [63, 64], [65, 66, 67, 68, 69, 70, 71, 72, 73, 74, 75, 76], [7, 10, 78, 79, 80], []]
  | 107 => [[4], [10], [12, 13, 14, 15, 16], [0, 18, 19], [], [20, 21], [22], [24, 25], [26, 27], [6, 28, 29, 30, 31, 32], [0, 33], [35], [5, 7, 36, 37, 38, 39], [5, 7, 40, 41, 42, 43], [0, 1, 8, 44, 45, 46, 47, 48, 49, 50, 51, 52], [9, 53]]
  | 109 => [[1, 2, 6, 7, 8, 9]]
  | 110 => [[5, 6], [13, 14, 15, 16, 17, 18, 19, 20, 21, 22, 23, 24, 25], [27], [0, 1, 28, 29, 30, 31, 32], [33, 34], [], [36, 37, 38, 39, 40, 41, 42], [], [], [10, 43, 44, 45, 46, 47], [], [49, 50, 51, 52, 53], [54], [12, 56, 57], [11, 58, 59, 60], [8], [62, 63], [7, 9, 64, 65, 66, 67, 68, 69]]
  | 111 => [[], [0, 3, 4, 5, 6, 7]]
  | 112 => [[2], [5, 6, 7, 8, 9], [4, 10], [12, 13, 14, 15, 16, 17], [0, 18, 19, 20, 21, 22, 23, 24], [], [27], [], [25, 29], [], [3, 30]]
  | 113 => [[2, 3], [], [8], [10, 11, 12, 13, 14], [7, 15, 16, 17, 18, 19, 20, 21, 22, 23], [6, 25, 26, 27, 28, 29, 30], [31, 32, 33, 34, 35, 36, 37], [38, 39], [4, 5, 40, 41, 42, 43, 44, 45, 46]]
  | 114 => [[4], [11, 12, 13, 14, 15, 16], [18], [], [22], [5, 23, 24, 25], [26, 27, 28, 29, 30], [], [32, 33, 34, 35, 36], [1, 6, 38, 39, 40, 41, 42, 43, 44, 45, 46, 47, 48, 49, 50, 51, 52, 53, 54, 55, 56], [57], [], [], [58, 59], [60, 61], [63, 64, 65, 66, 67, 68], [69, 70, 71], [72, 73, 74, 75, 76, 77, 78, 79, 80, 81, 82, 83, 84], [1, 10, 86, 87, 88, 89, 90, 91, 92, 93, 94, 95, 96, 97, 98, 99, 100, 101, 102, 103, 104], [10, 105, 106, 107, 108, 109], [9, 111], [9, 112, 113], []]
  | 115 => [[4], [11, 12], [14], [], [18], [5, 19, 20, 21], [22, 23, 24, 25, 26], [], [28, 29, 30, 31, 32], [1, 6, 34, 35, 36, 37, 38, 39, 40, 41, 42, 43, 44, 45, 46, 47, 48, 49, 50, 51, 52], [53], [], [], [54, 55], [56, 57], [59, 60, 61, 62, 63, 64], [65, 66, 67, 68], [69, 70, 71, 72, 73, 74, 75, 76, 77], [1, 10, 79, 80, 81, 82, 83, 84, 85, 86, 87, 88, 89, 90, 91], [10, 92, 93, 94], [9, 96], [9, 97, 98], []]
  | 116 => [[2, 3], [], [], [9, 10, 11], [13, 14], [15, 16, 17, 18, 19, 20, 21], [], [0, 22, 23], [24], [26, 27], [28, 29], [31, 32, 33], [34, 35, 36], [4, 6, 37, 38]]
  | 117 => [[2], [3], [0, 5, 6, 7, 8], [0, 9, 10, 11, 12, 13, 14]]
  | 118 => [[2], [4, 5, 6], [0, 3, 7, 8, 9, 10, 11, 12, 13, 14]]
  | 119 => [[17, 18], [19], [21, 22, 23], [24, 25], [5, 26, 27, 28, 29], [7, 30, 31, 32, 33, 34, 35], [6, 36, 37, 38, 39, 40, 41], [9, 42, 43, 44, 45, 46, 47, 48, 49, 50, 51, 52, 53, 54], [8, 55, 56, 57, 58, 59, 60, 61, 62, 63, 64, 65, 66, 67], [11, 68, 69, 70, 71, 72, 73, 74, 75, 76, 77, 78, 79, 80], [10, 81, 82, 83, 84, 85, 86, 87, 88, 89, 90, 91, 92, 93], [94, 95], [1, 96, 97], [98], [100, 101], [102, 103], [13, 104, 105, 106, 107, 108, 109], [15, 110, 111, 112, 113, 114, 115, 116, 117, 118, 119, 120, 121, 122], [14, 123, 124, 125, 126, 127, 128, 129, 130, 131, 132, 133, 134, 135], [136, 137], [138], [140, 141, 142], [143, 144], [16, 145, 146, 147, 148, 149, 150, 151, 152, 153, 154, 155, 156, 157], [158, 159], [4, 160], [0, 12, 162, 163, 164, 165, 166]]
  | 120 => [[], [19, 20, 21, 22, 23, 24, 25, 26, 27], [29], [], [], [], [31, 32], [33], [35, 36, 37, 38], [39, 40], [2, 41, 42, 43], [44, 45], [47, 48], [49, 50, 51, 52, 53, 54], [55, 56, 57], [58, 59], [1, 60, 61, 62, 63], [2, 64, 65], [66, 67], [69, 70], [71, 72, 73], [1, 74, 75, 76, 77, 78, 79, 80, 81], [18, 82], [83, 84], [1, 85, 86, 87, 88], [3], [90, 91], [92, 93], [4], [0, 12, 13, 95, 96, 97, 98], [12, 13, 99, 100, 101]]
  | 121 => [[4], [0, 1, 5, 6, 7, 8, 9, 10, 11, 12, 13, 14, 15]]
  | 122 => [[3], [11], [5, 13, 14, 15, 16, 17, 18, 19, 20, 21, 22, 23, 24, 25, 26, 27], [6, 28], [30], [0, 31, 32, 33, 34, 35, 36, 37, 38, 39, 40], [4, 41, 42, 43, 44, 45], [6, 46], [48], [7, 49], [50, 51, 52, 53, 54], [9, 55], [57], [58], [59, 60, 61, 62, 63, 64, 65, 66, 67, 68, 69], [71, 72, 73, 74, 75, 76, 77], [0, 78, 79, 80, 81, 82], [9, 83], [85], [86, 87], [89], [8, 10, 90, 91, 92, 93]]
  | 123 => [[0, 1], [], [], [8], [5, 9, 10, 11, 12, 13, 14, 15, 16], [17], [2, 18]]
  | 124 => [[0], [1, 2, 3, 7, 8, 9, 10]]
  | 125 => [[2], [0, 3, 4, 5]]
  | 126 => [[], [3], [5, 6], [], [7], [9, 10], [11, 12], [13], [15, 16], [17, 18], [0, 19, 20, 21, 22, 23, 24]]
  | 127 => [[2], [0], [], []]
  | 128 => [[2], [0, 3, 4, 5, 6, 7]]
  | 129 => [[2], [0, 3, 4, 5], [0, 6, 7]]
  | 130 => [[4, 5, 6], [0, 1, 7, 8, 9, 10, 11, 12]]
  | 131 => [[3], [], [0, 7, 8], [], [9, 10, 11], [13, 14], [15, 16, 17, 18, 19, 20, 21, 22, 23], [4, 5, 24, 25, 26]]
  | 132 => [[2, 3], [5], [7, 8, 9, 10, 11, 12, 13], [14, 15, 16, 17, 18, 19, 20, 21, 22], [], [24, 25, 26, 27, 28, 29, 30], [0, 31, 32, 33, 34, 35, 36, 37, 38, 39, 40], [], [4, 42], [44], [], [41, 46], [], [47, 48, 49, 50, 51, 52, 53, 54, 55], [], [57, 58, 59, 60, 61, 62, 63], [0, 64, 65, 66, 67, 68, 69, 70, 71, 72, 73]]
  | 133 => [[0], [1, 8, 9], [10, 11, 12], [14, 15], [16, 17, 18, 19, 20, 21, 22, 23, 24], [3, 25]]
  | 134 => [[2], [3], [], [0, 5, 6, 7, 8, 9, 10, 11, 12, 13]]
  | 135 => [[2], [3], [], [0, 5, 6, 7, 8, 9, 10, 11, 12, 13]]
  | 136 => [[4, 5, 6], [8, 9, 10], [11], [0, 1, 7, 13, 14, 15, 16, 17, 18, 19, 20, 21], [0, 22]]
  | 137 => [[2], [0], [5], [], [7], [], [9], [], [11], [], [13], [], [15], [], [17], [], [19], [], [21], [], [23], [], [25], [], [3, 27], [], []]
  | _ => []
def drop (f id : Nat) : List Nat := (dropT f).getD id []
/-- of a Builder's type: the byte's -/
def bty : TypeId → Option TypeId
  | 59 => some 5
  | _ => none
/-- types whose fields grow -/
def pre : TypeId → Bool
  | 49 => true
  | _ => false
noncomputable def cx : Ctx := { P := Tryd.prog, glob := fun _ => none, drop := drop, bty := bty }
def bodyOf (fn : Func) : Code := fn.body.getD .skip
theorem hm : cx.P.follows .mixedOrders = true := by kernel_rfl
theorem names_ok : Tryd.prog.funcs.all (fun fn => !(fn.name == "runtime.NumGoroutine")) = true := by kernel_rfl
theorem hname (f : FuncId) (fn : Func) (h : cx.P.funcs[f]? = some fn) : (fn.name == "runtime.NumGoroutine") = false := by
  have h1 := Array.all_eq_true'.1 names_ok fn (Array.mem_of_getElem? h)
  simpa using h1
abbrev U : SV := (.undef, .no)
end Go.Proofs.YtdiphholophdcaaDoor.T
end
section
/- CONTRACTS THAT ARE NOT OF THE RUN: functions without a body, and strings.Builder's copyCheck. -/
namespace Go.Ab
open Go.RowKit

/-- (*strings.Builder).copyCheck: nothing that the abstract run knows of turns -/
def specCopyCheck (tB u : TypeId) : Go.Ab.Spec := ⟨KT.no, fun args S => match args, S with
  | [(.ptr 0 0, .no)], ⟨[[(.bself t 0, .no), (.buf u' s, .tok 0)]], [n]⟩ => .need (t = tB ∧ u' = u) (.ret (.tup [], .no) ⟨[[(.bself t 0, .no), (.buf u' s, .tok 0)]], [n]⟩)
  | _, _ => .fail⟩

section
variable {c : Ctx}
theorem copyCheck_sound {f : FuncId} {tB u : TypeId}
    (enter : ∀ vs w, (callFunc f vs).run c.P w = .ok (.enter f vs) w)
    (fresh : ∀ (b : Nat) (w : World), w.cell? ⟨b, 0, none⟩ = some (.pointer none) → w.shape? b = some (tB, 2) → w.frozen? ⟨b, 0, none⟩ = false →
      Calls c.P f #[.pointer (some ⟨b, 0, none⟩)] w fun e w' => e = .returned (.tuple #[]) ∧ w' = w.setCell ⟨b, 0, none⟩ (.pointer (some ⟨b, 0, none⟩)))
    (used : ∀ (b : Nat) (w : World), w.cell? ⟨b, 0, none⟩ = some (.pointer (some ⟨b, 0, none⟩)) →
      Calls c.P f #[.pointer (some ⟨b, 0, none⟩)] w fun e w' => e = .returned (.tuple #[]) ∧ w' = w) : SpecSound c f (specCopyCheck tB u) := by
  intro args S p hp B w0 G w vs inv ha
  unfold specCopyCheck at hp
  simp only at hp
  split at hp
  · rename_i t u' s n
    obtain ⟨⟨rfl, rfl⟩, hp⟩ := hp
    cases hp
    obtain ⟨hl, hr⟩ := ha
    have h0 := hr 0 (by simp) (by rw [← hl]; simp)
    have hvs : vs = #[vs[0]'(by rw [← hl]; simp)] := by
      apply Array.ext
      · exact hl.symm
      · intro i h1 h2
        have : i = 0 := by simpa using h2
        subst this; rfl
    have h1 := h0.1
    simp only [List.getElem_cons_zero] at h1
    rw [hvs]
    generalize vs[0]'(by rw [← hl]; simp) = v0 at h1
    cases h1 with
    | ptr _ _ d hφ =>
      obtain ⟨hB, us, tt, fr, hu, hus, hfr, hR⟩ := inv.blk 0 d _ rfl hφ
      have hus2 : 2 ≤ us.size := by simpa using hus
      have hc0 := hR 0 (by simp) (by omega)
      have hb0 := hc0.1
      simp only [List.getElem_cons_zero] at hb0
      have hty : G.ty d = some (t, 2) := by
        generalize us[0]'(by omega) = v1 at hb0
        cases hb0 with
        | bself0 _ _ d' h1 h2 => rw [hφ] at h1; cases h1; exact h2
        | bself _ _ d' h1 h2 => rw [hφ] at h1; cases h1; exact h2
      obtain ⟨us', fr', q1, q2, _⟩ := inv.ty d t 2 hty
      rw [hu] at q1
      cases q1
      have hcell : w.cell? ⟨d, 0, none⟩ = some (us[0]'(by omega)) := by rw [cell_of_heap hu, Array.getElem?_eq_getElem (by omega)]
      refine .inl ⟨enter _ _, ?_⟩
      generalize hv1 : us[0]'(by omega) = v1 at hb0 hcell
      cases hb0 with
      | bself0 =>
        refine (fresh d w hcell (by simp [World.shape?, hu, q2]) (frozen_of hu (hfr 0 (by simp)))).mono ?_
        rintro e w' ⟨rfl, rfl⟩
        have hw := setCells_spec d t fr [.pointer (some ⟨d, 0, none⟩)] 0 w us hu
        have e1 : w.setCells d 0 [.pointer (some ⟨d, 0, none⟩)] = w.setCell ⟨d, 0, none⟩ (.pointer (some ⟨d, 0, none⟩)) := rfl
        rw [e1] at hw
        refine ⟨G, ?_, .refl _ _, RS.no (.tup [] #[] rfl (fun i h => absurd h (by simp)))⟩
        have := inv.blkSet (b := 0) (cells' := [(.bself t 0, .no), (.buf u' s, .tok 0)]) rfl hφ hu hw (putRow_size _ _ _) rfl (inv.low 0 _ rfl) (inv.tag 0 _ rfl) (fun i h h' => by
          have e2 := putRow_get us 0 #[.pointer (some ⟨d, 0, none⟩)] i
          rw [Array.getElem?_eq_getElem h'] at e2
          match i, h, h', e2 with
          | 0, h, h', e2 =>
            rw [if_pos (by simp; omega)] at e2
            have e3 := Option.some.inj e2
            rw [e3]
            exact RS.no (.bself t 0 d hφ hty)
          | 1, h, h', e2 =>
            rw [if_neg (by simp), Array.getElem?_eq_getElem (by omega)] at e2
            rw [Option.some.inj e2]
            exact hR 1 h (by omega))
        simpa using this
      | bself _ _ d' h1 h2 =>
        rw [hφ] at h1
        cases h1
        refine (used d w hcell).mono ?_
        rintro e w' ⟨rfl, rfl⟩
        exact ⟨G, inv, .refl _ _, RS.no (.tup [] #[] rfl (fun i h => absurd h (by simp)))⟩
  · exact hp.elim

/-- internal/bytealg.IndexByteString -/
def specIndexByteString : Go.Ab.Spec := ⟨KT.no, fun args S => match args, S with
  | [(.str s, .no), (.int .u8 c, .no)], ⟨[], []⟩ => .name (Lib.indexByte s c.toNat.toUInt8) fun r => .ret (.int .i64 r, .no) ⟨[], []⟩
  | _, _ => .fail⟩
theorem indexByteString_sound {f : FuncId} {fn : Func} (hf : c.P.funcs[f]? = some fn) (hname : (fn.name == "runtime.NumGoroutine") = false) (hb : fn.body.isNone = true) (hn : Extern.findNext fn = none)
    (he : Extern.find fn = some Extern.BytealgIndexByte.indexByte) : SpecSound c f specIndexByteString := by
  intro args S p hp B w0 G w vs inv ha
  unfold specIndexByteString at hp
  simp only at hp
  split at hp
  · rename_i s n
    have hp := hp _ rfl
    cases hp
    obtain ⟨hl, hr⟩ := ha
    have h0 := (hr 0 (by simp) (by rw [← hl]; simp)).1
    have h1 := (hr 1 (by simp) (by rw [← hl]; simp)).1
    have hvs : vs = #[vs[0]'(by rw [← hl]; simp), vs[1]'(by rw [← hl]; simp)] := by
      apply Array.ext
      · exact hl.symm
      · intro i a b
        have : i = 0 ∨ i = 1 := by
          have : i < 2 := by simpa using b
          omega
        rcases this with rfl | rfl <;> rfl
    simp only [List.getElem_cons_zero, List.getElem_cons_succ] at h0 h1
    rw [hvs]
    generalize vs[0]'(by rw [← hl]; simp) = v0 at h0
    generalize vs[1]'(by rw [← hl]; simp) = v1 at h1
    cases h0
    cases h1
    refine .inr ⟨.int .i64 (Lib.indexByte s n.toNat.toUInt8), w, ?_, G, inv, .refl _ _, RS.no (.int _ _)⟩
    rw [run_callFunc_extern hf hname hb hn he, Lib.run_indexByteString]
    rfl
  · exact hp.elim
end
end Go.Ab
end
section
/- CONTRACTS OF THE LIBRARY's FUNCTIONS, AS THE RUN OF A CALL AND AS TREES. -/
namespace Go.Ab
open Go.RowKit

/-- a function's run, given from outside -/
abbrev ExtFn := List SV → St → Option (COut × St)
/-- it is the machine's -/
def ExtSound (c : Ctx) (f : FuncId) (g : ExtFn) : Prop := ∀ args S out S', g args S = some (out, S') → Steps1 S.H.length S S' ∧
  ∀ (B : Bd) (w0 : World) (G : Gh) (w : World) (vs : Array Value), Inv c B w0 G S w → RArgs G S.T args vs → CallTo c.P f vs w fun en w' => ∃ G', Inv c B w0 G' S' w' ∧ Grows G S.T G' S'.T ∧ OutR G' S'.T out en

section
variable {c : Ctx} {B : Bd} {w0 : World} {G : Gh} {S : St} {w : World}
theorem args_one {T : List Nat} {x : SV} {vs : Array Value} (h : RArgs G T [x] vs) : ∃ v, vs = #[v] ∧ RS G T x v := by
  obtain ⟨hl, hr⟩ := h
  refine ⟨vs[0]'(by rw [← hl]; simp), ?_, hr 0 (by simp) (by rw [← hl]; simp)⟩
  apply Array.ext
  · exact hl.symm
  · intro i h1 h2
    have : i = 0 := by simpa using h2
    subst this; rfl
theorem args_two {T : List Nat} {x y : SV} {vs : Array Value} (h : RArgs G T [x, y] vs) : ∃ v u, vs = #[v, u] ∧ RS G T x v ∧ RS G T y u := by
  obtain ⟨hl, hr⟩ := h
  refine ⟨vs[0]'(by rw [← hl]; simp), vs[1]'(by rw [← hl]; simp), ?_, hr 0 (by simp) (by rw [← hl]; simp), hr 1 (by simp) (by rw [← hl]; simp)⟩
  apply Array.ext
  · exact hl.symm
  · intro i h1 h2
    have h3 : i < 2 := by simpa using h2
    match i, h3 with
    | 0, _ => rfl
    | 1, _ => rfl
theorem args_three {T : List Nat} {x y z : SV} {vs : Array Value} (h : RArgs G T [x, y, z] vs) : ∃ v u t, vs = #[v, u, t] ∧ RS G T x v ∧ RS G T y u ∧ RS G T z t := by
  obtain ⟨hl, hr⟩ := h
  refine ⟨vs[0]'(by rw [← hl]; simp), vs[1]'(by rw [← hl]; simp), vs[2]'(by rw [← hl]; simp), ?_, hr 0 (by simp) (by rw [← hl]; simp), hr 1 (by simp) (by rw [← hl]; simp), hr 2 (by simp) (by rw [← hl]; simp)⟩
  apply Array.ext
  · exact hl.symm
  · intro i h1 h2
    have h3 : i < 3 := by simpa using h2
    match i, h3 with
    | 0, _ => rfl
    | 1, _ => rfl
    | 2, _ => rfl
theorem list_set_same {α : Type} {l : List α} {i : Nat} {x : α} (h : l[i]? = some x) : l.set i x = l := by
  apply List.ext_getElem?
  intro j
  rw [List.getElem?_set]
  split
  · rename_i e
    subst e
    split
    · exact h.symm
    · rename_i hl
      rw [List.getElem?_eq_none (by omega)]
  · rfl
/-- (*strings.Builder).copyCheck -/
def extCopyCheck (tB : TypeId) : ExtFn := fun args S => match args with
  | [(.ptr b 0, .no)] => match S.H[b]? with
    | some ((.bself t b', .no) :: _) => match Nat.beq t tB && Nat.beq b' b with
      | true => some (.ret (.tup [], .no), S)
      | false => none
    | _ => none
  | _ => none
theorem extCopyCheck_sound {f : FuncId} {tB : TypeId}
    (enter : ∀ vs w, (callFunc f vs).run c.P w = .ok (.enter f vs) w)
    (fresh : ∀ (b : Nat) (w : World), w.cell? ⟨b, 0, none⟩ = some (.pointer none) → w.shape? b = some (tB, 2) → w.frozen? ⟨b, 0, none⟩ = false →
      Calls c.P f #[.pointer (some ⟨b, 0, none⟩)] w fun e w' => e = .returned (.tuple #[]) ∧ w' = w.setCell ⟨b, 0, none⟩ (.pointer (some ⟨b, 0, none⟩)))
    (used : ∀ (b : Nat) (w : World), w.cell? ⟨b, 0, none⟩ = some (.pointer (some ⟨b, 0, none⟩)) →
      Calls c.P f #[.pointer (some ⟨b, 0, none⟩)] w fun e w' => e = .returned (.tuple #[]) ∧ w' = w) : ExtSound c f (extCopyCheck tB) := by
  intro args S out S' h
  unfold extCopyCheck at h
  split at h
  · rename_i b
    split at h
    · rename_i t b' rest hb
      split at h
      · rename_i e
        simp only [Bool.and_eq_true, Nat.beq_eq] at e
        obtain ⟨rfl, rfl⟩ := e
        cases h
        refine ⟨.refl _ _, fun B w0 G w vs inv ha => ?_⟩
        obtain ⟨v0, rfl, h0⟩ := args_one ha
        have h1 := h0.1
        cases h1 with
        | ptr _ _ d hφ =>
          obtain ⟨hB, us, tt, fr, hu, hus, hfr, hR⟩ := inv.blk b' d _ hb hφ
          have h0us : 0 < us.size := by simp at hus; omega
          have hc0 := hR 0 (by simp) h0us
          have hb0 := hc0.1
          simp only [List.getElem_cons_zero] at hb0
          have hty : G.ty d = some (t, 2) := by
            generalize us[0]'h0us = v1 at hb0
            cases hb0 with
            | bself0 _ _ d' h1 h2 => rw [hφ] at h1; cases h1; exact h2
            | bself _ _ d' h1 h2 => rw [hφ] at h1; cases h1; exact h2
          obtain ⟨us', fr', q1, q2, _⟩ := inv.ty d t 2 hty
          rw [hu] at q1
          cases q1
          have hcell : w.cell? ⟨d, 0, none⟩ = some (us[0]'h0us) := by rw [cell_of_heap hu, Array.getElem?_eq_getElem h0us]
          refine .inl ⟨enter _ _, ?_⟩
          generalize hv1 : us[0]'h0us = v1 at hb0 hcell
          cases hb0 with
          | bself0 =>
            refine (fresh d w hcell (by simp [World.shape?, hu, q2]) (frozen_of hu (hfr 0 (by simp)))).mono ?_
            rintro e w' ⟨rfl, rfl⟩
            have hw := setCells_spec d t fr [.pointer (some ⟨d, 0, none⟩)] 0 w us hu
            have e1 : w.setCells d 0 [.pointer (some ⟨d, 0, none⟩)] = w.setCell ⟨d, 0, none⟩ (.pointer (some ⟨d, 0, none⟩)) := rfl
            rw [e1] at hw
            refine ⟨G, ?_, .refl _ _, RS.no (.tup [] #[] rfl (fun i h => absurd h (by simp)))⟩
            have := inv.blkSet (b := b') (cells' := (.bself t b', .no) :: rest) hb hφ hu hw (putRow_size _ _ _) rfl (inv.low b' _ hb) (inv.tag b' _ hb) (fun i h h' => by
              have e2 := putRow_get us 0 #[.pointer (some ⟨d, 0, none⟩)] i
              rw [Array.getElem?_eq_getElem h'] at e2
              match i, h, h', e2 with
              | 0, h, h', e2 =>
                rw [if_pos (by simp; omega)] at e2
                have e3 := Option.some.inj e2
                rw [e3]
                exact RS.no (.bself t b' d hφ hty)
              | i + 1, h, h', e2 =>
                have hi : i + 1 < us.size := by simp only [List.length_cons] at hus h; omega
                rw [if_neg (by simp), Array.getElem?_eq_getElem hi] at e2
                rw [Option.some.inj e2]
                exact hR (i + 1) h hi)
            rwa [list_set_same hb] at this
          | bself _ _ d' h1 h2 =>
            rw [hφ] at h1
            cases h1
            refine (used d w hcell).mono ?_
            rintro e w' ⟨rfl, rfl⟩
            exact ⟨G, inv, .refl _ _, RS.no (.tup [] #[] rfl (fun i h => absurd h (by simp)))⟩
      · cases h
    · cases h
  · cases h
/-- internal/bytealg.IndexByteString -/
def extIndexByteString : ExtFn := fun args S => match args with
  | [(.str s, .no), (.int .u8 c, .no)] => some (.ret (.int .i64 (Lib.indexByte s c.toNat.toUInt8), .no), S)
  | _ => none
theorem extIndexByteString_sound {f : FuncId} {fn : Func} (hf : c.P.funcs[f]? = some fn) (hname : (fn.name == "runtime.NumGoroutine") = false) (hb : fn.body.isNone = true) (hn : Extern.findNext fn = none)
    (he : Extern.find fn = some Extern.BytealgIndexByte.indexByte) : ExtSound c f extIndexByteString := by
  intro args S out S' h
  unfold extIndexByteString at h
  split at h
  · rename_i s n
    cases h
    refine ⟨.refl _ _, fun B w0 G w vs inv ha => ?_⟩
    obtain ⟨v0, v1, rfl, h0, h1⟩ := args_two ha
    have h0 := h0.1
    have h1 := h1.1
    cases h0
    cases h1
    refine .inr ⟨.int .i64 (Lib.indexByte s n.toNat.toUInt8), w, ?_, G, inv, .refl _ _, RS.no (.int _ _)⟩
    rw [run_callFunc_extern hf hname hb hn he, Lib.run_indexByteString]
    rfl
  · cases h
/-- strings.Contains -/
def extContains : ExtFn := fun args S => match args with
  | [(.str s, .no), (.str t, .no)] => match Nat.blt s.length 4294967281 with
    | true => some (.ret (.bool (Lib.contains s t), .no), S)
    | false => none
  | _ => none
theorem extContains_sound {f : FuncId} {g : Nat} (enter : ∀ vs w, (callFunc f vs).run c.P w = .ok (.enter f vs) w) (hk : ∀ I ty, c.know I ty → ∃ m, I g 0 = some (.int .i64 m))
    (hC : ∀ (s sub : ByteArray) (m : Int) (w : World), s.size < 4294967281 → w.cell? ⟨g, 0, none⟩ = some (.int .i64 m) →
      Calls c.P f #[.string s, .string sub] w fun e w' => e = .returned (.bool (Lib.contains s.data.toList sub.data.toList)) ∧ w' = w) : ExtSound c f extContains := by
  intro args S out S' h
  unfold extContains at h
  split at h
  · rename_i s t
    split at h
    · rename_i hl
      cases h
      refine ⟨.refl _ _, fun B w0 G w vs inv ha => .inl ⟨enter _ _, ?_⟩⟩
      obtain ⟨v0, v1, rfl, h0, h1⟩ := args_two ha
      have h0 := h0.1
      have h1 := h1.1
      cases h0
      cases h1
      obtain ⟨m, hm⟩ := hk _ _ (inv.know G.I G.ty (fun _ _ _ h => h) (fun _ _ h => h))
      refine (hC ⟨⟨s⟩⟩ ⟨⟨t⟩⟩ m w (by rw [Nat.blt_eq] at hl; exact hl) (inv.imm _ _ _ hm).1).mono ?_
      rintro e w' ⟨rfl, rfl⟩
      exact ⟨G, inv, .refl _ _, RS.no (.bool _)⟩
    · cases h
  · cases h
/-- strings.Fields -/
def extFields : ExtFn := fun args S => match args with
  | [(.str s, .no)] => match Nat.blt s.length 4294967281 && s.all fun b => Nat.blt b.toNat 128 with
    | true => some (.ret (.sl ((Lib.fields s).map AV.str), .no), S)
    | false => none
  | _ => none
theorem fl_strs : ∀ (l : List (List UInt8)), fl (l.map AV.str) = l.map AV.str
  | [] => rfl
  | x :: l => by
    show (AV.str x).cells ++ fl (l.map AV.str) = _
    rw [fl_strs l]; rfl
theorem extFields_sound {f : FuncId} {g : Nat} {te : TypeId} {name : String} {zs : List Int} (enter : ∀ vs w, (callFunc f vs).run c.P w = .ok (.enter f vs) w)
    (hk : ∀ I ty, c.know I ty → (∃ t, ty g = some (t, zs.length)) ∧ ∀ i : Nat, i < zs.length → I g i = some (.int .u8 (zs.getD i 0))) (hg : c.P.globalNamed name = some g)
    (hC : ∀ (s : ByteArray) (w : World), s.size < 4294967281 → (∀ (j : Nat) b, s.data.toList[j]? = some b → b.toNat < 128) → Lib.TabIs c.P w name .u8 zs → Calls c.P f #[.string s] w fun e w' =>
      e = .returned (.slice (some ⟨w.heap.size, 0, none⟩) (Lib.fields s.data.toList).length (Lib.fields s.data.toList).length) ∧ w' = w.alloc (.cells ((Lib.fields s.data.toList).map fun l => Value.string ⟨l.toArray⟩).toArray te)) :
    ExtSound c f extFields := by
  intro args S out S' h
  unfold extFields at h
  split at h
  · rename_i s
    split at h
    · rename_i hl
      cases h
      simp only [Bool.and_eq_true, Nat.blt_eq, List.all_eq_true] at hl
      obtain ⟨hl, ha8⟩ := hl
      refine ⟨.refl _ _, fun B w0 G w vs inv ha => .inl ⟨enter _ _, ?_⟩⟩
      obtain ⟨v0, rfl, h0⟩ := args_one ha
      have h0 := h0.1
      cases h0
      obtain ⟨⟨t, ht⟩, hm⟩ := hk _ _ (inv.know G.I G.ty (fun _ _ _ h => h) (fun _ _ h => h))
      have htab : Lib.TabIs c.P w name .u8 zs := by
        obtain ⟨us, fr, h1, h2, _⟩ := inv.ty g t _ ht
        unfold Lib.TabIs World.var?
        rw [hg]
        simp only [Option.bind_some, h1]
        congr 1
        apply Array.ext
        · simp [h2]
        · intro i hi hi'
          have hi2 : i < zs.length := by omega
          have h3 := (inv.imm _ _ _ (hm i hi2)).1
          rw [cell_of_heap h1, Array.getElem?_eq_getElem hi] at h3
          rw [Option.some.inj h3]
          simp [List.getD, List.getElem?_eq_getElem hi2]
      refine (hC ⟨⟨s⟩⟩ w hl (fun j b hb => ha8 b (List.mem_of_getElem? hb)) htab).mono ?_
      rintro e w' ⟨rfl, rfl⟩
      have hrow := inv.newRow ((Lib.fields s).map fun l => Value.string ⟨l.toArray⟩).toArray te (Lib.fields s).length (fun i => .string ⟨((Lib.fields s).getD i []).toArray⟩) (fun i hi => by
        simp [List.getElem?_eq_getElem hi, List.getD])
      refine ⟨_, hrow, grows_row inv _ _ _, RS.no ?_⟩
      have hlen : ((Lib.fields s).map AV.str).length = (Lib.fields s).length := by simp
      rw [show (Lib.fields (⟨⟨s⟩⟩ : ByteArray).data.toList).length = ((Lib.fields s).map AV.str).length by simp]
      refine .sl 1 _ _ 0 _ (fun i => .string ⟨((Lib.fields s).getD i []).toArray⟩) ?_ (Nat.le_refl _) ?_ ?_ ?_
      · intro x hx
        obtain ⟨l, _, rfl⟩ := List.mem_map.1 hx
        rfl
      · intro i hi
        rw [fl_strs, hlen] at hi
        simp [Gh.row, hi]
      · intro i hi
        have hi2 := hi
        rw [fl_strs, hlen] at hi2
        have e : (fl ((Lib.fields s).map AV.str))[i] = AV.str ((Lib.fields s).getD i []) := by
          simp [fl_strs, List.getD, List.getElem?_eq_getElem hi2]
        rw [e]
        exact .str _
      · intro i hi; rfl
    · cases h
  · cases h
/-- the run of a call where nothing of the state is reached, as a contract -/
theorem ext_of_spec {f : FuncId} {sp : Go.Ab.Spec} {g : ExtFn} (h : ExtSound c f g) (hg : ∀ args S o, (sp.res args S).is o → g args S = some o) : SpecSound c f sp := fun args S p hp B w0 G w vs inv ha => (h args S p.1 p.2 (hg args S p hp)).2 B w0 G w vs inv ha
end
end Go.Ab
end
section
/- strings.Join, AND WHATEVER LEAVES THE OLD WORLD AS IT IS. -/
namespace Go.Ab
open Go.RowKit
/-- a list's texts -/
def toStrs : List AV → List (List UInt8)
  | [] => []
  | .str s :: r => s :: toStrs r
  | _ :: r => [] :: toStrs r
def allStr : List AV → Bool
  | [] => true
  | .str _ :: r => allStr r
  | _ => false
theorem toStrs_map (l : List (List UInt8)) : toStrs (l.map AV.str) = l := by
  induction l with
  | nil => rfl
  | cons a l ih => simp [toStrs, ih]
theorem allStr_map (l : List (List UInt8)) : allStr (l.map AV.str) = true := by
  induction l with
  | nil => rfl
  | cons a l ih => simp [allStr, ih]
theorem allStr_eq : ∀ {xs : List AV}, allStr xs = true → xs = (toStrs xs).map AV.str
  | [], _ => rfl
  | .str s :: r, h => by
    have := allStr_eq (xs := r) h
    simp only [toStrs, List.map_cons]
    rw [← this]
section
variable {c : Ctx} {B : Bd} {w0 : World} {G : Gh} {S : St} {w w' : World}
/-- the world has grown, and nothing that was there has turned -/
theorem Inv.more (inv : Inv c B w0 G S w) (h : Below w.heap.size w w') : Inv c B w0 G S w' := by
  have old {d : Nat} {x : Obj} (hd : w.heap[d]? = some x) : w'.heap[d]? = some x := by
    have : d < w.heap.size := by
      rcases Nat.lt_or_ge d w.heap.size with hl | hl
      · exact hl
      · rw [Array.getElem?_eq_none hl] at hd; cases hd
    rw [h.block d this]; exact hd
  exact {
    below := inv.below.trans ⟨h.os, h.tape, h.output, h.size, fun k hk => h.block k (by
      rcases Nat.lt_or_ge k w.heap.size with hl | hl
      · exact hl
      · exact absurd hk (inv.base k hl))⟩
    base := fun d hd => inv.base d (Nat.le_trans h.size hd)
    iD := inv.iD
    lenφ := inv.lenφ
    lenO := inv.lenO
    inj := inv.inj
    low := inv.low
    tag := inv.tag
    blk := fun b d cells h1 h2 => by
      obtain ⟨hB, vs, t, fr, hv, h3, h4, h5⟩ := inv.blk b d cells h1 h2
      exact ⟨hB, vs, t, fr, old hv, h3, h4, h5⟩
    imm := fun d o v hi => by
      obtain ⟨h1, h2⟩ := inv.imm d o v hi
      refine ⟨?_, h2⟩
      have hlt : d < w.heap.size := by
        rcases Nat.lt_or_ge d w.heap.size with hl | hl
        · exact hl
        · simp [World.cell?, Array.getElem?_eq_none hl] at h1
      rw [h.cell (p := ⟨d, o, none⟩) hlt]; exact h1
    own := fun id ow ho => by
      obtain ⟨h1, h2, h3⟩ := inv.own id ow ho
      refine ⟨h1, h2, fun hl => ?_⟩
      obtain ⟨d, o, e1, e2, e3, vs, t, fr, e4, e5⟩ := h3 hl
      exact ⟨d, o, e1, e2, e3, vs, t, fr, old e4, e5⟩
    dis := inv.dis
    ty := fun d t n ht => by
      obtain ⟨vs, fr, h1, h2⟩ := inv.ty d t n ht
      exact ⟨vs, fr, old h1, h2⟩
    glob := inv.glob
    know := inv.know }
/-- strings.Join -/
def extJoin : ExtFn := fun args S => match args with
  | [(.sl xs, _), (.str sep, _)] => match allStr xs && Nat.ble xs.length 4294967296 && Nat.ble (Lib.join (toStrs xs) sep).length 281474976710656 with
    | true => some (.ret (.str (Lib.join (toStrs xs) sep), .no), S)
    | false => none
  | _ => none
theorem extJoin_sound {f : FuncId} (enter : ∀ vs w, (callFunc f vs).run c.P w = .ok (.enter f vs) w)
    (none : ∀ (a : Option Addr) (k : Nat) (sep : ByteArray) (w : World), Calls c.P f #[.slice a 0 k, .string sep] w fun e w' => e = .returned (.string ⟨#[]⟩) ∧ w' = w)
    (some' : ∀ (bk o k : Nat) (xs : List ByteArray) (sep : ByteArray) (w : World), (∀ (j : Nat) x, xs[j]? = some x → w.cell? ⟨bk, o + j, Option.none⟩ = some (.string x)) →
      bk < w.heap.size → xs.length ≤ 140737488355328 → xs.length ≤ k → (Lib.join (xs.map (·.data.toList)) sep.data.toList).length ≤ 281474976710656 →
      Calls c.P f #[.slice (some ⟨bk, o, Option.none⟩) xs.length k, .string sep] w fun e w' => e = .returned (.string ⟨(Lib.join (xs.map (·.data.toList)) sep.data.toList).toArray⟩) ∧ Below w.heap.size w w') : ExtSound c f extJoin := by
  intro args S out S' h
  unfold extJoin at h
  split at h
  · rename_i xs _ sep _
    split at h
    · rename_i e
      simp only [Bool.and_eq_true, Nat.ble_eq] at e
      obtain ⟨⟨e1, e2⟩, e3⟩ := e
      cases h
      refine ⟨.refl _ _, fun B w0 G w vs inv ha => ?_⟩
      obtain ⟨v0, v1, rfl, h0, h1⟩ := args_two ha
      have h0 := h0.1
      have h1 := h1.1
      cases h1
      refine .inl ⟨enter _ _, ?_⟩
      have hx := allStr_eq e1
      generalize hl : toStrs xs = l at hx e3
      cases h0 with
      | nils b =>
        refine (none b 0 ⟨⟨sep⟩⟩ w).mono ?_
        rintro e w' ⟨rfl, rfl⟩
        refine ⟨G, inv, .refl _ _, ?_⟩
        have : l = [] := by
          cases l with
          | nil => rfl
          | cons a l => cases hx
        subst this
        exact RS.no (.str [])
      | sl sz _ d o cap fv hs hc hi hr h1c =>
        subst hx
        cases hcs : l with
        | nil =>
          subst hcs
          refine (none (some ⟨d, o, Option.none⟩) cap ⟨⟨sep⟩⟩ w).mono ?_
          rintro e w' ⟨rfl, rfl⟩
          exact ⟨G, inv, .refl _ _, RS.no (.str [])⟩
        | cons a r =>
          have hfl := fl_strs l
          have hcell : ∀ (j : Nat) (x : ByteArray), (l.map fun s => (⟨⟨s⟩⟩ : ByteArray))[j]? = some x → w.cell? ⟨d, o + j, Option.none⟩ = some (.string x) := by
            intro j x hx
            obtain ⟨s, hs1, rfl⟩ : ∃ s, l[j]? = some s ∧ (⟨⟨s⟩⟩ : ByteArray) = x := by
              rw [List.getElem?_map] at hx
              cases hj : l[j]? with
              | none => rw [hj] at hx; cases hx
              | some s => rw [hj] at hx; exact ⟨s, rfl, Option.some.inj hx⟩
            obtain ⟨hjl, hje⟩ := List.getElem?_eq_some_iff.1 hs1
            have hlt : j < (fl (l.map AV.str)).length := by rw [hfl]; simpa using hjl
            have q1 := (inv.imm _ _ _ (hi j hlt)).1
            have q2 := hr j hlt
            have q3 : (fl (l.map AV.str))[j] = AV.str s := by simp [hfl, hje]
            rw [q3] at q2
            rw [q1]
            generalize fv j = u at q2
            cases q2
            rfl
          have hdl : d < w.heap.size := by
            have q := hcell 0 ⟨⟨a⟩⟩ (by rw [hcs]; rfl)
            rcases Nat.lt_or_ge d w.heap.size with hl | hl
            · exact hl
            · simp [World.cell?, Array.getElem?_eq_none hl] at q
          have hmm : (l.map fun s => (⟨⟨s⟩⟩ : ByteArray)).map (·.data.toList) = l := by
            rw [List.map_map]
            exact List.map_id l
          have key := some' d o cap (l.map fun s => (⟨⟨s⟩⟩ : ByteArray)) ⟨⟨sep⟩⟩ w hcell hdl (by simp at e2 ⊢; omega) (by simpa using hc) (by rw [hmm]; exact e3)
          rw [hmm, List.length_map] at key
          rw [← hcs, List.length_map]
          refine key.mono ?_
          rintro e w' ⟨rfl, hb⟩
          exact ⟨G, inv.more hb, .refl _ _, RS.no (.str _)⟩
    · cases h
  · cases h
/-- the same, as a tree -/
def specJoin : Go.Ab.Spec := ⟨KT.no, fun args S => match args with
  | [(.sl xs, _), (.str sep, _)] => .need (allStr xs = true ∧ xs.length ≤ 4294967296 ∧ (Lib.join (toStrs xs) sep).length ≤ 281474976710656) (.name (Lib.join (toStrs xs) sep) fun r => .ret (.str r, .no) S)
  | _ => .fail⟩
theorem specJoin_sound {f : FuncId} (h : ExtSound c f extJoin) : SpecSound c f specJoin := ext_of_spec h fun args S o h => by
  unfold specJoin at h
  simp only at h
  split at h
  · have h2 := h.2 _ rfl
    cases h2
    obtain ⟨⟨h1, h3, h4⟩, _⟩ := h
    simp only [extJoin, h1, Nat.ble_eq.mpr h3, Nat.ble_eq.mpr h4, Bool.and_self]
  · exact h.elim
end
end Go.Ab
end
section
open Go Go.Ab
namespace Go.Proofs.YtdiphholophdcaaDoor.T
/-- of a function that is not reached nothing is said -/
def specFail : Go.Ab.Spec := ⟨KT.no, fun _ _ => .fail⟩
theorem specFail_sound {c : Ctx} {f : FuncId} : SpecSound c f specFail := fun _ _ _ h => h.elim
end Go.Proofs.YtdiphholophdcaaDoor.T
end
section
set_option maxRecDepth 20000
open Go Go.Ab
namespace Go.Proofs.YtdiphholophdcaaDoor.T
noncomputable def c6_0 : Cut := ⟨[], 0, 0, [], ⟨spr 49 0 [(0, .agg [.int .i64, .int .u64, .int .u64, .int .u64, .int .u64, .int .i64, .int .i64, .sl] .no)], [], [], []⟩⟩
noncomputable def o6x0 : OSh := ⟨.rets [.c .bool .no], [], []⟩
noncomputable def d6 : FnD := ⟨Tryd.f6, bodyOf Tryd.f6, .no, .plain, [c6_0], [o6x0]⟩
noncomputable def c7_0 : Cut := ⟨[], 0, 0, [], ⟨spr 47 0 [(0, .agg [.int .i64, .int .u64, .int .u64, .int .u64, .int .u64, .int .i64, .int .i64, .sl] .no)], [], [], []⟩⟩
noncomputable def o7x0 : OSh := ⟨.rets [.c .bool .no], [], []⟩
noncomputable def d7 : FnD := ⟨Tryd.f7, bodyOf Tryd.f7, .no, .plain, [c7_0], [o7x0]⟩
noncomputable def c8_0 : Cut := ⟨[], 0, 0, [], ⟨spr 80 0 [(0, .c .str .no)], [], [], []⟩⟩
noncomputable def c8_1 : Cut := ⟨[0, 1, 0, 1, 1, 1, 1, 1, 1, 1, 1, 1], 0, 0, [], ⟨spr 80 0 [(0, .c .str .no), (7, .c .sl .no), (8, .c (.int .i64) .no), (12, .c .bool .no), (30, .c .bool .no), (35, .c .bool .no), (39, .c .bool .no), (46, .c .bool .no)], [], [.cells [.c (.int .i64) .no, .c (.int .u64) .no, .c (.int .u64) .no, .c (.int .u64) .no, .c (.int .u64) .no, .c (.int .i64) .no, .c (.int .i64) .no, .c .sl .no]], []⟩⟩
noncomputable def o8x0 : OSh := ⟨.rets [.c .bool .no], [], []⟩
noncomputable def d8 : FnD := ⟨Tryd.f8, bodyOf Tryd.f8, .no, .plain, [c8_0, c8_1], [o8x0]⟩
noncomputable def c19_0 : Cut := ⟨[], 0, 0, [], ⟨spr 6 0 [(0, .agg [.int .i64, .int .u64, .int .u64, .int .u64, .int .u64, .int .i64, .int .i64, .sl] .no)], [], [], []⟩⟩
noncomputable def o19x0 : OSh := ⟨.rets [.c .bool .no], [], []⟩
noncomputable def d19 : FnD := ⟨Tryd.f19, bodyOf Tryd.f19, .no, .plain, [c19_0], [o19x0]⟩
noncomputable def c20_0 : Cut := ⟨[], 0, 0, [], ⟨spr 40 0 [], [], [], []⟩⟩
noncomputable def o20x0 : OSh := ⟨.rets [.c .bool .no], [], []⟩
noncomputable def d20 : FnD := ⟨Tryd.f20, bodyOf Tryd.f20, .no, .plain, [c20_0], [o20x0]⟩
noncomputable def c21_0 : Cut := ⟨[], 0, 0, [], ⟨spr 132 0 [(0, .agg [.int .i64, .int .u64, .int .u64, .int .u64, .int .u64, .int .i64, .int .i64, .sl] .no), (1, .c (.int .i64) .no), (2, .c (.int .i64) .no)], [], [], []⟩⟩
noncomputable def c21_1 : Cut := ⟨[0, 1, 0, 1, 1], 0, 0, [], ⟨spr 132 0 [(1, .c (.int .i64) .no), (2, .c (.int .i64) .no), (3, .c (.fix (.ptr 0 0)) .no), (7, .c (.int .i64) .no), (54, .c .bool .no)], [], [.cells [.c (.int .i64) .no, .c (.int .u64) .no, .c (.int .u64) .no, .c (.int .u64) .no, .c (.int .u64) .no, .c (.int .i64) .no, .c (.int .i64) .no, .c .sl .no]], []⟩⟩
noncomputable def c21_2 : Cut := ⟨[1, 1, 0, 1, 1], 0, 0, [], ⟨spr 132 0 [(1, .c (.int .i64) .no), (2, .c (.int .i64) .no), (3, .c (.fix (.ptr 0 0)) .no), (7, .c (.int .i64) .no), (54, .c .bool .no)], [], [.cells [.c (.int .i64) .no, .c (.int .u64) .no, .c (.int .u64) .no, .c (.int .u64) .no, .c (.int .u64) .no, .c (.int .i64) .no, .c (.int .i64) .no, .c .sl .no]], []⟩⟩
noncomputable def c21_3 : Cut := ⟨[0, 1, 0, 1, 1, 1], 0, 0, [], ⟨spr 132 0 [(2, .c (.int .i64) .no), (3, .c (.fix (.ptr 0 0)) .no), (7, .c (.int .i64) .no), (54, .c .bool .no), (79, .c .bool .no)], [], [.cells [.c (.int .i64) .no, .c (.int .u64) .no, .c (.int .u64) .no, .c (.int .u64) .no, .c (.int .u64) .no, .c (.int .i64) .no, .c (.int .i64) .no, .c .sl .no]], []⟩⟩
noncomputable def c21_4 : Cut := ⟨[1, 1, 0, 1, 1, 1], 0, 0, [], ⟨spr 132 0 [(2, .c (.int .i64) .no), (3, .c (.fix (.ptr 0 0)) .no), (7, .c (.int .i64) .no), (54, .c .bool .no), (79, .c .bool .no)], [], [.cells [.c (.int .i64) .no, .c (.int .u64) .no, .c (.int .u64) .no, .c (.int .u64) .no, .c (.int .u64) .no, .c (.int .i64) .no, .c (.int .i64) .no, .c .sl .no]], []⟩⟩
noncomputable def c21_5 : Cut := ⟨[0, 1, 0, 1, 1, 1, 1], 0, 0, [], ⟨spr 132 0 [(2, .c (.int .i64) .no), (3, .c (.fix (.ptr 0 0)) .no), (7, .c (.int .i64) .no), (54, .c .bool .no), (79, .c .bool .no), (114, .c .bool .no)], [], [.cells [.c (.int .i64) .no, .c (.int .u64) .no, .c (.int .u64) .no, .c (.int .u64) .no, .c (.int .u64) .no, .c (.int .i64) .no, .c (.int .i64) .no, .c .sl .no]], []⟩⟩
noncomputable def c21_6 : Cut := ⟨[1, 1, 0, 1, 1, 1, 1], 0, 0, [], ⟨spr 132 0 [(2, .c (.int .i64) .no), (3, .c (.fix (.ptr 0 0)) .no), (7, .c (.int .i64) .no), (54, .c .bool .no), (79, .c .bool .no), (114, .c .bool .no)], [], [.cells [.c (.int .i64) .no, .c (.int .u64) .no, .c (.int .u64) .no, .c (.int .u64) .no, .c (.int .u64) .no, .c (.int .i64) .no, .c (.int .i64) .no, .c .sl .no]], []⟩⟩
noncomputable def c21_7 : Cut := ⟨[0, 1, 0, 1, 1, 1, 1, 1], 0, 0, [], ⟨spr 132 0 [(2, .c (.int .i64) .no), (3, .c (.fix (.ptr 0 0)) .no), (7, .c (.int .i64) .no), (8, .c (.int .i64) .no), (54, .c .bool .no), (79, .c .bool .no), (114, .c .bool .no)], [], [.cells [.c (.int .i64) .no, .c (.int .u64) .no, .c (.int .u64) .no, .c (.int .u64) .no, .c (.int .u64) .no, .c (.int .i64) .no, .c (.int .i64) .no, .c .sl .no]], []⟩⟩
noncomputable def o21x0 : OSh := ⟨.rets [.c .bool .no], [], []⟩
noncomputable def d21 : FnD := ⟨Tryd.f21, bodyOf Tryd.f21, .no, .plain, [c21_0, c21_1, c21_2, c21_3, c21_4, c21_5, c21_6, c21_7], [o21x0]⟩
noncomputable def c22_0 : Cut := ⟨[], 0, 0, [], ⟨spr 8 0 [(0, .agg [.int .i64, .int .u64, .int .u64, .int .u64, .int .u64, .int .i64, .int .i64, .sl] .no)], [], [], []⟩⟩
noncomputable def o22x0 : OSh := ⟨.rets [.c .str .no], [], []⟩
noncomputable def d22 : FnD := ⟨Tryd.f22, bodyOf Tryd.f22, .no, .plain, [c22_0], [o22x0]⟩
noncomputable def c23_0 : Cut := ⟨[], 0, 0, [], ⟨spr 8 0 [(0, .agg [.int .i64, .int .u64, .int .u64, .int .u64, .int .u64, .int .i64, .int .i64, .sl] .no)], [], [], []⟩⟩
noncomputable def o23x0 : OSh := ⟨.rets [.c (.int .i64) .no], [], []⟩
noncomputable def d23 : FnD := ⟨Tryd.f23, bodyOf Tryd.f23, .no, .plain, [c23_0], [o23x0]⟩
noncomputable def c24_0 : Cut := ⟨[], 0, 0, [], ⟨spr 5 0 [(0, .agg [.int .i64, .int .u64, .int .u64, .int .u64, .int .u64, .int .i64, .int .i64, .sl] .no)], [], [], []⟩⟩
noncomputable def o24x0 : OSh := ⟨.rets [.c .bool .no], [], []⟩
noncomputable def d24 : FnD := ⟨Tryd.f24, bodyOf Tryd.f24, .no, .plain, [c24_0], [o24x0]⟩
noncomputable def c25_0 : Cut := ⟨[], 0, 0, [], ⟨spr 140 0 [(0, .agg [.int .i64, .int .u64, .int .u64, .int .u64, .int .u64, .int .i64, .int .i64, .sl] .no)], [], [], []⟩⟩
noncomputable def c25_1 : Cut := ⟨[1, 1, 1, 1, 1, 1, 1, 0, 1, 0, 1], 0, 0, [], ⟨spr 140 0 [(1, .c (.fix (.ptr 0 0)) .no), (9, .c (.int .i64) .no), (10, .c .bool .no), (19, .c .bool .no), (21, .c .bool .no), (23, .c .bool .no)], [], [.cells [.c (.int .i64) .no, .c (.int .u64) .no, .c (.int .u64) .no, .c (.int .u64) .no, .c (.int .u64) .no, .c (.int .i64) .no, .c (.int .i64) .no, .c .sl .no]], []⟩⟩
noncomputable def c25_2 : Cut := ⟨[0, 1, 0, 1, 0, 1, 1, 1, 1, 1, 1, 1, 0, 1, 0, 1], 0, 0, [], ⟨spr 140 0 [(1, .c (.fix (.ptr 0 0)) .no), (3, .c .str .no), (4, .c (.int .i64) .no), (9, .c (.int .i64) .no), (10, .c .bool .no), (19, .c .bool .no), (21, .c .bool .no), (23, .c .bool .no)], [], [.cells [.c (.int .i64) .no, .c (.int .u64) .no, .c (.int .u64) .no, .c (.int .u64) .no, .c (.int .u64) .no, .c (.int .i64) .no, .c (.int .i64) .no, .c .sl .no]], []⟩⟩
noncomputable def c25_3 : Cut := ⟨[1, 1, 0, 1, 1, 1, 1, 1, 1, 1, 1, 1, 0, 1, 0, 1], 0, 0, [], ⟨spr 140 0 [(1, .c (.fix (.ptr 0 0)) .no), (6, .c .str .no), (10, .c .bool .no), (19, .c .bool .no), (21, .c .bool .no), (23, .c .bool .no), (67, .c .bool .no), (88, .c .bool .no)], [], [.cells [.c (.int .i64) .no, .c (.int .u64) .no, .c (.int .u64) .no, .c (.int .u64) .no, .c (.int .u64) .no, .c (.int .i64) .no, .c (.int .i64) .no, .c .sl .no]], []⟩⟩
noncomputable def c25_4 : Cut := ⟨[1, 1, 0, 0, 1, 0, 0, 1, 0, 1, 0, 1, 1, 1, 1, 1, 1, 1, 0, 1, 0, 1], 0, 0, [], ⟨spr 140 0 [(1, .c (.fix (.ptr 0 0)) .no), (3, .c .str .no), (4, .c (.int .i64) .no), (5, .c .str .no), (9, .c (.int .i64) .no), (10, .c .bool .no), (19, .c .bool .no), (21, .c .bool .no), (23, .c .bool .no), (30, .c .bool .no), (50, .c .bool .no)], [], [.cells [.c (.int .i64) .no, .c (.int .u64) .no, .c (.int .u64) .no, .c (.int .u64) .no, .c (.int .u64) .no, .c (.int .i64) .no, .c (.int .i64) .no, .c .sl .no]], []⟩⟩
noncomputable def o25x0 : OSh := ⟨.rets [.c .str .no], [], []⟩
noncomputable def d25 : FnD := ⟨Tryd.f25, bodyOf Tryd.f25, .no, .plain, [c25_0, c25_1, c25_2, c25_3, c25_4], [o25x0]⟩
noncomputable def c26_0 : Cut := ⟨[], 0, 0, [], ⟨spr 48 0 [(0, .agg [.int .i64, .int .u64, .int .u64, .int .u64, .int .u64, .int .i64, .int .i64, .sl] .no)], [], [], []⟩⟩
noncomputable def c26_1 : Cut := ⟨[0, 1, 0, 1, 1, 1, 1], 0, 0, [], ⟨spr 48 0 [(1, .c (.fix (.ptr 0 0)) .no), (3, .c (.int .i64) .no), (4, .c (.int .i64) .no), (8, .c .bool .no), (11, .c .bool .no)], [], [.cells [.c (.int .i64) .no, .c (.int .u64) .no, .c (.int .u64) .no, .c (.int .u64) .no, .c (.int .u64) .no, .c (.int .i64) .no, .c (.int .i64) .no, .c .sl .no]], []⟩⟩
noncomputable def o26x0 : OSh := ⟨.rets [.c (.int .i64) .no], [], []⟩
noncomputable def d26 : FnD := ⟨Tryd.f26, bodyOf Tryd.f26, .no, .plain, [c26_0, c26_1], [o26x0]⟩
noncomputable def c27_0 : Cut := ⟨[], 0, 0, [], ⟨spr 16 0 [(0, .c .str .no)], [], [], []⟩⟩
noncomputable def o27x0 : OSh := ⟨.rets [.agg [.int .i64, .int .u64, .int .u64, .int .u64, .int .u64, .int .i64, .int .i64, .sl] .no, .c (.int .i64) .no, .c (.int .i64) .no], [], []⟩
noncomputable def d27 : FnD := ⟨Tryd.f27, bodyOf Tryd.f27, .no, .plain, [c27_0], [o27x0]⟩
noncomputable def c28_0 : Cut := ⟨[], 0, 0, [], ⟨spr 57 0 [(0, .agg [.int .i64, .int .u64, .int .u64, .int .u64, .int .u64, .int .i64, .int .i64, .sl] .no)], [], [], []⟩⟩
noncomputable def c28_1 : Cut := ⟨[0, 1, 0, 1, 1], 0, 0, [], ⟨spr 57 0 [(1, .c (.fix (.ptr 0 0)) .no), (3, .c (.int .i64) .no), (4, .c (.int .i64) .no)], [], [.cells [.c (.int .i64) .no, .c (.int .u64) .no, .c (.int .u64) .no, .c (.int .u64) .no, .c (.int .u64) .no, .c (.int .i64) .no, .c (.int .i64) .no, .c .sl .no]], []⟩⟩
noncomputable def o28x0 : OSh := ⟨.rets [.c (.int .i64) .no], [], []⟩
noncomputable def d28 : FnD := ⟨Tryd.f28, bodyOf Tryd.f28, .no, .plain, [c28_0, c28_1], [o28x0]⟩
noncomputable def c29_0 : Cut := ⟨[], 0, 0, [], ⟨spr 60 0 [(0, .agg [.int .i64, .int .u64, .int .u64, .int .u64, .int .u64, .int .i64, .int .i64, .sl] .no), (1, .agg [.int .i64, .int .u64, .int .u64, .int .u64, .int .u64, .int .i64, .int .i64, .sl] .no)], [], [], []⟩⟩
noncomputable def c29_1 : Cut := ⟨[0, 1, 0, 1, 1], 0, 0, [], ⟨spr 60 0 [(2, .c (.fix (.ptr 0 0)) .no), (3, .c (.fix (.ptr 1 0)) .no), (5, .c (.int .i64) .no), (40, .c .bool .no)], [], [.cells [.c (.int .i64) .no, .c (.int .u64) .no, .c (.int .u64) .no, .c (.int .u64) .no, .c (.int .u64) .no, .c (.int .i64) .no, .c (.int .i64) .no, .c .sl .no], .cells [.c (.int .i64) .no, .c (.int .u64) .no, .c (.int .u64) .no, .c (.int .u64) .no, .c (.int .u64) .no, .c (.int .i64) .no, .c (.int .i64) .no, .c .sl .no]], []⟩⟩
noncomputable def o29x0 : OSh := ⟨.rets [.c .bool .no], [], []⟩
noncomputable def d29 : FnD := ⟨Tryd.f29, bodyOf Tryd.f29, .no, .plain, [c29_0, c29_1], [o29x0]⟩
noncomputable def c30_0 : Cut := ⟨[], 0, 0, [], ⟨spr 21 0 [(0, .c .str .no)], [], [], []⟩⟩
noncomputable def c30_1 : Cut := ⟨[0, 1, 0, 1, 1], 0, 0, [], ⟨spr 21 0 [(3, .c (.fix (.ptr 0 0)) .no), (7, .c (.slr 1 0) .no), (8, .c (.int .i64) .no), (9, .c (.int .i64) .no)], [], [.cells [.c (.fix (.bself 59 0)) .no, .c (.buf 5) (.tok 0)], .row], [.len 3]⟩⟩
noncomputable def o30x0 : OSh := ⟨.rets [.c .str .no], [], []⟩
noncomputable def d30 : FnD := ⟨Tryd.f30, bodyOf Tryd.f30, .no, .plain, [c30_0, c30_1], [o30x0]⟩
noncomputable def c42_0 : Cut := ⟨[], 1, 1, [], ⟨spr 17 0 [(0, .c (.fix (.ptr 0 0)) .no), (1, .c (.int .u8) .no)], [], [.cells [.c (.fix (.bself 59 0)) .no, .c (.buf 5) (.tok 0)]], [.len 1]⟩⟩
noncomputable def o42x0 : OSh := ⟨.rets [.c (.fix .nili) .no], [.cells [.c (.fix (.bself 59 0)) .no, .c (.buf 5) (.tok 0)]], [.len 0]⟩
noncomputable def d42 : FnD := ⟨Tryd.f42, bodyOf Tryd.f42, .no, .plain, [c42_0], [o42x0]⟩
noncomputable def c44_0 : Cut := ⟨[], 1, 1, [], ⟨spr 14 0 [(0, .c (.fix (.ptr 0 0)) .no)], [], [.cells [.c (.fix (.bself 59 0)) .no, .c (.buf 5) (.tok 0)]], [.len 0]⟩⟩
noncomputable def o44x0 : OSh := ⟨.rets [.c .str .no], [.cells [.c (.fix (.bself 59 0)) .no, .c (.buf 5) (.tok 0)]], [.len 1]⟩
noncomputable def d44 : FnD := ⟨Tryd.f44, bodyOf Tryd.f44, .no, .plain, [c44_0], [o44x0]⟩
noncomputable def c45_0 : Cut := ⟨[], 0, 0, [], ⟨spr 43 0 [(0, .agg [.int .i64, .int .u64, .int .u64, .int .u64, .int .u64, .int .i64, .int .i64, .sl] .no), (1, .c (.int .i64) .no), (2, .c (.int .i64) .no)], [], [], []⟩⟩
noncomputable def c45_1 : Cut := ⟨[0, 1, 0, 1, 1], 0, 0, [], ⟨spr 43 0 [(1, .c (.int .i64) .no), (2, .c (.int .i64) .no), (3, .c (.fix (.ptr 0 0)) .no), (7, .c (.int .i64) .no), (8, .c (.int .i64) .no)], [], [.cells [.c (.int .i64) .no, .c (.int .u64) .no, .c (.int .u64) .no, .c (.int .u64) .no, .c (.int .u64) .no, .c (.int .i64) .no, .c (.int .i64) .no, .c .sl .no]], []⟩⟩
noncomputable def o45x0 : OSh := ⟨.rets [.c (.int .i64) .no], [], []⟩
noncomputable def d45 : FnD := ⟨Tryd.f45, bodyOf Tryd.f45, .no, .plain, [c45_0, c45_1], [o45x0]⟩
noncomputable def c46_0 : Cut := ⟨[], 0, 0, [], ⟨spr 106 0 [(0, .agg [.int .i64, .int .u64, .int .u64, .int .u64, .int .u64, .int .i64, .int .i64, .sl] .no), (1, .c (.int .i64) .no), (2, .c (.int .i64) .no)], [], [], []⟩⟩
noncomputable def c46_1 : Cut := ⟨[1, 1, 1, 0, 1, 0, 1, 1], 0, 0, [], ⟨spr 106 0 [(1, .c (.int .i64) .no), (3, .c (.fix (.ptr 0 0)) .no), (5, .c (.fix (.ptr 1 0)) .no), (34, .c .bool .no), (36, .c (.int .i64) .no), (37, .c .bool .no), (47, .c .bool .no)], [], [.cells [.c (.int .i64) .no, .c (.int .u64) .no, .c (.int .u64) .no, .c (.int .u64) .no, .c (.int .u64) .no, .c (.int .i64) .no, .c (.int .i64) .no, .c .sl .no], .cells [.c (.int .i64) .no]], []⟩⟩
noncomputable def c46_2 : Cut := ⟨[1, 1, 1, 1, 1, 0, 1, 0, 1, 1], 0, 0, [], ⟨spr 106 0 [(1, .c (.int .i64) .no), (3, .c (.fix (.ptr 0 0)) .no), (5, .c (.fix (.ptr 1 0)) .no), (34, .c .bool .no), (36, .c (.int .i64) .no), (37, .c .bool .no), (47, .c .bool .no), (55, .c .bool .no)], [], [.cells [.c (.int .i64) .no, .c (.int .u64) .no, .c (.int .u64) .no, .c (.int .u64) .no, .c (.int .u64) .no, .c (.int .i64) .no, .c (.int .i64) .no, .c .sl .no], .cells [.c (.int .i64) .no]], []⟩⟩
noncomputable def o46x0 : OSh := ⟨.rets [.c .bool .no], [], []⟩
noncomputable def d46 : FnD := ⟨Tryd.f46, bodyOf Tryd.f46, .no, .plain, [c46_0, c46_1, c46_2], [o46x0]⟩
noncomputable def c47_0 : Cut := ⟨[], 0, 0, [], ⟨spr 65 0 [(0, .agg [.int .i64, .int .u64, .int .u64, .int .u64, .int .u64, .int .i64, .int .i64, .sl] .no)], [], [], []⟩⟩
noncomputable def c47_1 : Cut := ⟨[0, 1, 0, 1, 1, 1], 0, 0, [3], ⟨spr 65 0 [(1, .c (.fix (.ptr 0 0)) .no), (3, .c .sl (.tok 0)), (8, .c .bool .no), (18, .c .bool .no), (20, .c .bool .no), (22, .c .bool .no), (37, .c .sl .no), (38, .c (.int .i64) .no), (39, .c (.int .i64) .no)], [], [.cells [.c (.int .i64) .no, .c (.int .u64) .no, .c (.int .u64) .no, .c (.int .u64) .no, .c (.int .u64) .no, .c (.int .i64) .no, .c (.int .i64) .no, .c .sl .no]], [.len 0]⟩⟩
noncomputable def o47x0 : OSh := ⟨.rets [.c .str .no], [], []⟩
noncomputable def d47 : FnD := ⟨Tryd.f47, bodyOf Tryd.f47, .no, .plain, [c47_0, c47_1], [o47x0]⟩
noncomputable def c48_0 : Cut := ⟨[], 0, 0, [], ⟨spr 56 0 [(0, .agg [.int .i64, .int .u64, .int .u64, .int .u64, .int .u64, .int .i64, .int .i64, .sl] .no)], [], [], []⟩⟩
noncomputable def c48_1 : Cut := ⟨[0, 1, 0, 1, 1, 1, 1, 1, 0, 1, 0, 1, 1], 0, 0, [], ⟨spr 56 0 [(3, .c (.int .i64) .no), (9, .c (.int .i64) .no), (10, .c .bool .no), (12, .c .bool .no), (22, .c .bool .no), (25, .c .sl .no), (26, .c (.int .i64) .no), (27, .c (.int .i64) .no)], [], [.cells [.c (.int .i64) .no, .c (.int .u64) .no, .c (.int .u64) .no, .c (.int .u64) .no, .c (.int .u64) .no, .c (.int .i64) .no, .c (.int .i64) .no, .c .sl .no]], []⟩⟩
noncomputable def c48_2 : Cut := ⟨[0, 1, 1, 0, 1, 1, 1, 1, 1, 1, 1, 0, 1, 0, 1, 1], 0, 0, [], ⟨spr 56 0 [(3, .c (.int .i64) .no), (10, .c .bool .no), (12, .c .bool .no), (22, .c .bool .no), (36, .c .bool .no), (44, .c .sl .no), (45, .c (.int .i64) .no), (46, .c (.int .i64) .no)], [], [.cells [.c (.int .i64) .no, .c (.int .u64) .no, .c (.int .u64) .no, .c (.int .u64) .no, .c (.int .u64) .no, .c (.int .i64) .no, .c (.int .i64) .no, .c .sl .no]], []⟩⟩
noncomputable def o48x0 : OSh := ⟨.rets [.c (.int .i64) .no], [], []⟩
noncomputable def d48 : FnD := ⟨Tryd.f48, bodyOf Tryd.f48, .no, .plain, [c48_0, c48_1, c48_2], [o48x0]⟩
noncomputable def c49_0 : Cut := ⟨[], 0, 0, [], ⟨spr 2 0 [], [], [], []⟩⟩
noncomputable def o49x0 : OSh := ⟨.rets [.agg [.int .u64, .int .u64, .int .u64, .int .u64] .no], [], []⟩
noncomputable def d49 : FnD := ⟨Tryd.f49, bodyOf Tryd.f49, .no, .plain, [c49_0], [o49x0]⟩
noncomputable def c50_0 : Cut := ⟨[], 0, 0, [], ⟨spr 57 0 [(0, .agg [.int .u64, .int .u64, .int .u64, .int .u64] .no)], [], [], []⟩⟩
noncomputable def c50_1 : Cut := ⟨[1, 1, 1, 1], 0, 0, [4], ⟨spr 57 0 [(3, .c (.fix (.ptr 1 0)) .no), (4, .c .sl (.tok 0)), (5, .c .bool .no), (13, .c .bool .no)], [], [.cells [.c (.int .u64) .no, .c (.int .u64) .no, .c (.int .u64) .no, .c (.int .u64) .no], .row], [.len 0]⟩⟩
noncomputable def c50_2 : Cut := ⟨[0, 1, 0, 1, 1, 1, 1], 0, 0, [], ⟨spr 57 0 [(3, .c (.fix (.ptr 1 0)) .no), (4, .c .sl (.tok 0)), (5, .c .bool .no), (6, .c (.int .i64) .no), (13, .c .bool .no)], [], [.cells [.c (.int .u64) .no, .c (.int .u64) .no, .c (.int .u64) .no, .c (.int .u64) .no], .row], [.len 0]⟩⟩
noncomputable def c50_3 : Cut := ⟨[0, 1, 0, 0, 1, 0, 0, 1, 0, 1, 1, 1, 1], 0, 0, [], ⟨spr 57 0 [(3, .c (.fix (.ptr 1 0)) .no), (4, .c .sl (.tok 0)), (5, .c .bool .no), (6, .c (.int .i64) .no), (13, .c .bool .no), (18, .c .bool .no), (26, .c .bool .no)], [], [.cells [.c (.int .u64) .no, .c (.int .u64) .no, .c (.int .u64) .no, .c (.int .u64) .no], .row], [.len 0]⟩⟩
noncomputable def c50_4 : Cut := ⟨[1, 1, 0, 0, 1, 0, 1, 1, 1, 1], 0, 0, [], ⟨spr 57 0 [(3, .c (.fix (.ptr 1 0)) .no), (4, .c .sl (.tok 0)), (5, .c .bool .no), (6, .c (.int .i64) .no), (13, .c .bool .no), (18, .c .bool .no), (26, .c .bool .no)], [], [.cells [.c (.int .u64) .no, .c (.int .u64) .no, .c (.int .u64) .no, .c (.int .u64) .no], .row], [.len 0]⟩⟩
noncomputable def c50_5 : Cut := ⟨[0, 1, 0, 0, 1, 0, 0, 1, 0, 0, 1, 0, 1, 1, 1, 1], 0, 0, [], ⟨spr 57 0 [(3, .c (.fix (.ptr 1 0)) .no), (4, .c .sl (.tok 0)), (5, .c .bool .no), (6, .c (.int .i64) .no), (13, .c .bool .no), (18, .c .bool .no), (26, .c .bool .no), (44, .c .bool .no)], [], [.cells [.c (.int .u64) .no, .c (.int .u64) .no, .c (.int .u64) .no, .c (.int .u64) .no], .row], [.len 0]⟩⟩
noncomputable def c50_6 : Cut := ⟨[1, 0, 1, 0, 0, 1, 0, 0, 1, 0, 1, 1, 1, 1], 0, 0, [], ⟨spr 57 0 [(3, .c (.fix (.ptr 1 0)) .no), (4, .c .sl (.tok 0)), (5, .c .bool .no), (6, .c (.int .i64) .no), (13, .c .bool .no), (18, .c .bool .no), (26, .c .bool .no), (44, .c .bool .no)], [], [.cells [.c (.int .u64) .no, .c (.int .u64) .no, .c (.int .u64) .no, .c (.int .u64) .no], .row], [.len 0]⟩⟩
noncomputable def o50x0 : OSh := ⟨.rets [.c .str .no], [], []⟩
noncomputable def d50 : FnD := ⟨Tryd.f50, bodyOf Tryd.f50, .no, .plain, [c50_0, c50_1, c50_2, c50_3, c50_4, c50_5, c50_6], [o50x0]⟩
noncomputable def c51_0 : Cut := ⟨[], 0, 0, [], ⟨spr 17 0 [(0, .c (.int .i64) .no)], [], [], []⟩⟩
noncomputable def o51x0 : OSh := ⟨.rets [.c .str .no], [], []⟩
noncomputable def d51 : FnD := ⟨Tryd.f51, bodyOf Tryd.f51, .no, .plain, [c51_0], [o51x0]⟩
noncomputable def c53_0 : Cut := ⟨[], 1, 0, [], ⟨spr 20 0 [(0, .c (.fix (.ptr 0 0)) .no), (1, .c (.int .i64) .no)], [], [.cells [.c .str .no, .c (.int .i64) .no]], []⟩⟩
noncomputable def c53_1 : Cut := ⟨[0, 0, 1, 1], 1, 0, [5], ⟨spr 20 0 [(0, .c (.fix (.ptr 0 0)) .no), (1, .c (.int .i64) .no), (4, .c (.fix (.ptr 1 0)) .no), (5, .c .sl (.tok 0))], [], [.cells [.c .str .no, .c (.int .i64) .no], .cells [.c (.int .i64) .no, .c (.int .u64) .no, .c (.int .u64) .no, .c (.int .u64) .no, .c (.int .u64) .no, .c (.int .i64) .no, .c (.int .i64) .no, .c .sl .full]], [.len 1]⟩⟩
noncomputable def o53x0 : OSh := ⟨.rets [.agg [.int .i64, .int .u64, .int .u64, .int .u64, .int .u64, .int .i64, .int .i64, .sl] .no], [.cells [.c .str .no, .c (.int .i64) .no]], []⟩
noncomputable def o53x1 : OSh := ⟨.panic 71 [.int .i64, .int .i64], [.cells [.c .str .no, .c (.int .i64) .no]], []⟩
noncomputable def d53 : FnD := ⟨Tryd.f53, bodyOf Tryd.f53, .no, .plain, [c53_0, c53_1], [o53x0, o53x1]⟩
noncomputable def c54_0 : Cut := ⟨[], 0, 0, [], ⟨spr 8 0 [(0, .c .str .no), (1, .c (.int .u8) .no)], [], [], []⟩⟩
noncomputable def o54x0 : OSh := ⟨.rets [.c (.int .i64) .no], [], []⟩
noncomputable def d54 : FnD := ⟨Tryd.f54, bodyOf Tryd.f54, .no, .plain, [c54_0], [o54x0]⟩
noncomputable def c55_0 : Cut := ⟨[], 0, 0, [], ⟨spr 8 0 [(0, .c .str .no), (1, .c .str .no)], [], [], []⟩⟩
noncomputable def o55x0 : OSh := ⟨.rets [.c .bool .no], [], []⟩
noncomputable def d55 : FnD := ⟨Tryd.f55, bodyOf Tryd.f55, .no, .plain, [c55_0], [o55x0]⟩
noncomputable def c67_0 : Cut := ⟨[], 2, 0, [], ⟨spr 9 0 [(0, .c .sl .no), (1, .c (.fix (.fn 68 [] [.ptr 0 0, .ptr 1 0])) .no)], [], [.cells [.c (.int .i64) .no, .c (.int .u64) .no, .c (.int .u64) .no, .c (.int .u64) .no, .c (.int .u64) .no, .c (.int .i64) .no, .c (.int .i64) .no, .c .sl .no], .cells [.c (.int .i64) .no]], []⟩⟩
noncomputable def o67x0 : OSh := ⟨.rets [.c .bool .no], [.cells [.c (.int .i64) .no, .c (.int .u64) .no, .c (.int .u64) .no, .c (.int .u64) .no, .c (.int .u64) .no, .c (.int .i64) .no, .c (.int .i64) .no, .c .sl .no], .cells [.c (.int .i64) .no]], []⟩
noncomputable def d67 : FnD := ⟨Tryd.f67, bodyOf Tryd.f67, .no, .plain, [c67_0], [o67x0]⟩
noncomputable def c68_0 : Cut := ⟨[], 2, 0, [], ⟨spr 12 0 [(0, .agg [.int .i64, .int .u64, .int .u64, .int .u64, .int .u64, .int .i64, .int .i64, .sl] .no), (1, .c (.fix (.ptr 0 0)) .no), (2, .c (.fix (.ptr 1 0)) .no)], [], [.cells [.c (.int .i64) .no, .c (.int .u64) .no, .c (.int .u64) .no, .c (.int .u64) .no, .c (.int .u64) .no, .c (.int .i64) .no, .c (.int .i64) .no, .c .sl .no], .cells [.c (.int .i64) .no]], []⟩⟩
noncomputable def o68x0 : OSh := ⟨.rets [.c .bool .no], [.cells [.c (.int .i64) .no, .c (.int .u64) .no, .c (.int .u64) .no, .c (.int .u64) .no, .c (.int .u64) .no, .c (.int .i64) .no, .c (.int .i64) .no, .c .sl .no], .cells [.c (.int .i64) .no]], []⟩
noncomputable def d68 : FnD := ⟨Tryd.f68, bodyOf Tryd.f68, .no, .plain, [c68_0], [o68x0]⟩
noncomputable def c69_0 : Cut := ⟨[], 0, 0, [], ⟨spr 5 0 [(0, .agg [.int .u64, .int .u64, .int .u64, .int .u64] .no)], [], [], []⟩⟩
noncomputable def o69x0 : OSh := ⟨.rets [.agg [.int .u64, .int .u64, .int .u64, .int .u64] .no], [], []⟩
noncomputable def d69 : FnD := ⟨Tryd.f69, bodyOf Tryd.f69, .no, .plain, [c69_0], [o69x0]⟩
noncomputable def c70_0 : Cut := ⟨[], 0, 0, [], ⟨spr 31 0 [(0, .agg [.int .u64, .int .u64, .int .u64, .int .u64] .no)], [], [], []⟩⟩
noncomputable def c70_1 : Cut := ⟨[0, 1, 0, 1, 1, 1, 1], 0, 0, [], ⟨spr 31 0 [(1, .c (.fix (.ptr 0 0)) .no), (3, .c (.fix (.ptr 1 0)) .no), (8, .c .bool .no), (12, .c (.int .i64) .no)], [], [.cells [.c (.int .u64) .no, .c (.int .u64) .no, .c (.int .u64) .no, .c (.int .u64) .no], .cells [.c (.fix (.bself 59 1)) .no, .c (.buf 5) (.tok 0)]], [.len 6]⟩⟩
noncomputable def o70x0 : OSh := ⟨.rets [.c .str .no], [], []⟩
noncomputable def d70 : FnD := ⟨Tryd.f70, bodyOf Tryd.f70, .no, .plain, [c70_0, c70_1], [o70x0]⟩
noncomputable def c71_0 : Cut := ⟨[], 0, 0, [], ⟨spr 15 0 [(0, .agg [.int .i64, .int .u64, .int .u64, .int .u64, .int .u64, .int .i64, .int .i64, .sl] .no), (1, .c .sl .no)], [], [], []⟩⟩
noncomputable def o71x0 : OSh := ⟨.rets [.c .str .no], [], []⟩
noncomputable def d71 : FnD := ⟨Tryd.f71, bodyOf Tryd.f71, .no, .plain, [c71_0], [o71x0]⟩
noncomputable def c72_0 : Cut := ⟨[], 0, 0, [], ⟨spr 49 0 [(0, .c (.int .i64) .no), (1, .c (.int .i64) .no)], [], [], []⟩⟩
noncomputable def c72_1 : Cut := ⟨[1, 1, 0, 0, 1], 0, 0, [], ⟨spr 49 0 [(0, .c (.int .i64) .no), (1, .c (.int .i64) .no), (5, .c .bool .no)], [], [], []⟩⟩
noncomputable def c72_2 : Cut := ⟨[1, 1, 1, 1, 0, 0, 1], 0, 0, [], ⟨spr 49 0 [(0, .c (.int .i64) .no), (1, .c (.int .i64) .no), (5, .c .bool .no), (12, .c .bool .no)], [], [], []⟩⟩
noncomputable def c72_3 : Cut := ⟨[1, 1, 1, 1, 1, 1, 0, 0, 1], 0, 0, [], ⟨spr 49 0 [(0, .c (.int .i64) .no), (1, .c (.int .i64) .no), (5, .c .bool .no), (12, .c .bool .no), (19, .c .bool .no)], [], [], []⟩⟩
noncomputable def o72x0 : OSh := ⟨.rets [.c .str .no], [], []⟩
noncomputable def d72 : FnD := ⟨Tryd.f72, bodyOf Tryd.f72, .no, .plain, [c72_0, c72_1, c72_2, c72_3], [o72x0]⟩
noncomputable def c74_0 : Cut := ⟨[], 0, 0, [], ⟨spr 23 0 [(0, .agg [.int .u64, .int .u64, .int .u64, .int .u64] .no)], [], [], []⟩⟩
noncomputable def c74_1 : Cut := ⟨[0, 1, 0, 1, 1], 0, 0, [], ⟨spr 23 0 [(1, .c (.fix (.ptr 0 0)) .no), (2, .c (.fix (.ptr 1 0)) .no), (3, .c (.fix (.ptr 2 0)) .no), (4, .c (.int .i64) .no)], [], [.cells [.c (.int .u64) .no, .c (.int .u64) .no, .c (.int .u64) .no, .c (.int .u64) .no], .row, .row], []⟩⟩
noncomputable def o74x0 : OSh := ⟨.rets [.c .any .no], [], []⟩
noncomputable def d74 : FnD := ⟨Tryd.f74, bodyOf Tryd.f74, .big, .great, [c74_0, c74_1], [o74x0]⟩
noncomputable def c75_0 : Cut := ⟨[], 1, 0, [], ⟨spr 35 0 [(0, .c (.fix (.ptr 0 0)) .no), (1, .c (.int .i64) .no)], [], [.cells [.c .str .no, .c (.int .i64) .no]], []⟩⟩
noncomputable def c75_1 : Cut := ⟨[0, 1, 1], 1, 0, [5], ⟨spr 35 0 [(0, .c (.fix (.ptr 0 0)) .no), (1, .c (.int .i64) .no), (4, .c (.fix (.ptr 1 0)) .no), (5, .c .sl (.tok 0))], [], [.cells [.c .str .no, .c (.int .i64) .no], .cells [.c (.int .i64) .no, .c (.int .u64) .no, .c (.int .u64) .no, .c (.int .u64) .no, .c (.int .u64) .no, .c (.int .i64) .no, .c (.int .i64) .no, .c .sl .full]], [.len 1]⟩⟩
noncomputable def o75x0 : OSh := ⟨.rets [.agg [.int .i64, .int .u64, .int .u64, .int .u64, .int .u64, .int .i64, .int .i64, .sl] .no], [.cells [.c .str .no, .c (.int .i64) .no]], []⟩
noncomputable def o75x1 : OSh := ⟨.panic 71 [.int .i64, .int .i64], [.cells [.c .str .no, .c (.int .i64) .no]], []⟩
noncomputable def d75 : FnD := ⟨Tryd.f75, bodyOf Tryd.f75, .no, .plain, [c75_0, c75_1], [o75x0, o75x1]⟩
noncomputable def c76_0 : Cut := ⟨[], 1, 0, [], ⟨spr 27 0 [(0, .c (.fix (.ptr 0 0)) .no), (1, .c (.int .u8) .no)], [], [.cells [.c .str .no, .c (.int .i64) .no]], []⟩⟩
noncomputable def o76x0 : OSh := ⟨.rets [.c .bool .no], [.cells [.c .str .no, .c (.int .i64) .no]], []⟩
noncomputable def d76 : FnD := ⟨Tryd.f76, bodyOf Tryd.f76, .no, .plain, [c76_0], [o76x0]⟩
noncomputable def c77_0 : Cut := ⟨[], 0, 0, [], ⟨spr 53 0 [(0, .c (.int .i64) .no), (1, .c .sl .no)], [], [], []⟩⟩
noncomputable def c77_1 : Cut := ⟨[0, 1, 0, 1, 1, 1], 0, 0, [5], ⟨spr 53 0 [(0, .c (.int .i64) .no), (4, .c (.fix (.ptr 0 0)) .no), (5, .c .sl (.tok 0)), (10, .c .bool .no), (13, .c .bool .no), (18, .c .sl .no), (19, .c (.int .i64) .no), (20, .c (.int .i64) .no)], [], [.cells [.c (.int .i64) .no, .c (.int .u64) .no, .c (.int .u64) .no, .c (.int .u64) .no, .c (.int .u64) .no, .c (.int .i64) .no, .c (.int .i64) .no, .c .sl .full]], [.len 1]⟩⟩
noncomputable def o77x0 : OSh := ⟨.rets [.agg [.int .i64, .int .u64, .int .u64, .int .u64, .int .u64, .int .i64, .int .i64, .sl] .no], [], []⟩
noncomputable def d77 : FnD := ⟨Tryd.f77, bodyOf Tryd.f77, .no, .plain, [c77_0, c77_1], [o77x0]⟩
noncomputable def c78_0 : Cut := ⟨[], 0, 0, [], ⟨spr 8 0 [(0, .c .str .no), (1, .c (.int .u8) .no)], [], [], []⟩⟩
noncomputable def o78x0 : OSh := ⟨.rets [.c (.int .i64) .no], [], []⟩
noncomputable def d78 : FnD := ⟨Tryd.f78, bodyOf Tryd.f78, .no, .plain, [c78_0], [o78x0]⟩
noncomputable def c79_0 : Cut := ⟨[], 0, 0, [], ⟨spr 18 0 [(0, .c .str .no), (1, .c .str .no)], [], [], []⟩⟩
noncomputable def o79x0 : OSh := ⟨.rets [.c .bool .no], [], []⟩
noncomputable def d79 : FnD := ⟨Tryd.f79, bodyOf Tryd.f79, .no, .plain, [c79_0], [o79x0]⟩
noncomputable def c85_0 : Cut := ⟨[], 2, 0, [], ⟨spr 19 0 [(0, .c .sl .no), (1, .c (.fix (.fn 68 [] [.ptr 0 0, .ptr 1 0])) .no)], [], [.cells [.c (.int .i64) .no, .c (.int .u64) .no, .c (.int .u64) .no, .c (.int .u64) .no, .c (.int .u64) .no, .c (.int .i64) .no, .c (.int .i64) .no, .c .sl .no], .cells [.c (.int .i64) .no]], []⟩⟩
noncomputable def c85_1 : Cut := ⟨[0, 1, 0, 1], 2, 0, [], ⟨spr 19 0 [(0, .c .sl .no), (1, .c (.fix (.fn 68 [] [(.ptr 0 0), (.ptr 1 0)])) .no), (7, .c (.int .i64) .no), (8, .c (.int .i64) .no)], [], [.cells [.c (.int .i64) .no, .c (.int .u64) .no, .c (.int .u64) .no, .c (.int .u64) .no, .c (.int .u64) .no, .c (.int .i64) .no, .c (.int .i64) .no, .c .sl .no], .cells [.c (.int .i64) .no]], []⟩⟩
noncomputable def o85x0 : OSh := ⟨.rets [.c (.int .i64) .no], [.cells [.c (.int .i64) .no, .c (.int .u64) .no, .c (.int .u64) .no, .c (.int .u64) .no, .c (.int .u64) .no, .c (.int .i64) .no, .c (.int .i64) .no, .c .sl .no], .cells [.c (.int .i64) .no]], []⟩
noncomputable def d85 : FnD := ⟨Tryd.f85, bodyOf Tryd.f85, .no, .plain, [c85_0, c85_1], [o85x0]⟩
noncomputable def c86_0 : Cut := ⟨[], 0, 0, [], ⟨spr 15 0 [(0, .agg [.int .u64, .int .u64, .int .u64, .int .u64] .no)], [], [], []⟩⟩
noncomputable def c86_1 : Cut := ⟨[0, 1, 0, 1], 0, 0, [], ⟨spr 15 0 [(1, .c (.fix (.ptr 0 0)) .no), (2, .c (.fix (.ptr 1 0)) .no), (4, .c (.int .i64) .no)], [], [.cells [.c (.int .u64) .no, .c (.int .u64) .no, .c (.int .u64) .no, .c (.int .u64) .no], .cells [.c (.int .u64) .no, .c (.int .u64) .no, .c (.int .u64) .no, .c (.int .u64) .no]], []⟩⟩
noncomputable def o86x0 : OSh := ⟨.rets [.agg [.int .u64, .int .u64, .int .u64, .int .u64] .no], [], []⟩
noncomputable def d86 : FnD := ⟨Tryd.f86, bodyOf Tryd.f86, .no, .plain, [c86_0, c86_1], [o86x0]⟩
noncomputable def c87_0 : Cut := ⟨[], 0, 0, [], ⟨spr 14 0 [(0, .agg [.int .u64, .int .u64, .int .u64, .int .u64] .no), (1, .c (.int .u8) .no)], [], [], []⟩⟩
noncomputable def o87x0 : OSh := ⟨.rets [.c .bool .no], [], []⟩
noncomputable def d87 : FnD := ⟨Tryd.f87, bodyOf Tryd.f87, .no, .plain, [c87_0], [o87x0]⟩
noncomputable def c88_0 : Cut := ⟨[], 0, 0, [], ⟨spr 9 0 [(0, .c .sl .no), (1, .c (.int .i64) .no)], [], [], []⟩⟩
noncomputable def o88x0 : OSh := ⟨.rets [.c .bool .no], [], []⟩
noncomputable def d88 : FnD := ⟨Tryd.f88, bodyOf Tryd.f88, .no, .plain, [c88_0], [o88x0]⟩
noncomputable def c89_0 : Cut := ⟨[], 0, 0, [], ⟨spr 5 0 [(0, .c (.int .i64) .no)], [], [], []⟩⟩
noncomputable def o89x0 : OSh := ⟨.rets [.c .str .no], [], []⟩
noncomputable def d89 : FnD := ⟨Tryd.f89, bodyOf Tryd.f89, .no, .plain, [c89_0], [o89x0]⟩
noncomputable def c91_0 : Cut := ⟨[], 1, 0, [], ⟨spr 23 0 [(0, .c (.fix (.ptr 0 0)) .no)], [], [.cells [.c .str .no, .c (.int .i64) .no]], []⟩⟩
noncomputable def o91x0 : OSh := ⟨.rets [.c (.int .u8) .no, .c .bool .no], [.cells [.c .str .no, .c (.int .i64) .no]], []⟩
noncomputable def d91 : FnD := ⟨Tryd.f91, bodyOf Tryd.f91, .no, .plain, [c91_0], [o91x0]⟩
noncomputable def c92_0 : Cut := ⟨[], 1, 0, [], ⟨spr 40 0 [(0, .c (.fix (.ptr 0 0)) .no), (1, .c (.int .i64) .no)], [], [.cells [.c .str .no, .c (.int .i64) .no]], []⟩⟩
noncomputable def c92_1 : Cut := ⟨[0, 1, 1], 1, 0, [], ⟨spr 40 0 [(0, .c (.fix (.ptr 0 0)) .no), (4, .c (.fix (.ptr 1 0)) .no), (5, .c (.fix (.ptr 2 0)) .no)], [], [.cells [.c .str .no, .c (.int .i64) .no], .cells [.c (.int .i64) .no, .c (.int .u64) .no, .c (.int .u64) .no, .c (.int .u64) .no, .c (.int .u64) .no, .c (.int .i64) .no, .c (.int .i64) .no, .c .sl .full], .cells [.c (.int .i64) .no, .c (.int .u64) .no, .c (.int .u64) .no, .c (.int .u64) .no, .c (.int .u64) .no, .c (.int .i64) .no, .c (.int .i64) .no, .c .sl .no]], []⟩⟩
noncomputable def o92x0 : OSh := ⟨.rets [.agg [.int .i64, .int .u64, .int .u64, .int .u64, .int .u64, .int .i64, .int .i64, .sl] .no], [.cells [.c .str .no, .c (.int .i64) .no]], []⟩
noncomputable def o92x1 : OSh := ⟨.panic 71 [.int .i64, .int .i64], [.cells [.c .str .no, .c (.int .i64) .no]], []⟩
noncomputable def d92 : FnD := ⟨Tryd.f92, bodyOf Tryd.f92, .no, .plain, [c92_0, c92_1], [o92x0, o92x1]⟩
noncomputable def c98_0 : Cut := ⟨[], 0, 0, [], ⟨spr 19 0 [(0, .c .sl .no), (1, .c (.int .i64) .no)], [], [], []⟩⟩
noncomputable def c98_1 : Cut := ⟨[0, 1, 0, 1], 0, 0, [], ⟨spr 19 0 [(0, .c .sl .no), (1, .c (.int .i64) .no), (7, .c (.int .i64) .no), (8, .c (.int .i64) .no)], [], [], []⟩⟩
noncomputable def o98x0 : OSh := ⟨.rets [.c (.int .i64) .no], [], []⟩
noncomputable def d98 : FnD := ⟨Tryd.f98, bodyOf Tryd.f98, .no, .plain, [c98_0, c98_1], [o98x0]⟩
noncomputable def c99_0 : Cut := ⟨[], 0, 0, [], ⟨spr 5 0 [(0, .c (.int .i64) .no)], [], [], []⟩⟩
noncomputable def o99x0 : OSh := ⟨.rets [.c .str .no], [], []⟩
noncomputable def d99 : FnD := ⟨Tryd.f99, bodyOf Tryd.f99, .no, .plain, [c99_0], [o99x0]⟩
noncomputable def c101_0 : Cut := ⟨[], 1, 0, [], ⟨spr 106 0 [(0, .c (.fix (.ptr 0 0)) .no), (1, .c (.int .i64) .no)], [], [.cells [.c .str .no, .c (.int .i64) .no]], []⟩⟩
noncomputable def c101_1 : Cut := ⟨[1, 0, 1, 0, 1, 1, 1], 1, 0, [], ⟨spr 106 0 [(0, .c (.fix (.ptr 0 0)) .no), (1, .c (.int .i64) .no), (4, .c (.fix (.ptr 1 0)) .no), (5, .c (.int .i64) .no), (6, .c (.int .u8) .no), (21, .c (.int .u8) .no), (22, .c .bool .no)], [], [.cells [.c .str .no, .c (.int .i64) .no], .cells [.c (.int .i64) .no, .c (.int .u64) .no, .c (.int .u64) .no, .c (.int .u64) .no, .c (.int .u64) .no, .c (.int .i64) .no, .c (.int .i64) .no, .c .sl .full]], []⟩⟩
noncomputable def c101_2 : Cut := ⟨[1, 1, 1, 1], 1, 0, [], ⟨spr 106 0 [(0, .c (.fix (.ptr 0 0)) .no), (1, .c (.int .i64) .no), (4, .c (.fix (.ptr 1 0)) .no), (5, .c (.int .i64) .no), (6, .c (.int .u8) .no), (22, .c .bool .no), (30, .c .bool .no), (35, .c .bool .no)], [], [.cells [.c .str .no, .c (.int .i64) .no], .cells [.c (.int .i64) .no, .c (.int .u64) .no, .c (.int .u64) .no, .c (.int .u64) .no, .c (.int .u64) .no, .c (.int .i64) .no, .c (.int .i64) .no, .c .sl .full]], []⟩⟩
noncomputable def c101_3 : Cut := ⟨[1, 0, 1, 0, 1, 0, 1, 1, 1, 1, 1], 1, 0, [], ⟨spr 106 0 [(0, .c (.fix (.ptr 0 0)) .no), (1, .c (.int .i64) .no), (4, .c (.fix (.ptr 1 0)) .no), (5, .c (.int .i64) .no), (6, .c (.int .u8) .no), (22, .c .bool .no), (30, .c .bool .no), (35, .c .bool .no), (66, .c (.int .u8) .no), (67, .c .bool .no), (70, .c .bool .no)], [], [.cells [.c .str .no, .c (.int .i64) .no], .cells [.c (.int .i64) .no, .c (.int .u64) .no, .c (.int .u64) .no, .c (.int .u64) .no, .c (.int .u64) .no, .c (.int .i64) .no, .c (.int .i64) .no, .c .sl .full]], []⟩⟩
noncomputable def o101x0 : OSh := ⟨.rets [.agg [.int .i64, .int .u64, .int .u64, .int .u64, .int .u64, .int .i64, .int .i64, .sl] .no], [.cells [.c .str .no, .c (.int .i64) .no]], []⟩
noncomputable def o101x1 : OSh := ⟨.panic 71 [.int .i64, .int .i64], [.cells [.c .str .no, .c (.int .i64) .no]], []⟩
noncomputable def d101 : FnD := ⟨Tryd.f101, bodyOf Tryd.f101, .no, .plain, [c101_0, c101_1, c101_2, c101_3], [o101x0, o101x1]⟩
noncomputable def c102_0 : Cut := ⟨[], 1, 0, [], ⟨spr 45 0 [(0, .c (.fix (.ptr 0 0)) .no), (1, .c (.int .i64) .no)], [], [.cells [.c .str .no, .c (.int .i64) .no]], []⟩⟩
noncomputable def o102x0 : OSh := ⟨.rets [.c (.int .i64) .no, .c (.int .i64) .no], [.cells [.c .str .no, .c (.int .i64) .no]], []⟩
noncomputable def o102x1 : OSh := ⟨.panic 71 [.int .i64, .int .i64], [.cells [.c .str .no, .c (.int .i64) .no]], []⟩
noncomputable def d102 : FnD := ⟨Tryd.f102, bodyOf Tryd.f102, .no, .plain, [c102_0], [o102x0, o102x1]⟩
noncomputable def c107_0 : Cut := ⟨[], 0, 0, [], ⟨spr 54 0 [(0, .c (.int .i64) .no), (1, .c (.int .i64) .no)], [], [], []⟩⟩
noncomputable def o107x0 : OSh := ⟨.rets [.c .str .no], [], []⟩
noncomputable def d107 : FnD := ⟨Tryd.f107, bodyOf Tryd.f107, .no, .plain, [c107_0], [o107x0]⟩
noncomputable def c109_0 : Cut := ⟨[], 1, 0, [], ⟨spr 10 0 [(0, .c (.fix (.ptr 0 0)) .no), (1, .c (.int .i64) .no), (2, .c (.int .i64) .no)], [], [.cells [.c .str .no, .c (.int .i64) .no]], []⟩⟩
noncomputable def o109x0 : OSh := ⟨.panic 71 [.int .i64, .int .i64], [.cells [.c .str .no, .c (.int .i64) .no]], []⟩
noncomputable def d109 : FnD := ⟨Tryd.f109, bodyOf Tryd.f109, .no, .plain, [c109_0], [o109x0]⟩
noncomputable def c110_0 : Cut := ⟨[], 0, 0, [], ⟨spr 70 0 [(0, .c .str .no), (1, .c (.int .i64) .no)], [], [], []⟩⟩
noncomputable def c110_1 : Cut := ⟨[0, 1, 0, 1, 1, 1, 1, 1, 1], 0, 0, [], ⟨spr 70 0 [(4, .c (.fix (.ptr 0 0)) .no), (7, .c (.fix (.ptr 1 0)) .no), (8, .c .bool .no), (9, .c (.fix (.ptr 2 0)) .no), (10, .c .bool .no), (26, .c .bool .no), (35, .c .bool .no)], [], [.cells [.c (.int .u64) .no, .c (.int .u64) .no, .c (.int .u64) .no, .c (.int .u64) .no], .cells [.c .str .no, .c (.int .i64) .no], .cells [.c (.int .u64) .no, .c (.int .u64) .no, .c (.int .u64) .no, .c (.int .u64) .no]], []⟩⟩
noncomputable def o110x0 : OSh := ⟨.rets [.agg [.int .u64, .int .u64, .int .u64, .int .u64] .no, .c (.int .i64) .no, .c (.int .i64) .no], [], []⟩
noncomputable def d110 : FnD := ⟨Tryd.f110, bodyOf Tryd.f110, .no, .plain, [c110_0, c110_1], [o110x0]⟩
noncomputable def c111_0 : Cut := ⟨[], 0, 0, [], ⟨spr 8 0 [(0, .c (.int .u8) .no)], [], [], []⟩⟩
noncomputable def o111x0 : OSh := ⟨.rets [.agg [.int .i64, .int .u64, .int .u64, .int .u64, .int .u64, .int .i64, .int .i64, .sl] .no], [], []⟩
noncomputable def d111 : FnD := ⟨Tryd.f111, bodyOf Tryd.f111, .no, .plain, [c111_0], [o111x0]⟩
noncomputable def c112_0 : Cut := ⟨[], 1, 0, [], ⟨spr 31 0 [(0, .c (.fix (.ptr 0 0)) .no)], [], [.cells [.c .str .no, .c (.int .i64) .no]], []⟩⟩
noncomputable def o112x0 : OSh := ⟨.panic 71 [.int .i64, .int .i64], [.cells [.c .str .no, .c (.int .i64) .no]], []⟩
noncomputable def o112x1 : OSh := ⟨.rets [.c (.int .u8) .no], [.cells [.c .str .no, .c (.int .i64) .no]], []⟩
noncomputable def d112 : FnD := ⟨Tryd.f112, bodyOf Tryd.f112, .no, .plain, [c112_0], [o112x0, o112x1]⟩
noncomputable def c113_0 : Cut := ⟨[], 1, 0, [], ⟨spr 47 0 [(0, .c (.fix (.ptr 0 0)) .no)], [], [.cells [.c .str .no, .c (.int .i64) .no]], []⟩⟩
noncomputable def c113_1 : Cut := ⟨[0, 0, 1, 1], 1, 0, [], ⟨spr 47 0 [(0, .c (.fix (.ptr 0 0)) .no), (4, .c (.int .i64) .no), (5, .c (.int .i64) .no)], [], [.cells [.c .str .no, .c (.int .i64) .no]], []⟩⟩
noncomputable def o113x0 : OSh := ⟨.rets [.c (.int .i64) .no, .c .bool .no], [.cells [.c .str .no, .c (.int .i64) .no]], []⟩
noncomputable def d113 : FnD := ⟨Tryd.f113, bodyOf Tryd.f113, .no, .plain, [c113_0, c113_1], [o113x0]⟩
noncomputable def c117_0 : Cut := ⟨[], 0, 0, [], ⟨spr 15 0 [(0, .c (.int .i64) .no)], [], [], []⟩⟩
noncomputable def o117x0 : OSh := ⟨.rets [.c .str .no], [], []⟩
noncomputable def d117 : FnD := ⟨Tryd.f117, bodyOf Tryd.f117, .no, .plain, [c117_0], [o117x0]⟩
noncomputable def c121_0 : Cut := ⟨[], 1, 0, [], ⟨spr 16 0 [(0, .c (.fix (.ptr 0 0)) .no), (1, .c .str .no)], [], [.cells [.c .str .no, .c (.int .i64) .no]], []⟩⟩
noncomputable def o121x0 : OSh := ⟨.rets [.c .bool .no], [.cells [.c .str .no, .c (.int .i64) .no]], []⟩
noncomputable def d121 : FnD := ⟨Tryd.f121, bodyOf Tryd.f121, .no, .plain, [c121_0], [o121x0]⟩
noncomputable def c122_0 : Cut := ⟨[], 1, 0, [], ⟨spr 94 0 [(0, .c (.fix (.ptr 0 0)) .no)], [], [.cells [.c .str .no, .c (.int .i64) .no]], []⟩⟩
noncomputable def o122x0 : OSh := ⟨.rets [.agg [.int .u64, .int .u64, .int .u64, .int .u64] .no, .c (.int .i64) .no], [.cells [.c .str .no, .c (.int .i64) .no]], []⟩
noncomputable def d122 : FnD := ⟨Tryd.f122, bodyOf Tryd.f122, .no, .plain, [c122_0], [o122x0]⟩
noncomputable def c123_0 : Cut := ⟨[], 0, 0, [], ⟨spr 19 0 [(0, .agg [.int .u64, .int .u64, .int .u64, .int .u64] .no), (1, .agg [.int .u64, .int .u64, .int .u64, .int .u64] .no)], [], [], []⟩⟩
noncomputable def c123_1 : Cut := ⟨[0, 1, 0, 1], 0, 0, [], ⟨spr 19 0 [(2, .c (.fix (.ptr 0 0)) .no), (3, .c (.fix (.ptr 1 0)) .no), (4, .c (.fix (.ptr 2 0)) .no), (6, .c (.int .i64) .no)], [], [.cells [.c (.int .u64) .no, .c (.int .u64) .no, .c (.int .u64) .no, .c (.int .u64) .no], .cells [.c (.int .u64) .no, .c (.int .u64) .no, .c (.int .u64) .no, .c (.int .u64) .no], .cells [.c (.int .u64) .no, .c (.int .u64) .no, .c (.int .u64) .no, .c (.int .u64) .no]], []⟩⟩
noncomputable def o123x0 : OSh := ⟨.rets [.agg [.int .u64, .int .u64, .int .u64, .int .u64] .no], [], []⟩
noncomputable def d123 : FnD := ⟨Tryd.f123, bodyOf Tryd.f123, .no, .plain, [c123_0, c123_1], [o123x0]⟩
noncomputable def c124_0 : Cut := ⟨[], 0, 0, [], ⟨spr 11 0 [(0, .agg [.int .u64, .int .u64, .int .u64, .int .u64] .no), (1, .c (.int .u8) .no), (2, .c (.int .u8) .no)], [], [], []⟩⟩
noncomputable def o124x0 : OSh := ⟨.rets [.agg [.int .u64, .int .u64, .int .u64, .int .u64] .no], [], []⟩
noncomputable def d124 : FnD := ⟨Tryd.f124, bodyOf Tryd.f124, .no, .plain, [c124_0], [o124x0]⟩
noncomputable def c132_0 : Cut := ⟨[], 1, 0, [], ⟨spr 74 0 [(0, .c (.fix (.ptr 0 0)) .no)], [], [.cells [.c .str .no, .c (.int .i64) .no]], []⟩⟩
noncomputable def o132x0 : OSh := ⟨.rets [.c (.int .u8) .no, .c .bool .no], [.cells [.c .str .no, .c (.int .i64) .no]], []⟩
noncomputable def d132 : FnD := ⟨Tryd.f132, bodyOf Tryd.f132, .no, .plain, [c132_0], [o132x0]⟩
noncomputable def c133_0 : Cut := ⟨[], 0, 0, [], ⟨spr 26 0 [(0, .agg [.int .u64, .int .u64, .int .u64, .int .u64] .no), (1, .c (.int .u8) .no), (2, .c (.int .u8) .no)], [], [], []⟩⟩
noncomputable def c133_1 : Cut := ⟨[0, 1, 0, 1], 0, 0, [], ⟨spr 26 0 [(2, .c (.int .u8) .no), (3, .c (.fix (.ptr 0 0)) .no), (6, .c (.fix (.ptr 1 0)) .no), (7, .c (.int .i64) .no)], [], [.cells [.c (.int .u64) .no, .c (.int .u64) .no, .c (.int .u64) .no, .c (.int .u64) .no], .cells [.c (.int .u64) .no, .c (.int .u64) .no, .c (.int .u64) .no, .c (.int .u64) .no]], []⟩⟩
noncomputable def o133x0 : OSh := ⟨.rets [.agg [.int .u64, .int .u64, .int .u64, .int .u64] .no], [], []⟩
noncomputable def d133 : FnD := ⟨Tryd.f133, bodyOf Tryd.f133, .no, .plain, [c133_0, c133_1], [o133x0]⟩
/-- the functions, and their data -/
noncomputable def fns : FuncId → Option FnD := fnsL [(6, d6), (7, d7), (8, d8), (19, d19), (20, d20), (21, d21), (22, d22), (23, d23), (24, d24), (25, d25), (26, d26), (27, d27), (28, d28), (29, d29), (30, d30), (42, d42), (44, d44), (45, d45), (46, d46), (47, d47), (48, d48), (49, d49), (50, d50), (51, d51), (53, d53), (54, d54), (55, d55), (67, d67), (68, d68), (69, d69), (70, d70), (71, d71), (72, d72), (74, d74), (75, d75), (76, d76), (77, d77), (78, d78), (79, d79), (85, d85), (86, d86), (87, d87), (88, d88), (89, d89), (91, d91), (92, d92), (98, d98), (99, d99), (101, d101), (102, d102), (107, d107), (109, d109), (110, d110), (111, d111), (112, d112), (113, d113), (117, d117), (121, d121), (122, d122), (123, d123), (124, d124), (132, d132), (133, d133)]
noncomputable def ext : FuncId → Option Go.Ab.Spec := extL [(66, specCopyCheck 59 5), (73, specJoin), (93, specIndexByteString), (118, specFail), (119, specFail), (120, specFail), (130, specFail)]
noncomputable def lay : Lay := ⟨cx, pre, fns, ext⟩
theorem h6 : lay.fns 6 = some d6 := by kernel_rfl
theorem h7 : lay.fns 7 = some d7 := by kernel_rfl
theorem h8 : lay.fns 8 = some d8 := by kernel_rfl
theorem h19 : lay.fns 19 = some d19 := by kernel_rfl
theorem h20 : lay.fns 20 = some d20 := by kernel_rfl
theorem h21 : lay.fns 21 = some d21 := by kernel_rfl
theorem h22 : lay.fns 22 = some d22 := by kernel_rfl
theorem h23 : lay.fns 23 = some d23 := by kernel_rfl
theorem h24 : lay.fns 24 = some d24 := by kernel_rfl
theorem h25 : lay.fns 25 = some d25 := by kernel_rfl
theorem h26 : lay.fns 26 = some d26 := by kernel_rfl
theorem h27 : lay.fns 27 = some d27 := by kernel_rfl
theorem h28 : lay.fns 28 = some d28 := by kernel_rfl
theorem h29 : lay.fns 29 = some d29 := by kernel_rfl
theorem h30 : lay.fns 30 = some d30 := by kernel_rfl
theorem h42 : lay.fns 42 = some d42 := by kernel_rfl
theorem h44 : lay.fns 44 = some d44 := by kernel_rfl
theorem h45 : lay.fns 45 = some d45 := by kernel_rfl
theorem h46 : lay.fns 46 = some d46 := by kernel_rfl
theorem h47 : lay.fns 47 = some d47 := by kernel_rfl
theorem h48 : lay.fns 48 = some d48 := by kernel_rfl
theorem h49 : lay.fns 49 = some d49 := by kernel_rfl
theorem h50 : lay.fns 50 = some d50 := by kernel_rfl
theorem h51 : lay.fns 51 = some d51 := by kernel_rfl
theorem h53 : lay.fns 53 = some d53 := by kernel_rfl
theorem h54 : lay.fns 54 = some d54 := by kernel_rfl
theorem h55 : lay.fns 55 = some d55 := by kernel_rfl
theorem h67 : lay.fns 67 = some d67 := by kernel_rfl
theorem h68 : lay.fns 68 = some d68 := by kernel_rfl
theorem h69 : lay.fns 69 = some d69 := by kernel_rfl
theorem h70 : lay.fns 70 = some d70 := by kernel_rfl
theorem h71 : lay.fns 71 = some d71 := by kernel_rfl
theorem h72 : lay.fns 72 = some d72 := by kernel_rfl
theorem h74 : lay.fns 74 = some d74 := by kernel_rfl
theorem h75 : lay.fns 75 = some d75 := by kernel_rfl
theorem h76 : lay.fns 76 = some d76 := by kernel_rfl
theorem h77 : lay.fns 77 = some d77 := by kernel_rfl
theorem h78 : lay.fns 78 = some d78 := by kernel_rfl
theorem h79 : lay.fns 79 = some d79 := by kernel_rfl
theorem h85 : lay.fns 85 = some d85 := by kernel_rfl
theorem h86 : lay.fns 86 = some d86 := by kernel_rfl
theorem h87 : lay.fns 87 = some d87 := by kernel_rfl
theorem h88 : lay.fns 88 = some d88 := by kernel_rfl
theorem h89 : lay.fns 89 = some d89 := by kernel_rfl
theorem h91 : lay.fns 91 = some d91 := by kernel_rfl
theorem h92 : lay.fns 92 = some d92 := by kernel_rfl
theorem h98 : lay.fns 98 = some d98 := by kernel_rfl
theorem h99 : lay.fns 99 = some d99 := by kernel_rfl
theorem h101 : lay.fns 101 = some d101 := by kernel_rfl
theorem h102 : lay.fns 102 = some d102 := by kernel_rfl
theorem h107 : lay.fns 107 = some d107 := by kernel_rfl
theorem h109 : lay.fns 109 = some d109 := by kernel_rfl
theorem h110 : lay.fns 110 = some d110 := by kernel_rfl
theorem h111 : lay.fns 111 = some d111 := by kernel_rfl
theorem h112 : lay.fns 112 = some d112 := by kernel_rfl
theorem h113 : lay.fns 113 = some d113 := by kernel_rfl
theorem h117 : lay.fns 117 = some d117 := by kernel_rfl
theorem h121 : lay.fns 121 = some d121 := by kernel_rfl
theorem h122 : lay.fns 122 = some d122 := by kernel_rfl
theorem h123 : lay.fns 123 = some d123 := by kernel_rfl
theorem h124 : lay.fns 124 = some d124 := by kernel_rfl
theorem h132 : lay.fns 132 = some d132 := by kernel_rfl
theorem h133 : lay.fns 133 = some d133 := by kernel_rfl
end Go.Proofs.YtdiphholophdcaaDoor.T
end
