import Derived.Test.YtdiphholophdcabGreatDoorXSAbS
import Derived.Test.YtdiphholophdcabGreatDoorXSAbTrace
import Derived.Lib.Space
import Derived.Test.YtdiphholophdcabGreatDoorProg
import Derived.KernelRfl
import Derived.Lib.Builder
import Derived.Lib.Bytealg
import Derived.Laws.Externs
import Derived.Lib.IndexMore
import Derived.Lib.Fields
import Derived.Lib.LaidTab
import Derived.Lib.Join
import Derived.Below
set_option linter.all false
section
/- SHAPES: which parts of a frame and of a state are variables where a function is cut. -/
namespace Go.Ab
open Go.RowKit

/-- a cell's shape -/
inductive CSh where
  | int (k : IntKind)
  | bool
  | str
  | sl
  | buf (t : TypeId)
  | slr (b o : Nat)
  | fix (v : AV)
  | any
/-- a slot's shape -/
inductive Sh where
  | u
  | c (s : CSh) (t : Tag)
  | agg (cs : List CSh) (t : Tag)
/-- a block's -/
inductive BSh where
  | cells (ss : List Sh)
  | row
/-- a token's: as long as one of the values; a number -/
inductive TSh where
  | len (i : Nat)
  | fix (n : Nat)
structure FSh where
  slots : List Sh
  ds : List (FuncId × List SV)
  blks : List BSh
  T : List TSh

/-- shapes of n slots, those that are known -/
def spr (n : Nat) : Nat → List (Nat × Sh) → List Sh
  | i, [] => List.replicate (n - i) .u
  | i, (k, s) :: r => List.replicate (k - i) .u ++ s :: spr n (k + 1) r
def CSh.ks : CSh → List TyK
  | .int k => [.int k]
  | .bool => [.bool]
  | .str => [.str]
  | .sl => [.sl]
  | .buf t => [.buf t]
  | .slr b o => [.slr b o]
  | .fix _ => []
  | .any => [.any]
def Sh.ks : Sh → List TyK
  | .u => []
  | .c s _ => s.ks
  | .agg cs _ => cs.flatMap CSh.ks
def BSh.ks : BSh → List TyK
  | .cells ss => ss.flatMap Sh.ks
  | .row => [.agg]
def genC : CSh → AV → Option (List AV)
  | .int k, .int j n => match decide (j = k) with
    | true => some [.int j n]
    | false => none
  | .bool, .bool b => some [.bool b]
  | .str, .str s => some [.str s]
  | .sl, .sl xs => some [.sl xs]
  | .buf t, .buf u s => match Nat.beq u t with
    | true => some [.buf u s]
    | false => none
  | .slr b o, .slr b' o' n => match Nat.beq b' b && Nat.beq o' o with
    | true => some [.slr b' o' n]
    | false => none
  | .fix v, x => match AV.beq v x with
    | true => some []
    | false => none
  | .any, x => some [x]
  | _, _ => none
def mkC1 : CSh → List AV → AV × List AV
  | .int _, .int j n :: r => (.int j n, r)
  | .bool, .bool b :: r => (.bool b, r)
  | .str, .str s :: r => (.str s, r)
  | .sl, .sl xs :: r => (.sl xs, r)
  | .buf _, .buf u s :: r => (.buf u s, r)
  | .slr _ _, .slr b o n :: r => (.slr b o n, r)
  | .fix v, r => (v, r)
  | .any, v :: r => (v, r)
  | _, r => (.undef, r)
def app2 (a : Option (List AV)) (b : Option (List AV)) : Option (List AV) := match a, b with
  | some x, some y => some (x ++ y)
  | _, _ => none
theorem app2_some {a b : Option (List AV)} {l : List AV} (h : app2 a b = some l) : ∃ x y, a = some x ∧ b = some y ∧ l = x ++ y := by
  unfold app2 at h
  split at h
  · cases h; exact ⟨_, _, rfl, rfl, rfl⟩
  · cases h
def genCs : List CSh → List AV → Option (List AV)
  | [], [] => some []
  | s :: ss, x :: xs => app2 (genC s x) (genCs ss xs)
  | _, _ => none
def mkCs : List CSh → List AV → List AV × List AV
  | [], l => ([], l)
  | s :: ss, l => ((mkC1 s l).1 :: (mkCs ss (mkC1 s l).2).1, (mkCs ss (mkC1 s l).2).2)
theorem genC_mk {s : CSh} {x : AV} {l : List AV} (h : genC s x = some l) (r : List AV) : mkC1 s (l ++ r) = (x, r) := by
  cases s with
  | int k =>
    cases x <;> simp only [genC] at h <;> first | (cases h; done) | skip
    split at h
    · cases h; rfl
    · cases h
  | bool => cases x <;> simp only [genC] at h <;> first | (cases h; done) | (cases h; rfl)
  | str => cases x <;> simp only [genC] at h <;> first | (cases h; done) | (cases h; rfl)
  | sl => cases x <;> simp only [genC] at h <;> first | (cases h; done) | (cases h; rfl)
  | buf t =>
    cases x <;> simp only [genC] at h <;> first | (cases h; done) | skip
    split at h
    · cases h; rfl
    · cases h
  | slr b o =>
    cases x <;> simp only [genC] at h <;> first | (cases h; done) | skip
    split at h
    · cases h; rfl
    · cases h
  | fix v =>
    have h : (match AV.beq v x with
      | true => some []
      | false => none) = some l := by cases x <;> exact h
    split at h
    · rename_i e; cases h; rw [← AV.beq_eq _ _ e]; rfl
    · cases h
  | any =>
    have h : some [x] = some l := by cases x <;> exact h
    cases h; rfl
theorem genCs_mk : ∀ {ss : List CSh} {xs : List AV} {l : List AV}, genCs ss xs = some l → ∀ r, mkCs ss (l ++ r) = (xs, r)
  | [], [], l, h, r => by cases h; rfl
  | [], _ :: _, l, h, r => by cases h
  | _ :: _, [], l, h, r => by cases h
  | s :: ss, x :: xs, l, h, r => by
    obtain ⟨a, b, h1, h2, rfl⟩ := app2_some h
    simp only [mkCs]
    rw [List.append_assoc, genC_mk h1]
    simp only [genCs_mk h2]
def tagLe (t tg : Tag) : Bool := match t with
  | .no => true
  | t => Tag.beq t tg
def genS : Sh → SV → Option (List AV)
  | .u, _ => some []
  | .c s t, (x, tg) => match tagLe t tg with
    | true => genC s x
    | false => none
  | .agg cs t, (.agg xs, tg) => match tagLe t tg with
    | true => genCs cs xs
    | false => none
  | _, _ => none
def mkS : Sh → List AV → SV × List AV
  | .u, l => ((.undef, .no), l)
  | .c s t, l => (((mkC1 s l).1, t), (mkC1 s l).2)
  | .agg cs t, l => ((.agg (mkCs cs l).1, t), (mkCs cs l).2)
theorem tagLe_iff {t tg : Tag} (h : tagLe t tg = true) : t = tg ∨ t = .no := by
  unfold tagLe at h
  split at h
  · exact .inr rfl
  · exact .inl (Tag.beq_eq _ _ h)
theorem genS_mk {s : Sh} {x : SV} {l : List AV} (h : genS s x = some l) (r : List AV) : ∃ y, mkS s (l ++ r) = (y, r) ∧ (y = (.undef, .no) ∨ x = y ∨ (y.1 = x.1 ∧ y.2 = .no)) := by
  obtain ⟨x1, x2⟩ := x
  cases s with
  | u => cases h; exact ⟨_, rfl, .inl rfl⟩
  | c s t =>
    simp only [genS] at h
    split at h
    · rename_i e
      simp only [mkS, genC_mk h]
      refine ⟨_, rfl, ?_⟩
      rcases tagLe_iff e with rfl | rfl
      · exact .inr (.inl rfl)
      · exact .inr (.inr ⟨rfl, rfl⟩)
    · cases h
  | agg cs t =>
    cases x1 <;> simp only [genS] at h <;> first | (cases h; done) | skip
    split at h
    · rename_i e
      simp only [mkS, genCs_mk h]
      refine ⟨_, rfl, ?_⟩
      rcases tagLe_iff e with rfl | rfl
      · exact .inr (.inl rfl)
      · exact .inr (.inr ⟨rfl, rfl⟩)
    · cases h
def genSs : List Sh → List SV → Option (List AV)
  | [], [] => some []
  | s :: ss, x :: xs => app2 (genS s x) (genSs ss xs)
  | _, _ => none
def mkSs : List Sh → List AV → List SV × List AV
  | [], l => ([], l)
  | s :: ss, l => ((mkS s l).1 :: (mkSs ss (mkS s l).2).1, (mkSs ss (mkS s l).2).2)
theorem genSs_mk : ∀ {ss : List Sh} {xs : List SV} {l : List AV}, genSs ss xs = some l → ∀ r, ∃ ys, mkSs ss (l ++ r) = (ys, r) ∧ WkL xs ys
  | [], [], l, h, r => by cases h; exact ⟨[], rfl, .nil⟩
  | [], _ :: _, l, h, r => by cases h
  | _ :: _, [], l, h, r => by cases h
  | s :: ss, (x1, x2) :: xs, l, h, r => by
    obtain ⟨a, b, h1, h2, rfl⟩ := app2_some h
    obtain ⟨y, k1, k2⟩ := genS_mk h1 (b ++ r)
    obtain ⟨ys, k3, k4⟩ := genSs_mk h2 r
    refine ⟨y :: ys, ?_, ?_⟩
    · simp only [mkSs]
      rw [List.append_assoc, k1]
      simp only [k3]
    · rcases k2 with rfl | rfl | ⟨e1, e2⟩
      · exact .drop k4
      · exact .keep k4
      · obtain ⟨y1, y2⟩ := y
        simp only at e1 e2
        subst e1; subst e2
        exact .plain k4
def genB : BSh → Blk → Option (List AV)
  | .cells ss, cells => genSs ss cells
  | .row, cells => some [.agg (cells.map (·.1))]
def mkB : BSh → List AV → Blk × List AV
  | .cells ss, l => mkSs ss l
  | .row, .agg cs :: r => (cs.map (·, Tag.no), r)
  | .row, r => ([], r)
theorem wk_plain : ∀ (xs : List SV), WkL xs ((xs.map (·.1)).map (·, Tag.no))
  | [] => .nil
  | (_, _) :: xs => .plain (wk_plain xs)
theorem genB_mk {s : BSh} {x : Blk} {l : List AV} (h : genB s x = some l) (r : List AV) : ∃ y, mkB s (l ++ r) = (y, r) ∧ WkL x y := by
  cases s with
  | cells ss => exact genSs_mk h r
  | row => cases h; exact ⟨_, rfl, wk_plain x⟩
/-- the first blocks -/
def genBs : List BSh → List Blk → Option (List AV)
  | [], _ => some []
  | s :: ss, x :: xs => app2 (genB s x) (genBs ss xs)
  | _, _ => none
def mkBs : List BSh → List AV → List Blk × List AV
  | [], l => ([], l)
  | s :: ss, l => ((mkB s l).1 :: (mkBs ss (mkB s l).2).1, (mkBs ss (mkB s l).2).2)
theorem genBs_mk : ∀ {ss : List BSh} {xs : List Blk} {l : List AV}, genBs ss xs = some l → ∀ r, ∃ ys, mkBs ss (l ++ r) = (ys, r) ∧ WkB xs (ys ++ xs.drop ys.length) ∧ ys.length = ss.length ∧ ss.length ≤ xs.length
  | [], xs, l, h, r => by cases h; exact ⟨[], rfl, by simpa using WkB.done xs, rfl, by simp⟩
  | _ :: _, [], l, h, r => by cases h
  | s :: ss, x :: xs, l, h, r => by
    obtain ⟨a, b, h1, h2, rfl⟩ := app2_some h
    obtain ⟨y, k1, k2⟩ := genB_mk h1 (b ++ r)
    obtain ⟨ys, k3, k4, k5, k6⟩ := genBs_mk h2 r
    refine ⟨y :: ys, ?_, by simpa using WkB.cons k2 k4, by simp [k5], by simpa using k6⟩
    simp only [mkBs]
    rw [List.append_assoc, k1]
    simp only [k3]
def mkT (ts : List TSh) (vals : List AV) : List Nat := ts.map fun
  | .len i => (vals.getD i .undef).len
  | .fix n => n
def FSh.fr (sh : FSh) (vals : List AV) : Fr := ⟨(mkSs sh.slots vals).1, sh.ds⟩
def FSh.st (sh : FSh) (vals : List AV) : St := ⟨(mkBs sh.blks (mkSs sh.slots vals).2).1, mkT sh.T vals⟩
def FSh.ks (sh : FSh) : List TyK := sh.slots.flatMap Sh.ks ++ sh.blks.flatMap BSh.ks
def dsEq : List (FuncId × List SV) → List (FuncId × List SV) → Bool
  | [], [] => true
  | (f, xs) :: r, (g, ys) :: s => Nat.beq f g && SV.beqs xs ys && dsEq r s
  | _, _ => false
theorem dsEq_eq : ∀ {a b : List (FuncId × List SV)}, dsEq a b = true → a = b
  | [], [], _ => rfl
  | [], _ :: _, h => by cases h
  | _ :: _, [], h => by cases h
  | (f, xs) :: r, (g, ys) :: s, h => by
    simp only [dsEq, Bool.and_eq_true] at h
    rw [Nat.eq_of_beq_eq_true h.1.1, SV.beqs_eq h.1.2, dsEq_eq h.2]
/-- what was made behind (n, m) is forgotten, if anything was -/
def cutT (n0 m0 n m : Nat) (fr : Fr) (S : St) (t : Tree) : Tree := match Nat.beq S.H.length n && Nat.beq S.T.length m with
  | true => t
  | false => onlyIfT (Nat.ble n0 n && Nat.ble m0 m && fr.ds.isEmpty && tagsLow m fr.env && ((S.H.take n).drop n0).all (tagsLow m)) (lowTAll n fr.env t)
def tokT (ts : List TSh) (T : List Nat) (vals : List AV) (t : Tree) : Tree := match ts with
  | [] => t
  | _ => .need (T.take ts.length = mkT ts vals) t
/-- a frame and a state, taken for a shape's; the leaf is handed the values -/
def jumpK (n0 m0 : Nat) (own : List Nat) (sh : FSh) (leaf : List AV → Tree) (fr : Fr) (S : St) : Tree :=
  match dsEq (owned own fr S).1.ds sh.ds, genSs sh.slots (owned own fr S).1.env, genBs sh.blks (owned own fr S).2.H with
  | true, some l1, some l2 => tokT sh.T (owned own fr S).2.T (l1 ++ l2) <|
      cutT n0 m0 sh.blks.length sh.T.length (sh.fr (l1 ++ l2)) ⟨(sh.st (l1 ++ l2)).H ++ (owned own fr S).2.H.drop sh.blks.length, (owned own fr S).2.T⟩ <| leaf (l1 ++ l2)
  | _, _, _ => .fail
section
variable {W : Orc} {f : FuncId} {Q : Out → Prop} {c : Ctx} {n0 m0 : Nat}
theorem cutT_w {n m : Nat} {fr : Fr} {S : St} {t : Tree} (h : (cutT n0 m0 n m fr S t).wp W f Q) : Wkn c n0 m0 fr S fr ⟨S.H.take n, S.T.take m⟩ ∧ t.wp W f Q := by
  unfold cutT at h
  split at h
  · rename_i e
    simp only [Bool.and_eq_true] at e
    have e1 := Nat.eq_of_beq_eq_true e.1
    have e2 := Nat.eq_of_beq_eq_true e.2
    rw [← e1, ← e2, List.take_length, List.take_length]
    exact ⟨.refl _ _, h⟩
  · obtain ⟨h1, h2⟩ := onlyIfT_w h
    obtain ⟨h3, h4⟩ := lowTAll_w h2
    simp only [Bool.and_eq_true, Nat.ble_eq, List.isEmpty_iff] at h1
    obtain ⟨⟨⟨⟨a1, a2⟩, a3⟩, a4⟩, a5⟩ := h1
    refine ⟨Wkn.cut n m a1 a2 (fun x hx => ⟨h3 x hx, List.all_eq_true.1 a4 x hx⟩) a3 (fun b cells hb1 hb2 hc x hx => ?_), h4⟩
    have hmem : cells ∈ (S.H.take n).drop n0 := by
      have : ((S.H.take n).drop n0)[b - n0]? = some cells := by
        rw [List.getElem?_drop, List.getElem?_take_of_lt (by omega), show n0 + (b - n0) = b by omega]; exact hc
      exact List.mem_of_getElem? this
    exact List.all_eq_true.1 (List.all_eq_true.1 a5 cells hmem) x hx
theorem tokT_w {ts : List TSh} {T : List Nat} {vals : List AV} {t : Tree} (h : (tokT ts T vals t).wp W f Q) : T.take ts.length = mkT ts vals ∧ t.wp W f Q := by
  unfold tokT at h
  split at h
  · exact ⟨by simp [mkT], h⟩
  · exact h
theorem jumpK_w {own : List Nat} {sh : FSh} {leaf : List AV → Tree} {fr : Fr} {S : St} (h : (jumpK n0 m0 own sh leaf fr S).wp W f Q) : ∃ vals, Wkn c n0 m0 fr S (sh.fr vals) (sh.st vals) ∧ (leaf vals).wp W f Q := by
  unfold jumpK at h
  have hown := owned_wkn (c := c) (n0 := n0) (m0 := m0) own fr S
  generalize owned own fr S = x at h hown
  obtain ⟨⟨env, ds⟩, ⟨H, T⟩⟩ := x
  simp only at h hown
  split at h
  · rename_i l1 l2 hd h1 h2
    obtain ⟨h3, h⟩ := tokT_w h
    obtain ⟨h4, h⟩ := cutT_w (c := c) h
    refine ⟨l1 ++ l2, hown.trans ?_, h⟩
    obtain ⟨ys, k1, k2⟩ := genSs_mk h1 l2
    obtain ⟨bs, k3, k4, k5, k6⟩ := genBs_mk h2 []
    rw [List.append_nil] at k3
    have eds := dsEq_eq hd
    have ef : sh.fr (l1 ++ l2) = ⟨ys, ds⟩ := by unfold FSh.fr; rw [k1, eds]
    have es : sh.st (l1 ++ l2) = ⟨bs, mkT sh.T (l1 ++ l2)⟩ := by unfold FSh.st; rw [k1]; simp only; rw [k3]
    rw [ef, es] at h4
    rw [ef, es]
    refine (Wkn.frame k2).trans ?_
    have hb : Wkn c n0 m0 ⟨ys, ds⟩ ⟨H, T⟩ ⟨ys, ds⟩ ⟨bs ++ H.drop bs.length, T⟩ := Wkn.blks k4 []
    refine hb.trans ?_
    simp only at h4
    rw [← k5] at h4
    rw [List.take_left, h3] at h4
    exact h4
  · exact h.elim
theorem cutT_swap {W' : Orc} {f' : FuncId} {Q' : Out → Prop} {n m : Nat} {fr : Fr} {S : St} {t t' : Tree} (h : (cutT n0 m0 n m fr S t).wp W f Q) (k : t.wp W f Q → t'.wp W' f' Q') : (cutT n0 m0 n m fr S t').wp W' f' Q' := by
  have low0 : ∀ (n : Nat) (x : AV) (t t' : Tree), (t.wp W f Q → t'.wp W' f' Q') → (lowT0 n x t).wp W f Q → (lowT0 n x t').wp W' f' Q' := by
    intro n x t t' k h
    unfold lowT0 at h ⊢
    split at h
    · exact ⟨h.1, k h.2⟩
    · exact ⟨h.1, k h.2⟩
    · obtain ⟨h1, h2⟩ := onlyIfT_w h
      rw [h1]; exact k h2
  have lows0 : ∀ (n : Nat) (xs : List AV) (t t' : Tree), (t.wp W f Q → t'.wp W' f' Q') → (lowTs0 n xs t).wp W f Q → (lowTs0 n xs t').wp W' f' Q' := by
    intro n xs
    induction xs with
    | nil => intro t t' k h; exact k h
    | cons x xs ih => intro t t' k h; exact low0 _ _ _ _ (ih _ _ k) h
  have low1 : ∀ (n : Nat) (x : AV) (t t' : Tree), (t.wp W f Q → t'.wp W' f' Q') → (lowT1 n x t).wp W f Q → (lowT1 n x t').wp W' f' Q' := by
    intro n x t t' k h
    unfold lowT1 at h ⊢
    split at h
    · exact lows0 _ _ _ _ k h
    · exact low0 _ _ _ _ k h
  have lows : ∀ (n : Nat) (xs : List AV) (t t' : Tree), (t.wp W f Q → t'.wp W' f' Q') → (lowTs n xs t).wp W f Q → (lowTs n xs t').wp W' f' Q' := by
    intro n xs
    induction xs with
    | nil => intro t t' k h; exact k h
    | cons x xs ih => intro t t' k h; exact low1 _ _ _ _ (ih _ _ k) h
  have low : ∀ (n : Nat) (x : AV) (t t' : Tree), (t.wp W f Q → t'.wp W' f' Q') → (lowT n x t).wp W f Q → (lowT n x t').wp W' f' Q' := by
    intro n x t t' k h
    unfold lowT at h ⊢
    split at h
    · exact lows _ _ _ _ k h
    · exact lows _ _ _ _ k h
    · exact low1 _ _ _ _ k h
  have all : ∀ (n : Nat) (xs : List SV) (t t' : Tree), (t.wp W f Q → t'.wp W' f' Q') → (lowTAll n xs t).wp W f Q → (lowTAll n xs t').wp W' f' Q' := by
    intro n xs
    induction xs with
    | nil => intro t t' k h; exact k h
    | cons x xs ih => intro t t' k h; exact low _ _ _ _ (ih _ _ k) h
  unfold cutT at h ⊢
  split at h
  · exact k h
  · obtain ⟨h1, h2⟩ := onlyIfT_w h
    rw [h1]; exact all _ _ _ _ k h2
theorem jumpK_swap {W' : Orc} {f' : FuncId} {Q' : Out → Prop} {own : List Nat} {sh : FSh} {leaf leaf' : List AV → Tree} {fr : Fr} {S : St} (h : (jumpK n0 m0 own sh leaf fr S).wp W f Q) (k : ∀ vals, (leaf vals).wp W f Q → (leaf' vals).wp W' f' Q') :
    (jumpK n0 m0 own sh leaf' fr S).wp W' f' Q' := by
  unfold jumpK at h ⊢
  split at h
  · unfold tokT at h ⊢
    split at h
    · exact cutT_swap h (k _)
    · exact ⟨h.1, cutT_swap h.2 (k _)⟩
  · exact h.elim
end

/-! ### what functions come to -/
inductive VSh where
  | rets (vs : List Sh)
  /-- a panic with a struct of this type -/
  | panic (t : TypeId) (cs : List CSh)
structure OSh where
  v : VSh
  blks : List BSh
  T : List TSh
/-- nothing is forgotten here -/
def genX : Sh → SV → Option (List AV)
  | .u, (.undef, .no) => some []
  | .c s t, (x, tg) => match Tag.beq t tg with
    | true => genC s x
    | false => none
  | .agg cs t, (.agg xs, tg) => match Tag.beq t tg with
    | true => genCs cs xs
    | false => none
  | _, _ => none
theorem genX_mk {s : Sh} {x : SV} {l : List AV} (h : genX s x = some l) (r : List AV) : mkS s (l ++ r) = (x, r) := by
  obtain ⟨x1, x2⟩ := x
  cases s with
  | u =>
    cases x1 <;> cases x2 <;> simp only [genX] at h <;> first | (cases h; done) | (cases h; rfl)
  | c s t =>
    simp only [genX] at h
    split at h
    · rename_i e
      obtain rfl := Tag.beq_eq _ _ e
      simp only [mkS, genC_mk h]
    · cases h
  | agg cs t =>
    cases x1 <;> simp only [genX] at h <;> first | (cases h; done) | skip
    split at h
    · rename_i e
      obtain rfl := Tag.beq_eq _ _ e
      simp only [mkS, genCs_mk h]
    · cases h
def genXs : List Sh → List SV → Option (List AV)
  | [], [] => some []
  | s :: ss, x :: xs => app2 (genX s x) (genXs ss xs)
  | _, _ => none
theorem genXs_mk : ∀ {ss : List Sh} {xs : List SV} {l : List AV}, genXs ss xs = some l → ∀ r, mkSs ss (l ++ r) = (xs, r)
  | [], [], l, h, r => by cases h; rfl
  | [], _ :: _, l, h, r => by cases h
  | _ :: _, [], l, h, r => by cases h
  | s :: ss, x :: xs, l, h, r => by
    obtain ⟨a, b, h1, h2, rfl⟩ := app2_some h
    simp only [mkSs]
    rw [List.append_assoc, genX_mk h1]
    simp only [genXs_mk h2]
def genXB : BSh → Blk → Option (List AV)
  | .cells ss, cells => genXs ss cells
  | .row, cells => (plainL cells).map fun cs => [.agg cs]
theorem genXB_mk {s : BSh} {x : Blk} {l : List AV} (h : genXB s x = some l) (r : List AV) : mkB s (l ++ r) = (x, r) := by
  cases s with
  | cells ss => exact genXs_mk h r
  | row =>
    obtain ⟨cs, h1, rfl⟩ := Option.map_eq_some_iff.1 h
    rw [(plainL_eq h1).1]; rfl
def genXBs : List BSh → List Blk → Option (List AV)
  | [], [] => some []
  | s :: ss, x :: xs => app2 (genXB s x) (genXBs ss xs)
  | _, _ => none
theorem genXBs_mk : ∀ {ss : List BSh} {xs : List Blk} {l : List AV}, genXBs ss xs = some l → ∀ r, mkBs ss (l ++ r) = (xs, r)
  | [], [], l, h, r => by cases h; rfl
  | [], _ :: _, l, h, r => by cases h
  | _ :: _, [], l, h, r => by cases h
  | s :: ss, x :: xs, l, h, r => by
    obtain ⟨a, b, h1, h2, rfl⟩ := app2_some h
    simp only [mkBs]
    rw [List.append_assoc, genXB_mk h1]
    simp only [genXBs_mk h2]
/-- the parts of a result -/
def partsOf : List Sh → SV → Option (List SV)
  | [_], v => some [v]
  | _, (.tup xs, .agg ts) => match Nat.beq xs.length ts.length with
    | true => some (xs.zip ts)
    | false => none
  | _, _ => none
def VSh.ks : VSh → List TyK
  | .rets vs => vs.flatMap Sh.ks
  | .panic _ cs => cs.flatMap CSh.ks
def OSh.ks (sh : OSh) : List TyK := sh.v.ks ++ sh.blks.flatMap BSh.ks
def VSh.gen : VSh → COut → Option (List AV)
  | .rets vs, .ret v => match partsOf vs v with
    | some l => genXs vs l
    | none => none
  | .panic t cs, .panic (.iface u (.agg xs)) => match Nat.beq u t with
    | true => genCs cs xs
    | false => none
  | _, _ => none
def VSh.mk' : VSh → List AV → COut × List AV
  | .rets vs, l => (.ret (asOne (mkSs vs l).1), (mkSs vs l).2)
  | .panic t cs, l => (.panic (.iface t (.agg (mkCs cs l).1)), (mkCs cs l).2)
theorem partsOf_one {vs : List Sh} {v : SV} {l : List SV} {x : List AV} (h : partsOf vs v = some l) (hl : genXs vs l = some x) : asOne l = v := by
  unfold partsOf at h
  split at h
  · cases h; rfl
  · rename_i xs ts hne
    split at h
    · rename_i e
      have e := Nat.eq_of_beq_eq_true e
      cases h
      have h1 : (xs.zip ts).map (·.1) = xs := List.map_fst_zip (by omega)
      have h2 : (xs.zip ts).map (·.2) = ts := List.map_snd_zip (by omega)
      have h3 : ∀ y, xs.zip ts ≠ [y] := by
        intro y hy
        rw [hy] at hl
        cases vs with
        | nil => cases hl
        | cons a rs =>
          cases rs with
          | nil => exact hne a rfl
          | cons b bs =>
            obtain ⟨_, _, _, k, _⟩ := app2_some hl
            cases k
      unfold asOne
      split
      · rename_i y hy; exact absurd hy (h3 y)
      · rw [h1, h2]
    · cases h
  · cases h
theorem VSh.gen_mk {sh : VSh} {o : COut} {l : List AV} (h : sh.gen o = some l) (r : List AV) : sh.mk' (l ++ r) = (o, r) := by
  cases sh with
  | rets vs =>
    cases o with
    | panic v => simp only [VSh.gen] at h; cases h
    | ret v =>
      simp only [VSh.gen] at h
      split at h
      · rename_i ls hp
        simp only [VSh.mk', genXs_mk h]
        rw [partsOf_one hp h]
      · cases h
  | panic t cs =>
    unfold VSh.gen at h
    split at h
    · rename_i h0; cases h0
    · rename_i t' cs' u xs h0
      cases h0
      split at h
      · rename_i e
        obtain rfl := Nat.eq_of_beq_eq_true e
        simp only [VSh.mk', genCs_mk h]
      · cases h
    · cases h
def OSh.gen (sh : OSh) (o : Out) : Option (List AV) := app2 (sh.v.gen o.1) (genXBs sh.blks o.2.H)
def OSh.mk' (sh : OSh) (vals : List AV) : Out := ((sh.v.mk' vals).1, ⟨(mkBs sh.blks (sh.v.mk' vals).2).1, mkT sh.T vals⟩)
theorem OSh.gen_mk {sh : OSh} {o : Out} {l : List AV} (h : sh.gen o = some l) (hT : o.2.T = mkT sh.T l) : sh.mk' l = o := by
  obtain ⟨a, b, h1, h2, rfl⟩ := app2_some h
  obtain ⟨o1, ⟨H, T⟩⟩ := o
  simp only at h1 h2 hT
  have h3 := genXBs_mk h2 []
  rw [List.append_nil] at h3
  unfold OSh.mk'
  rw [VSh.gen_mk h1, ← hT]
  simp only [h3]
/-- an outcome, if it is of this shape -/
def outT (sh : OSh) (o : Out) (g : Cur sh.ks) (els : Tree) : Tree := match sh.gen o with
  | some vals => match sh.T with
    | [] => .need (o.2.T = []) (openC sh.ks vals g)
    | _ => .need (o.2.T = mkT sh.T vals) (openC sh.ks vals g)
  | none => els
def outsT : List OSh → Out → (Out → Tree) → Tree
  | [], _, _ => .fail
  | sh :: r, o, K => outT sh o (mkC sh.ks fun vals => K (sh.mk' vals)) (outsT r o K)
section
variable {W : Orc} {f : FuncId} {Q : Out → Prop}
theorem outsT_w : ∀ {shs : List OSh} {o : Out} {K : Out → Tree}, (outsT shs o K).wp W f Q → (K o).wp W f Q
  | [], _, _, h => h.elim
  | sh :: r, o, K, h => by
    unfold outsT outT at h
    split at h
    · rename_i vals hg
      have h : o.2.T = mkT sh.T vals ∧ (openC sh.ks vals (mkC sh.ks fun vals => K (sh.mk' vals))).wp W f Q := by
        split at h
        · rename_i e; rw [e]; exact h
        · exact h
      have := openC_mkC _ _ _ h.2
      rwa [OSh.gen_mk hg h.1] at this
    · exact outsT_w h
end
end Go.Ab
end
section
/- TREES OF FUNCTIONS; all functions at once; what they come to is the machine's. -/
namespace Go.Ab
open Go.RowKit

/-! ### calls -/
def okT1 (P : Nat → Bool) (x : AV) (t : Tree) : Tree := match x with
  | .ptr b _ => onlyIfT (P b) t
  | .slr b _ _ => onlyIfT (P b) t
  | .bself _ b => onlyIfT (P b) t
  | .sl xs => .need (AV.lows 0 xs = true) t
  | .iface _ (.sl xs) => .need (AV.lows 0 xs = true) t
  | x => onlyIfT (x.low 0) t
def okTs (P : Nat → Bool) : List AV → Tree → Tree
  | [], t => t
  | x :: xs, t => okT1 P x (okTs P xs t)
def okT (P : Nat → Bool) (x : AV) (t : Tree) : Tree := match x with
  | .agg cs => okTs P cs t
  | .tup cs => okTs P cs t
  | .fn _ a b => okTs P a (okTs P b t)
  | x => okT1 P x t
def okArgsT (P : Nat → Bool) : List SV → Tree → Tree
  | [], t => t
  | x :: xs, t => okT P x.1 (okArgsT P xs t)
def okBlksT (P : Nat → Bool) : List Blk → Tree → Tree
  | [], t => t
  | x :: xs, t => okArgsT P x (okBlksT P xs t)
section
variable {W : Orc} {f : FuncId} {Q : Out → Prop} {P : Nat → Bool}
theorem okT1_w {x : AV} {t : Tree} {K : Prop} (h : (okT1 P x t).wp W f Q) (k : t.wp W f Q → K) : okW1 P x K := by
  have oi : ∀ {b : Bool}, (onlyIfT b t).wp W f Q → onlyIf b K := fun h => by
    obtain ⟨h1, h2⟩ := onlyIfT_w h
    rw [h1]; exact k h2
  unfold okT1 at h
  split at h
  · exact oi h
  · exact oi h
  · exact oi h
  · exact ⟨h.1, k h.2⟩
  · exact ⟨h.1, k h.2⟩
  · rename_i h1 h2 h3 h4 h5
    unfold okW1
    split
    · exact absurd rfl (h1 _ _)
    · exact absurd rfl (h2 _ _ _)
    · exact absurd rfl (h3 _ _)
    · exact absurd rfl (h4 _)
    · exact absurd rfl (h5 _ _)
    · exact oi h
theorem okTs_w : ∀ {xs : List AV} {t : Tree} {K : Prop}, (okTs P xs t).wp W f Q → (t.wp W f Q → K) → okWs P xs K
  | [], _, _, h, k => k h
  | _ :: _, _, _, h, k => okT1_w h fun h => okTs_w h k
theorem okT_w {x : AV} {t : Tree} {K : Prop} (h : (okT P x t).wp W f Q) (k : t.wp W f Q → K) : okW P x K := by
  unfold okT at h
  split at h
  · exact okTs_w h k
  · exact okTs_w h k
  · rename_i g a b; exact okTs_w (xs := a) h fun h => okTs_w h k
  · rename_i h1 h2 h3
    unfold okW
    split
    · exact absurd rfl (h1 _)
    · exact absurd rfl (h2 _)
    · exact absurd rfl (h3 _ _ _)
    · exact okT1_w h k
theorem okArgsT_w : ∀ {xs : List SV} {t : Tree} {K : Prop}, (okArgsT P xs t).wp W f Q → (t.wp W f Q → K) → okArgs P xs K
  | [], _, _, h, k => k h
  | _ :: _, _, _, h, k => okT_w h fun h => okArgsT_w h k
theorem okBlksT_w : ∀ {xs : List Blk} {t : Tree} {K : Prop}, (okBlksT P xs t).wp W f Q → (t.wp W f Q → K) → okBlks P xs K
  | [], _, _, h, k => k h
  | _ :: _, _, _, h, k => okArgsT_w h fun h => okBlksT_w h k
end
def Res.toT : Res → (SV → St → Tree) → (AV → St → Tree) → Tree
  | .fail, _, _ => .fail
  | .ret v S, K, _ => K v S
  | .panic v S, _, Kp => Kp v S
  | .need p r, K, Kp => .need p (r.toT K Kp)
  | .cond b x y, K, Kp => Tree.ite b (x.toT K Kp) (y.toT K Kp)
  | .name e r, K, Kp => .nm e fun x => (r x).toT K Kp
  | .ex _ _ _, _, _ => .fail
def KT.kt (k : KT) : Bool := (Spec.mk k fun _ _ => .fail).kt
/-- a call, seen from its caller -/
def callT (kt0 : KT) (R : List SV → St → (SV → St → Tree) → (AV → St → Tree) → Tree) (args : List SV) (S : St) (K : SV → St → Tree) (Kp : AV → St → Tree) : Tree :=
  let kt : Bool := kt0.kt
  let ps := pickP args S
  let ts := pickT kt args S ps
  onlyIfT (!kt || args.all fun x => x.2.low S.T.length) <|
  okArgsT (ps.contains ·) args <|
  okBlksT (ps.contains ·) (ps.map (S.H.getD · [])) <|
  R (args.map (argDown kt ps ts)) (S.pick ps ts)
    (fun v S0 => match kt0 with
      | .big => .need (v.1.low 0 = true ∧ v.2 = .no) (okBlksT (fun _ => true) S0.H (onlyIfT (tagsKept (S.pick ps ts).H S0.H) (K v (S.merge ps ts S0))))
      | _ => okArgsT (fun _ => true) [v] <| okBlksT (fun _ => true) S0.H <| onlyIfT (v.2.low S0.T.length && tagsKept (S.pick ps ts).H S0.H) (K (v.up ps ts S) (S.merge ps ts S0)))
    (fun v S0 => okArgsT (fun _ => true) [(v, .no)] <| okBlksT (fun _ => true) S0.H <| onlyIfT (tagsKept (S.pick ps ts).H S0.H) (Kp (v.up ps S) (S.merge ps ts S0)))
section
variable {W : Orc} {f : FuncId} {Q : Out → Prop}
theorem Res.toT_w {r : Res} : ∀ {K : SV → St → Tree} {Kp : AV → St → Tree}, (r.toT K Kp).wp W f Q → r.wp (fun v S => (K v S).wp W f Q) (fun v S => (Kp v S).wp W f Q) := by
  induction r with
  | fail => intro K Kp h; exact h
  | ret v S => intro K Kp h; exact h
  | panic v S => intro K Kp h; exact h
  | need p r ih => intro K Kp h; exact ⟨h.1, ih h.2⟩
  | cond b x y ihx ihy => intro K Kp h; have h := ite_w h; exact ⟨fun e => ihx (h.1 e), fun e => ihy (h.2 e)⟩
  | name e r ih => intro K Kp h x hx; subst hx; exact ih _ (nm_w h)
  | ex P u r ih => intro K Kp h; exact h.elim
theorem callT_w {sp : Spec} {R : List SV → St → (SV → St → Tree) → (AV → St → Tree) → Tree} (hR : ∀ args S K Kp, (R args S K Kp).wp W f Q → (sp.res args S).wp (fun v S => (K v S).wp W f Q) (fun v S => (Kp v S).wp W f Q))
    {args : List SV} {S : St} {K : SV → St → Tree} {Kp : AV → St → Tree} (h : (callT sp.kt0 R args S K Kp).wp W f Q) : sp.wp args S (fun v S => (K v S).wp W f Q) (fun v S => (Kp v S).wp W f Q) := by
  unfold callT at h
  simp only at h
  rw [show KT.kt sp.kt0 = sp.kt from rfl] at h
  unfold Spec.wp
  obtain ⟨h1, h⟩ := onlyIfT_w h
  rw [h1]
  have toI : ∀ {b : Bool} {t : Tree}, (onlyIfT b t).wp W f Q → onlyIf b (t.wp W f Q) := fun h => by
    obtain ⟨h1, h2⟩ := onlyIfT_w h
    rw [h1]; exact h2
  refine okArgsT_w h fun h => okBlksT_w h fun h => Res.mono (hR _ _ _ _ h) (fun v S0 k => ?_) (fun v S0 k => ?_)
  · cases hk : sp.kt0 with
    | big =>
      rw [hk] at k
      exact ⟨k.1, okBlksT_w k.2 toI⟩
    | no => rw [hk] at k; exact okArgsT_w k fun k => okBlksT_w k toI
    | yes => rw [hk] at k; exact okArgsT_w k fun k => okBlksT_w k toI
  · exact okArgsT_w k fun k => okBlksT_w k toI
end

/-! ### a function's data -/
structure Cut where
  path : List Nat
  n0 : Nat
  m0 : Nat
  own : List Nat
  sh : FSh
structure FnD where
  fn : Func
  code : Code
  kt : KT
  lv : Leave
  cuts : List Cut
  outs : List OSh
structure Lay where
  c : Ctx
  pre : TypeId → Bool
  fns : FuncId → Option FnD
  ext : FuncId → Option Spec

def findCuts : List Cut → Nat → Nat → Nat → List Nat → List (Nat × Cut)
  | [], _, _, _, _ => []
  | c :: r, i, n0, m0, p => match c.path == p && Nat.beq c.n0 n0 && Nat.beq c.m0 m0 with
    | true => (i, c) :: findCuts r (i + 1) n0 m0 p
    | false => findCuts r (i + 1) n0 m0 p
def Cut.fits (c : Cut) (fr : Fr) (S : St) : Bool :=
  dsEq (owned c.own fr S).1.ds c.sh.ds && (genSs c.sh.slots (owned c.own fr S).1.env).isSome && (genBs c.sh.blks (owned c.own fr S).2.H).isSome
/-- the first of some cuts whose shape it is -/
def jumpsK (n0 m0 : Nat) (leaf : Nat → List AV → Tree) (fr : Fr) (S : St) : List (Nat × Cut) → Tree
  | [] => .fail
  | (i, c) :: r => match c.fits fr S with
    | true => jumpK n0 m0 c.own c.sh (leaf i) fr S
    | false => jumpsK n0 m0 leaf fr S r
/-- a function's begin -/
def FnD.begin (d : FnD) (leaf : Nat → List AV → Tree) (args : List SV) (S : St) : Tree :=
  jumpsK S.H.length S.T.length leaf (frame0 d.fn args) S (findCuts d.cuts 0 S.H.length S.T.length [])
def FnD.enter (d : FnD) (g : FuncId) (args : List SV) (S : St) (K : SV → St → Tree) (Kp : AV → St → Tree) : Tree :=
  d.begin (fun i vals => .call g i vals fun o => outsT d.outs o fun o => match o.1 with
    | .ret v => K v o.2
    | .panic v => Kp v o.2) args S
def Lay.ct (L : Lay) : CT := fun k args S K Kp => match L.ext k with
  | some sp => callT sp.kt0 (fun a s k kp => (sp.res a s).toT k kp) args S K Kp
  | none => match L.fns k with
    | some d => callT d.kt (d.enter k) args S K Kp
    | none => .fail
def FnD.jump (d : FnD) (n0 m0 : Nat) (p : List Nat) : Option (Fr → St → Tree) := match findCuts d.cuts 0 n0 m0 p with
  | [] => none
  | cs => some fun fr S => jumpsK n0 m0 .jump fr S cs
def Lay.env (L : Lay) (call : CallFn) (f : FuncId) (n0 m0 : Nat) : Env0 := ⟨L.c, L.pre, n0, m0, call, L.c.drop f⟩
/-- THE TREE of a function's piece -/
def Lay.tree (L : Lay) (call : CallFn) (f : FuncId) (d : FnD) (k : Nat) (vals : List AV) : Tree := match d.cuts[k]? with
  | some cut => (L.env call f cut.n0 cut.m0).codeU ⟨L.ct, d.jump cut.n0 cut.m0⟩ cut.path (subR cut.path d.code) (cut.sh.fr vals) (cut.sh.st vals)
      ((L.env call f cut.n0 cut.m0).contT ⟨L.ct, d.jump cut.n0 cut.m0⟩ d.code (endT L.c L.pre call L.ct d.lv d.fn cut.n0 cut.m0) cut.path)
  | none => .fail
def resOf : Option Out → Res
  | some (.ret v, S) => .ret v S
  | some (.panic v, S) => .panic v S
  | none => .fail
noncomputable def Lay.specOf (W : Orc) (g : FuncId) (d : FnD) : Go.Ab.Spec := ⟨d.kt, fun args S => resOf ((d.begin .jump args S).run W g)⟩
noncomputable def Lay.tab (L : Lay) (W : Orc) : Tab := fun g => match L.ext g with
  | some sp => some sp
  | none => match L.fns g with
    | some d => some (Lay.specOf W g d)
    | none => none
/-- WHAT THE FUNCTIONS' PIECES COME TO, in so many steps -/
noncomputable def Lay.evalN (L : Lay) : Nat → Orc
  | 0 => fun _ _ _ => none
  | n + 1 => fun f k vals => match L.fns f with
    | some d => (L.tree (callOf (L.tab (L.evalN n))) f d k vals).run (L.evalN n) f
    | none => none
open Classical in
/-- what they come to -/
noncomputable def Lay.ev (L : Lay) : Orc := fun f k vals => if h : ∃ o N, ∀ n, N ≤ n → L.evalN n f k vals = some o then some (Classical.choose h) else none
theorem Lay.ev_some {L : Lay} {f : FuncId} {k : Nat} {vals : List AV} {o : Out} (h : L.ev f k vals = some o) : ∃ N, ∀ n, N ≤ n → L.evalN n f k vals = some o := by
  unfold Lay.ev at h
  split at h
  · rename_i hx
    cases h
    exact Classical.choose_spec hx
  · cases h
theorem Lay.ev_of {L : Lay} {f : FuncId} {k : Nat} {vals : List AV} {o : Out} (h : ∃ N, ∀ n, N ≤ n → L.evalN n f k vals = some o) : L.ev f k vals = some o := by
  have hx : ∃ o N, ∀ n, N ≤ n → L.evalN n f k vals = some o := ⟨o, h⟩
  unfold Lay.ev
  rw [dif_pos hx]
  obtain ⟨N, hN⟩ := Classical.choose_spec hx
  obtain ⟨M, hM⟩ := h
  have h1 := hN (max N M) (by omega)
  have h2 := hM (max N M) (by omega)
  rw [h1] at h2
  exact h2
/-- a piece comes to K -/
def Lay.Wp (L : Lay) (f : FuncId) (k : Nat) (vals : List AV) (K : Out → Prop) : Prop := ∃ o, L.ev f k vals = some o ∧ K o
/-- THE LAW's RULE: from a piece's tree to what it comes to -/
theorem Lay.wp_of {L : Lay} {f : FuncId} {d : FnD} (hd : L.fns f = some d) {k : Nat} {vals : List AV} {t : Tree} (ht : ∀ call, L.tree call f d k vals = t) {K : Out → Prop} (h : t.wp L.ev f K) : L.Wp f k vals K := by
  obtain ⟨o, h1, h2⟩ := Tree.wp_run.1 h
  refine ⟨o, Lay.ev_of ?_, h2⟩
  obtain ⟨N, hN⟩ := Tree.run_lim (V := L.evalN) (fun f k vs o h => Lay.ev_some h) h1
  refine ⟨N + 1, fun n hn => ?_⟩
  obtain ⟨m, rfl⟩ : ∃ m, n = m + 1 := ⟨n - 1, by omega⟩
  simp only [Lay.evalN, hd, ht]
  exact hN m (by omega)

/-! ### where code is cut -/
section
variable {c : Ctx} {n0 m0 : Nat}
/-- a loop, of so many rounds -/
def RoundsH (c : Ctx) (n0 m0 : Nat) (body : Code) (N : Nat) (fr : Fr) (S : St) (Q : Post1) : Prop :=
  ∀ B w0 G0 T0 G a w Q', G0.φ.length = n0 → T0.length = m0 → Inv c B w0 G S w → Grows G0 T0 G S.T → FrR G S.T fr a → TagsLow n0 m0 S → PostH c B w0 G0 T0 Q Q' → Code.rounds c.P body Q' N a w
theorem RoundsH.code {body : Code} {N : Nat} {fr : Fr} {S : St} {Q : Post1} (h : RoundsH c n0 m0 body N fr S Q) : CodeH c n0 m0 (.loop body) fr S Q :=
  fun B w0 G0 T0 G a w Q' h1 h2 h3 h4 h5 h6 h7 => wp_loop_rounds N (h B w0 G0 T0 G a w Q' h1 h2 h3 h4 h5 h6 h7)
theorem RoundsH.mono {body : Code} {N M : Nat} (hn : N ≤ M) {fr : Fr} {S : St} {Q Q2 : Post1} (h : RoundsH c n0 m0 body N fr S Q) (hq : ∀ ex fr S, Q ex fr S → Q2 ex fr S) : RoundsH c n0 m0 body M fr S Q2 :=
  fun B w0 G0 T0 G a w Q' h1 h2 h3 h4 h5 h6 h7 => rounds_le hn (h B w0 G0 T0 G a w Q' h1 h2 h3 h4 h5 h6 fun ex fr S q => h7 ex fr S (hq ex fr S q))
theorem RoundsH.wkn {body : Code} {N : Nat} {fr fr2 : Fr} {S S2 : St} {Q : Post1} (hw : Wkn c n0 m0 fr S fr2 S2) (h : RoundsH c n0 m0 body N fr2 S2 Q) : RoundsH c n0 m0 body N fr S Q := by
  intro B w0 G0 T0 G a w Q' h1 h2 h3 h4 h5 h6 h7
  obtain ⟨G2, i3, i4, i5, i6⟩ := hw B w0 G0 T0 G a w h1 h2 h3 h4 h5 h6
  exact h B w0 G0 T0 G2 a w Q' h1 h2 i3 i4 i5 i6 h7
theorem RoundsH.succ {body : Code} {N : Nat} {fr : Fr} {S : St} {Q : Post1} (h : CodeH c n0 m0 body fr S fun ex fr' S' => match ex with
    | .normal => RoundsH c n0 m0 body N fr' S' Q
    | ex => Q ex fr' S') : RoundsH c n0 m0 body (N + 1) fr S Q := by
  intro B w0 G0 T0 G a w Q' h1 h2 h3 h4 h5 h6 h7
  rw [rounds_succ]
  refine h B w0 G0 T0 G a w _ h1 h2 h3 h4 h5 h6 fun ex fr1 S1 hq G1 ex' a1 w1 hex i1 g1 f1 t1 => ?_
  cases ex with
  | normal =>
    cases ex' <;> simp only [ExR] at hex
    exact hq B w0 G0 T0 G1 a1 w1 Q' h1 h2 i1 g1 f1 (by rw [← h1, ← h2]; exact t1) h7
  | _ =>
    cases ex' <;> simp only [ExR] at hex <;> exact h7 _ _ _ hq G1 _ a1 w1 hex i1 g1 f1 t1
/-- what must hold behind the code at a path -/
def contH (c : Ctx) (n0 m0 : Nat) (root : Code) (Qf : Post1) (N : Nat) : List Nat → Post1
  | [] => Qf
  | d :: p => match subR p root with
    | .seq _ b => match d with
      | 0 => fun ex fr S => match ex with
        | .normal => CodeH c n0 m0 b fr S (contH c n0 m0 root Qf N p)
        | ex => contH c n0 m0 root Qf N p ex fr S
      | _ => contH c n0 m0 root Qf N p
    | .block id _ => fun ex fr S => match ex with
      | .exit id' => if id' = id then contH c n0 m0 root Qf N p .normal fr S else contH c n0 m0 root Qf N p (.exit id') fr S
      | ex => contH c n0 m0 root Qf N p ex fr S
    | .loop body => fun ex fr S => match ex with
      | .normal => RoundsH c n0 m0 body N fr S (contH c n0 m0 root Qf N p)
      | ex => contH c n0 m0 root Qf N p ex fr S
    | _ => contH c n0 m0 root Qf N p
theorem contH_more {root : Code} {Qf : Post1} {N : Nat} : ∀ (p : List Nat) ex fr S, contH c n0 m0 root Qf N p ex fr S → contH c n0 m0 root Qf (N + 1) p ex fr S
  | [], _, _, _, h => h
  | d :: p, ex, fr, S, h => by
    have ih := contH_more (root := root) (Qf := Qf) (N := N) p
    cases hs : subR p root with
    | seq a b =>
      cases d with
      | zero =>
        simp only [contH, hs] at h ⊢
        cases ex with
        | normal => exact CodeH.mono h ih
        | _ => exact ih _ _ _ h
      | succ d => simp only [contH, hs] at h ⊢; exact ih _ _ _ h
    | block id b =>
      simp only [contH, hs] at h ⊢
      cases ex with
      | exit i =>
        simp only at h ⊢
        split
        · rename_i e; rw [if_pos e] at h; exact ih _ _ _ h
        · rename_i e; rw [if_neg e] at h; exact ih _ _ _ h
      | _ => exact ih _ _ _ h
    | loop body =>
      simp only [contH, hs] at h ⊢
      cases ex with
      | normal => exact RoundsH.mono (Nat.le_succ N) h ih
      | _ => exact ih _ _ _ h
    | _ => simp only [contH, hs] at h ⊢; exact ih _ _ _ h
/-- the code at a path comes to what must hold behind it -/
def AtH (c : Ctx) (n0 m0 : Nat) (root : Code) (Qf : Post1) (N : Nat) (p : List Nat) (fr : Fr) (S : St) : Prop := match subR p root with
  | .loop body => RoundsH c n0 m0 body N fr S (contH c n0 m0 root Qf N p)
  | k => CodeH c n0 m0 k fr S (contH c n0 m0 root Qf N p)
theorem AtH.code {root : Code} {Qf : Post1} {N : Nat} {p : List Nat} {fr : Fr} {S : St} (h : AtH c n0 m0 root Qf N p fr S) : CodeH c n0 m0 (subR p root) fr S (contH c n0 m0 root Qf N p) := by
  unfold AtH at h
  split at h
  · rename_i body hs; rw [hs]; exact RoundsH.code h
  · exact h
theorem AtH.wkn {root : Code} {Qf : Post1} {N : Nat} {p : List Nat} {fr fr2 : Fr} {S S2 : St} (hw : Wkn c n0 m0 fr S fr2 S2) (h : AtH c n0 m0 root Qf N p fr2 S2) : AtH c n0 m0 root Qf N p fr S := by
  unfold AtH at h ⊢
  split at h
  · exact RoundsH.wkn hw h
  · exact CodeH.wkn hw h
variable {W : Orc} {f : FuncId} {Q : Out → Prop} {tab : Tab}
theorem regionT_sound {e : Env0} {ct : CT} (he : e.c = c) (hn : e.n0 = n0) (hcall : e.call = callOf tab) (hct : CTOk W f Q ct tab) (hm : c.P.follows .mixedOrders = true) (ht : TabSound c tab) {id : Nat} {ops : Array Oper} {draw : Bool} {fr : Fr} {S : St} {Q' : QT}
    (h : (e.regionT ct id ops draw fr S Q').wp W f Q) : CodeH c n0 m0 (.region id ops draw) fr S fun ex fr S => (Q' ex fr S).wp W f Q := by
  have hcs : CallSound c e.call := by rw [hcall]; exact tab_sound ht
  have htags : CallTags e.call := by rw [hcall]; exact tab_tags tab
  have h1 : CodeH c n0 m0 (.region id ops draw) fr S fun ex fr' S' => (Q' ex (dropped (e.drop id) fr') S').wp W f Q := by
    unfold Env0.regionT at h
    cases draw with
    | true =>
      obtain ⟨r, h1, h2⟩ := drawsT_sound hcall hct h
      exact CodeH.region he hm hcs htags hn (by simp only [Env0.region, if_true]; exact h1) h2
    | false =>
      obtain ⟨r, h1, h2⟩ := opsT_sound hcall hct _ _ _ h
      cases r with
      | ok fr' S' => exact CodeH.region (r := (.normal, fr', S')) he hm hcs htags hn (by simp [Env0.region, h1]) h2
      | panic v fr' S' => exact CodeH.region (r := (.panic v, fr', S')) he hm hcs htags hn (by simp [Env0.region, h1]) h2
  exact fun B w0 G0 T0 G a w Q2 k1 k2 k3 k4 k5 k6 k7 => h1 B w0 G0 T0 G a w Q2 k1 k2 k3 k4 k5 k6 fun ex fr' S' hq G1 ex' a1 w1 m1 m2 m3 m4 m5 =>
    k7 _ _ _ hq G1 ex' a1 w1 m1 m2 m3 ⟨m4.env.wk (wk_dropped _ _), m4.ds⟩ m5
/-- THE TREE OF CODE IS RIGHT -/
theorem codeU_sound {e : Env0} {g : GenT} (he : e.c = c) (hn : e.n0 = n0) (hcall : e.call = callOf tab) (hct : CTOk W f Q g.ct tab) (hm : c.P.follows .mixedOrders = true) (ht : TabSound c tab) {root : Code} {fin : QT} {Qf : Post1} {N : Nat}
    (hj : ∀ p J, g.jump p = some J → ∀ fr S, (J fr S).wp W f Q → AtH c n0 m0 root Qf N p fr S) :
    ∀ (k : Code) (p : List Nat), subR p root = k → (∀ ex fr S, (e.contT g root fin p ex fr S).wp W f Q → contH c n0 m0 root Qf N p ex fr S) → ∀ (fr : Fr) (S : St), (e.codeU g p k fr S (e.contT g root fin p)).wp W f Q → CodeH c n0 m0 k fr S (contH c n0 m0 root Qf N p) := by
  have hk : ∀ (k : Code) (p : List Nat), subR p root = k → (∀ fr S, (e.codeU g p k fr S (e.contT g root fin p)).wp W f Q → CodeH c n0 m0 k fr S (contH c n0 m0 root Qf N p)) →
      ∀ fr S, (g.hk p (e.codeU g p k) fr S (e.contT g root fin p)).wp W f Q → CodeH c n0 m0 k fr S (contH c n0 m0 root Qf N p) := by
    intro k p hp ih fr S h
    unfold GenT.hk at h
    split at h
    · rename_i J hJ; have := (hj p J hJ fr S h).code; rw [hp] at this; exact this
    · exact ih fr S h
  intro k
  induction k with
  | skip => intro p _ hc fr S h; exact .skip (hc _ _ _ h)
  | label => intro p _ hc fr S h; exact .label (hc _ _ _ h)
  | exit id => intro p _ hc fr S h; exact .exit (hc _ _ _ h)
  | ret => intro p _ hc fr S h; exact .ret (hc _ _ _ h)
  | region id ops draw =>
    intro p _ hc fr S h
    simp only [Env0.codeU, forceLT_eq] at h
    exact (regionT_sound he hn hcall hct hm ht h).mono hc
  | seq a b iha ihb =>
    intro p hp hc fr S h
    have e1 : e.contT g root fin (1 :: p) = e.contT g root fin p := by simp only [Env0.contT, hp]
    have e0 : e.contT g root fin (0 :: p) = fun ex fr S => match ex with
        | .normal => g.hk (1 :: p) (e.codeU g (1 :: p) b) fr S (e.contT g root fin p)
        | ex => e.contT g root fin p ex fr S := by simp only [Env0.contT, hp]; rfl
    have k1 : contH c n0 m0 root Qf N (1 :: p) = contH c n0 m0 root Qf N p := by simp only [contH, hp]
    have k0 : contH c n0 m0 root Qf N (0 :: p) = fun ex fr S => match ex with
        | .normal => CodeH c n0 m0 b fr S (contH c n0 m0 root Qf N p)
        | ex => contH c n0 m0 root Qf N p ex fr S := by simp only [contH, hp]
    have hb : ∀ fr S, (g.hk (1 :: p) (e.codeU g (1 :: p) b) fr S (e.contT g root fin p)).wp W f Q → CodeH c n0 m0 b fr S (contH c n0 m0 root Qf N p) := by
      have := hk b (1 :: p) (by simp [subR, hp]) (ihb (1 :: p) (by simp [subR, hp]) (by rw [e1, k1]; exact hc))
      rw [e1, k1] at this
      exact this
    have hc0 : ∀ ex fr S, (e.contT g root fin (0 :: p) ex fr S).wp W f Q → contH c n0 m0 root Qf N (0 :: p) ex fr S := by
      rw [e0, k0]
      intro ex fr S h
      cases ex with
      | normal => exact hb fr S h
      | _ => exact hc _ _ _ h
    have ha := hk a (0 :: p) (by simp [subR, hp]) (iha (0 :: p) (by simp [subR, hp]) hc0) fr S
    rw [e0, k0] at ha
    exact .seq (ha h)
  | cond x a b iha ihb =>
    intro p hp hc fr S h
    have e1 : ∀ d, e.contT g root fin (d :: p) = e.contT g root fin p := fun d => by simp only [Env0.contT, hp]
    have k1 : ∀ d, contH c n0 m0 root Qf N (d :: p) = contH c n0 m0 root Qf N p := fun d => by simp only [contH, hp]
    have ha := hk a (0 :: p) (by simp [subR, hp]) (iha (0 :: p) (by simp [subR, hp]) (by rw [e1, k1]; exact hc)) fr S
    have hb := hk b (1 :: p) (by simp [subR, hp]) (ihb (1 :: p) (by simp [subR, hp]) (by rw [e1, k1]; exact hc)) fr S
    rw [e1, k1] at ha hb
    simp only [Env0.codeU] at h
    split at h
    · rename_i t hx
      have h := ite_w h
      exact .cond (by rw [← he]; exact hx) (fun e => ha (h.1 e)) (fun e => hb (h.2 e))
    · exact h.elim
  | block id body ih =>
    intro p hp hc fr S h
    have e0 : e.contT g root fin (0 :: p) = fun ex fr S => match ex with
        | .exit id' => if id' = id then e.contT g root fin p .normal fr S else e.contT g root fin p (.exit id') fr S
        | ex => e.contT g root fin p ex fr S := by simp only [Env0.contT, hp]; rfl
    have k0 : contH c n0 m0 root Qf N (0 :: p) = fun ex fr S => match ex with
        | .exit id' => if id' = id then contH c n0 m0 root Qf N p .normal fr S else contH c n0 m0 root Qf N p (.exit id') fr S
        | ex => contH c n0 m0 root Qf N p ex fr S := by simp only [contH, hp]
    have hc0 : ∀ ex fr S, (e.contT g root fin (0 :: p) ex fr S).wp W f Q → contH c n0 m0 root Qf N (0 :: p) ex fr S := by
      rw [e0, k0]
      intro ex fr S h
      cases ex with
      | exit i =>
        simp only at h ⊢
        split
        · rename_i e; rw [if_pos e] at h; exact hc _ _ _ h
        · rename_i e; rw [if_neg e] at h; exact hc _ _ _ h
      | _ => exact hc _ _ _ h
    have ha := hk body (0 :: p) (by simp [subR, hp]) (ih (0 :: p) (by simp [subR, hp]) hc0) fr S
    rw [e0, k0] at ha
    refine .block ((ha h).mono fun ex fr S hq => ?_)
    cases ex <;> exact hq
  | loop body ih =>
    intro p hp hc fr S h
    have e0 : e.contT g root fin (0 :: p) = fun ex fr S => match ex with
        | .normal => match g.jump p with
          | some J => J fr S
          | none => .fail
        | ex => e.contT g root fin p ex fr S := by simp only [Env0.contT, hp]; rfl
    have k0 : contH c n0 m0 root Qf N (0 :: p) = fun ex fr S => match ex with
        | .normal => RoundsH c n0 m0 body N fr S (contH c n0 m0 root Qf N p)
        | ex => contH c n0 m0 root Qf N p ex fr S := by simp only [contH, hp]
    have hc0 : ∀ ex fr S, (e.contT g root fin (0 :: p) ex fr S).wp W f Q → contH c n0 m0 root Qf N (0 :: p) ex fr S := by
      rw [e0, k0]
      intro ex fr S h
      cases ex with
      | normal =>
        simp only at h ⊢
        split at h
        · rename_i J hJ
          have := hj p J hJ fr S h
          unfold AtH at this
          rw [hp] at this
          exact this
        · exact h.elim
      | _ => exact hc _ _ _ h
    have ha := hk body (0 :: p) (by simp [subR, hp]) (ih (0 :: p) (by simp [subR, hp]) hc0) fr S
    rw [e0, k0] at ha
    exact (RoundsH.succ (ha h)).code
  | rangeFunc => intro p _ _ fr S h; simp [Env0.codeU, Tree.wp] at h
  | scope => intro p _ _ fr S h; simp [Env0.codeU, Tree.wp] at h
  | goto => intro p _ _ fr S h; simp [Env0.codeU, Tree.wp] at h
  | refuse => intro p _ _ fr S h; simp [Env0.codeU, Tree.wp] at h
theorem contT_sound {e : Env0} {g : GenT} (he : e.c = c) (hn : e.n0 = n0) (hcall : e.call = callOf tab) (hct : CTOk W f Q g.ct tab) (hm : c.P.follows .mixedOrders = true) (ht : TabSound c tab) {root : Code} {fin : QT} {Qf : Post1} {N : Nat}
    (hj : ∀ p J, g.jump p = some J → ∀ fr S, (J fr S).wp W f Q → AtH c n0 m0 root Qf N p fr S) (hf : ∀ ex fr S, (fin ex fr S).wp W f Q → Qf ex fr S) :
    ∀ (p : List Nat) ex fr S, (e.contT g root fin p ex fr S).wp W f Q → contH c n0 m0 root Qf N p ex fr S
  | [], ex, fr, S, h => hf _ _ _ h
  | d :: p, ex, fr, S, h => by
    have ih := contT_sound he hn hcall hct hm ht hj hf p
    cases hs : subR p root with
    | seq a b =>
      cases d with
      | zero =>
        simp only [contH, Env0.contT, hs] at h ⊢
        have e1 : e.contT g root fin (1 :: p) = e.contT g root fin p := by simp only [Env0.contT, hs]
        have k1 : contH c n0 m0 root Qf N (1 :: p) = contH c n0 m0 root Qf N p := by simp only [contH, hs]
        cases ex with
        | normal =>
          simp only [GenT.hk] at h
          split at h
          · rename_i J hJ
            have := (hj (1 :: p) J hJ fr S h).code
            rw [k1] at this
            simpa [subR, hs] using this
          · have := codeU_sound he hn hcall hct hm ht hj b (1 :: p) (by simp [subR, hs]) (by rw [e1, k1]; exact ih) fr S (by rw [e1]; exact h)
            rw [k1] at this
            exact this
        | _ => exact ih _ _ _ h
      | succ d => simp only [contH, Env0.contT, hs] at h ⊢; exact ih _ _ _ h
    | block id b =>
      simp only [contH, Env0.contT, hs] at h ⊢
      cases ex with
      | exit i =>
        simp only at h ⊢
        split
        · rename_i e; rw [if_pos e] at h; exact ih _ _ _ h
        · rename_i e; rw [if_neg e] at h; exact ih _ _ _ h
      | _ => exact ih _ _ _ h
    | loop body =>
      simp only [contH, Env0.contT, hs] at h ⊢
      cases ex with
      | normal =>
        simp only at h ⊢
        split at h
        · rename_i J hJ
          have := hj p J hJ fr S h
          unfold AtH at this
          rw [hs] at this
          exact this
        · exact h.elim
      | _ => exact ih _ _ _ h
    | _ => simp only [contH, Env0.contT, hs] at h ⊢; exact ih _ _ _ h
end
end Go.Ab
end
section
/- EVERY FUNCTION OF THE TABLE MEETS WHAT ITS TREE COMES TO. -/
namespace Go.Ab
open Go.RowKit

section
variable {c : Ctx} {n0 m0 : Nat}
/-- what a body's end may come to, its deferred call by whatever contracts hold -/
def EndsT (c : Ctx) (pre : TypeId → Bool) (fn : Func) (n0 m0 : Nat) (p : Out) : Post1 := fun ex fr S => ∃ tab, TabSound c tab ∧ EndsV c pre (callOf tab) fn n0 m0 p ex fr S
theorem fn_soundT {pre : TypeId → Bool} (hm : c.P.follows .mixedOrders = true) (hname : ∀ (f : FuncId) (fn : Func), c.P.funcs[f]? = some fn → (fn.name == "runtime.NumGoroutine") = false) {f : FuncId} {fn : Func} {k : Code}
    (hf : c.P.funcs[f]? = some fn) (hb : fn.body = some k) {sp : Spec}
    (h : ∀ args S K Kp, (sp.res args S).wp K Kp → CodeH c S.H.length S.T.length k (frame0 fn args) S fun ex fr S1 => ∃ p, EndsT c pre fn S.H.length S.T.length p ex fr S1 ∧ outTo p K Kp) : SpecSound c f sp := by
  intro args S p hp B w0 G w vs inv ha
  refine .inl ⟨enter_run hf (hname f fn hf) hb _ _, calls_of_wp_defers hf hb ?_⟩
  refine h args S _ _ hp B w0 G S.T G _ w _ inv.lenφ rfl inv (.refl _ _) (frame0_sound ha) (fun b cells hb hc x hx => inv.tag b cells hc x hx) fun ex fr S1 hq G' ex' a' w' h1 h2 h3 h4 h5 => ?_
  obtain ⟨p', ⟨tab, ht, he⟩, hto⟩ := hq
  have htags := tab_tags tab
  have hcall := tab_sound ht
  have hd : ∀ (S : St) (d : Nat → List Tmp), DrawSound c B w0 ⟨c, pre, S.H.length, S.T.length, callOf tab, d⟩ := fun S d => draws_sound rfl hm hcall
  have hpp : p = p' := by
    unfold outTo at hto
    obtain ⟨o, S2⟩ := p'
    cases o <;> exact hto
  subst hpp
  have hlen : S.H.length ≤ S1.H.length := by rw [← inv.lenφ, ← h2.lenφ]; exact len_le_of h3.φ
  have htl : TagsLow S.H.length S.T.length S1 := by rw [inv.lenφ] at h5; exact h5
  have fin : ∀ {G2 : Gh} {S2 : St} {w2 : World} {env : Env} {vs' : List SV}, Inv c B w0 G2 S2 w2 → Grows G S.T G2 S2.T → TagsLow S.H.length S.T.length S2 → EnvR G2 S2.T env a' → allSome (fn.results.toList.map (c.result env S2)) = some vs' →
      ((∀ v ∈ vs', v.1.low S.H.length = true) ∧ p = (.ret (asOne (vs'.map fun v => (v.1, .no))), ⟨S2.H.take S.H.length, S2.T.take S.T.length⟩) ∨ p = (.ret (asOne vs'), S2)) →
      ∃ v, (results fn a'.tmps).run c.P w2 = .ok v w2 ∧ ∃ G'', Inv c B w0 G'' p.2 w2 ∧ Grows G S.T G'' p.2.T ∧ OutR G'' p.2.T p.1 (.returned v) := by
    intro G2 S2 w2 env vs' i2 g2 t2 e2 hvs hout
    obtain ⟨us, r1, r2⟩ := results_sound i2 e2 hvs
    refine ⟨_, r1, ?_⟩
    rcases hout with ⟨hl, rfl⟩ | rfl
    · have hrl : RSl (G2.cut S.H.length S.T.length) (S2.T.take S.T.length) (vs'.map fun v => (v.1, .no)) us := r2.plain hl
      exact ⟨_, i2.cut t2, g2.cut (n := S.H.length) (m := S.T.length) (by rw [inv.lenφ]; exact Nat.le_refl _) (Nat.le_refl _), hrl.one⟩
    · exact ⟨_, i2, g2, r2.one⟩
  rcases he with (⟨n, he⟩ | ⟨hds, hex, vs', hvs, hout⟩) | ⟨n, g1, dargs, u, u', S3, hds, hmode, hdef, vs', hvs, hout⟩
  · obtain ⟨out, S2⟩ := p
    exact ends_sound (q := (ex, fr, S1)) hcall htags hd hname inv htl hlen he G' ex' a' w' h1 h2 h3 h4
  · have hds' : a'.defers = [] := by
      have := h4.ds
      rw [hds] at this
      cases hd2 : a'.defers with
      | nil => rfl
      | cons x xs => rw [hd2] at this; exact this.elim
    have hfin := fin h2 h3 htl h4.env hvs hout
    rcases hex with rfl | rfl <;> cases ex' <;> simp only [ExR] at h1
    · show Leaves _ _ _ _ a'.defers _ _
      rw [hds']; exact hfin
    · show Leaves _ _ _ _ a'.defers _ _
      rw [hds']; exact hfin
  · obtain ⟨env, ds⟩ := fr
    simp only at hds
    subst hds
    rcases hmode with ⟨hex, rfl, rfl⟩ | ⟨v, rfl, rfl, rfl⟩
    · have hfin := defer_main hcall htags hd hname (fn := fn) (R0 := fun en w' => ∃ G', Inv c B w0 G' p.2 w' ∧ Grows G S.T G' p.2.T ∧ OutR G' p.2.T p.1 en) htl hlen h2 h3 h4 (u := .returning) (u' := .returning) (m := .returning) (by simp) rfl hdef fun G2 w2 i2 g2 t2 e2 m2 u2 => by
        have : m2 = .returning := u2
        subst this
        exact fin i2 g2 t2 e2 hvs hout
      rcases hex with rfl | rfl <;> cases ex' <;> simp only [ExR] at h1
      · exact hfin
      · exact hfin
    · cases ex' <;> simp only [ExR] at h1
      obtain ⟨v', rfl, hv⟩ := h1
      exact defer_main hcall htags hd hname (fn := fn) htl hlen h2 h3 h4 (u := .panics v) (u' := .recovered) (by simp) ⟨v', rfl, hv⟩ hdef fun G2 w2 i2 g2 t2 e2 m2 u2 => by
        obtain ⟨v2, rfl⟩ := u2
        exact fin i2 g2 t2 e2 hvs hout
end
theorem resOf_wp {m : Option Out} {K : SV → St → Prop} {Kp : AV → St → Prop} (h : (resOf m).wp K Kp) : ∃ o, m = some o ∧ outTo o K Kp := by
  rcases m with _ | ⟨o, S⟩
  · exact h.elim
  · cases o <;> exact ⟨_, rfl, h⟩
theorem resOf_of {m : Option Out} {o : Out} (hm : m = some o) {K : SV → St → Prop} {Kp : AV → St → Prop} (h : outTo o K Kp) : (resOf m).wp K Kp := by
  subst hm
  obtain ⟨o, S⟩ := o
  cases o <;> exact h
/-- a function's begin, taken for another leaf -/
theorem jumps_swap {W W' : Orc} {f f' : FuncId} {Q Q' : Out → Prop} {n0 m0 : Nat} {leaf leaf' : Nat → List AV → Tree} {fr : Fr} {S : St} (k : ∀ i vals, (leaf i vals).wp W f Q → (leaf' i vals).wp W' f' Q') :
    ∀ {cs : List (Nat × Cut)}, (jumpsK n0 m0 leaf fr S cs).wp W f Q → (jumpsK n0 m0 leaf' fr S cs).wp W' f' Q'
  | [], h => h.elim
  | (i, c) :: r, h => by
    simp only [jumpsK] at h ⊢
    split at h
    · exact jumpK_swap h (k i)
    · exact jumps_swap k h
theorem jumps_w {W : Orc} {f : FuncId} {Q : Out → Prop} {c : Ctx} {n0 m0 : Nat} {leaf : Nat → List AV → Tree} {fr : Fr} {S : St} :
    ∀ {cs : List (Nat × Cut)}, (jumpsK n0 m0 leaf fr S cs).wp W f Q → ∃ i cut, (i, cut) ∈ cs ∧ ∃ vals, Wkn c n0 m0 fr S (cut.sh.fr vals) (cut.sh.st vals) ∧ (leaf i vals).wp W f Q
  | [], h => h.elim
  | (i, c1) :: r, h => by
    simp only [jumpsK] at h
    split at h
    · obtain ⟨vals, h1, h2⟩ := jumpK_w (c := c) h
      exact ⟨i, c1, List.mem_cons_self .., vals, h1, h2⟩
    · obtain ⟨j, cut, h1, h2⟩ := jumps_w h
      exact ⟨j, cut, List.mem_cons_of_mem _ h1, h2⟩
/-- the calls' trees are right -/
theorem Lay.ct_ok (L : Lay) {W : Orc} {f : FuncId} {Q : Out → Prop} : CTOk W f Q L.ct (L.tab W) := by
  intro k args S K Kp h
  unfold Lay.ct at h
  unfold Lay.tab
  split at h
  · rename_i sp he
    refine ⟨sp, rfl, ?_⟩
    exact callT_w (sp := sp) (fun args S K Kp h => Res.toT_w h) h
  · rename_i he
    split at h
    · rename_i d hd
      refine ⟨Lay.specOf W k d, rfl, ?_⟩
      refine callT_w (sp := Lay.specOf W k d) (fun args S K Kp h => ?_) h
      have h2 : (d.begin .jump args S).wp W k fun o => outTo o (fun v S => (K v S).wp W f Q) (fun v S => (Kp v S).wp W f Q) := by
        refine jumps_swap (fun i vals hl => ?_) h
        obtain ⟨o, h1, h2⟩ := hl
        refine ⟨o, h1, ?_⟩
        have h3 := outsT_w h2
        obtain ⟨o1, S1⟩ := o
        cases o1 <;> exact h3
      obtain ⟨o, h3, h4⟩ := Tree.wp_run.1 h2
      exact resOf_of h3 h4
    · exact h.elim

/-- the table fits the program -/
structure Lay.Fits (L : Lay) : Prop where
  hm : L.c.P.follows .mixedOrders = true
  hname : ∀ (f : FuncId) (fn : Func), L.c.P.funcs[f]? = some fn → (fn.name == "runtime.NumGoroutine") = false
  fns : ∀ f d, L.fns f = some d → L.c.P.funcs[f]? = some d.fn ∧ d.fn.body = some d.code
  ext : ∀ f sp, L.ext f = some sp → SpecSound L.c f sp
theorem findCuts_at : ∀ {cs : List Cut} {i n0 m0 : Nat} {p : List Nat} {j : Nat} {cut : Cut}, (j, cut) ∈ findCuts cs i n0 m0 p → i ≤ j ∧ cs[j - i]? = some cut ∧ cut.path = p ∧ cut.n0 = n0 ∧ cut.m0 = m0
  | [], _, _, _, _, _, _, h => by cases h
  | c :: r, i, n0, m0, p, j, cut, h => by
    have step : (j, cut) ∈ findCuts r (i + 1) n0 m0 p → i ≤ j ∧ (c :: r)[j - i]? = some cut ∧ cut.path = p ∧ cut.n0 = n0 ∧ cut.m0 = m0 := by
      intro h
      obtain ⟨h1, h2, h3⟩ := findCuts_at h
      refine ⟨by omega, ?_, h3⟩
      rw [show j - i = (j - (i + 1)) + 1 by omega]
      simpa using h2
    simp only [findCuts] at h
    split at h
    · rename_i e
      rcases List.mem_cons.1 h with h | h
      · cases h
        simp only [Bool.and_eq_true] at e
        exact ⟨Nat.le_refl _, by simp, eq_of_beq e.1.1, Nat.eq_of_beq_eq_true e.1.2, Nat.eq_of_beq_eq_true e.2⟩
      · exact step h
    · exact step h
section
variable {L : Lay}
/-- what a piece comes to, the machine comes to -/
def PieceOk (L : Lay) (n : Nat) : Prop := ∀ f d, L.fns f = some d → ∀ k cut, d.cuts[k]? = some cut → ∀ vals (Q : Out → Prop), (∃ o, L.evalN n f k vals = some o ∧ Q o) →
  AtH L.c cut.n0 cut.m0 d.code (fun ex fr S => ∃ p, EndsT L.c L.pre d.fn cut.n0 cut.m0 p ex fr S ∧ Q p) n cut.path (cut.sh.fr vals) (cut.sh.st vals)
theorem spec_ok (hL : L.Fits) {n : Nat} (hp : PieceOk L n) {f : FuncId} {d : FnD} (hd : L.fns f = some d) : SpecSound L.c f (Lay.specOf (L.evalN n) f d) := by
  obtain ⟨h1, h2⟩ := hL.fns f d hd
  refine fn_soundT (pre := L.pre) hL.hm hL.hname h1 h2 fun args S K Kp h => ?_
  obtain ⟨o, h6, h7⟩ := resOf_wp h
  have h8 := (Tree.wp_run (K := fun o => outTo o K Kp)).2 ⟨o, h6, h7⟩
  obtain ⟨i, cut, hin, vals, hw, hl⟩ := jumps_w (c := L.c) h8
  obtain ⟨_, hc, h4, e1, e2⟩ := findCuts_at hin
  have hAt := hp f d hd i cut hc vals (fun o => outTo o K Kp) hl
  rw [e1, e2] at hAt
  have := (AtH.wkn hw hAt).code
  rw [h4] at this
  exact this
theorem tab_ok (hL : L.Fits) {n : Nat} (hp : PieceOk L n) : TabSound L.c (L.tab (L.evalN n)) := by
  intro f sp h
  unfold Lay.tab at h
  split at h
  · rename_i s he; cases h; exact hL.ext f _ he
  · split at h
    · rename_i d hd; cases h; exact spec_ok hL hp hd
    · cases h
theorem piece_ok (hL : L.Fits) : ∀ n, PieceOk L n
  | 0 => fun f d hd k cut hc vals Q h => by
    obtain ⟨o, h, _⟩ := h
    cases h
  | n + 1 => fun f d hd k cut hc vals Q h => by
    have ih := piece_ok hL n
    have ht := tab_ok hL ih
    obtain ⟨o, ho, hQ⟩ := h
    simp only [Lay.evalN, hd] at ho
    have hw := Tree.wp_run.2 ⟨o, ho, hQ⟩
    unfold Lay.tree at hw
    rw [hc] at hw
    simp only at hw
    have hfin : ∀ ex fr S, (endT L.c L.pre (callOf (L.tab (L.evalN n))) L.ct d.lv d.fn cut.n0 cut.m0 ex fr S).wp (L.evalN n) f Q → ∃ p, EndsT L.c L.pre d.fn cut.n0 cut.m0 p ex fr S ∧ Q p := by
      intro ex fr S h
      obtain ⟨p, h1, h2⟩ := endT_ends rfl L.ct_ok h
      exact ⟨p, ⟨_, ht, h1⟩, h2⟩
    have hj : ∀ p J, d.jump cut.n0 cut.m0 p = some J → ∀ fr S, (J fr S).wp (L.evalN n) f Q → AtH L.c cut.n0 cut.m0 d.code (fun ex fr S => ∃ p, EndsT L.c L.pre d.fn cut.n0 cut.m0 p ex fr S ∧ Q p) n p fr S := by
      intro p J hJ fr S h
      unfold FnD.jump at hJ
      split at hJ
      · cases hJ
      · cases hJ
        obtain ⟨i, c1, hin, vals', hwk, hl⟩ := jumps_w (c := L.c) h
        obtain ⟨_, g2, g3, g4, g5⟩ := findCuts_at hin
        have := ih f d hd i c1 g2 vals' Q hl
        rw [g3, g4, g5] at this
        exact AtH.wkn hwk this
    have hcont := contT_sound (c := L.c) (n0 := cut.n0) (m0 := cut.m0) (e := L.env (callOf (L.tab (L.evalN n))) f cut.n0 cut.m0) (g := ⟨L.ct, d.jump cut.n0 cut.m0⟩) rfl rfl rfl (L.ct_ok) hL.hm ht (root := d.code) (Qf := fun ex fr S => ∃ p, EndsT L.c L.pre d.fn cut.n0 cut.m0 p ex fr S ∧ Q p) (N := n) hj hfin
    have hU := codeU_sound (c := L.c) (n0 := cut.n0) (m0 := cut.m0) (e := L.env (callOf (L.tab (L.evalN n))) f cut.n0 cut.m0) (g := ⟨L.ct, d.jump cut.n0 cut.m0⟩) rfl rfl rfl (L.ct_ok) hL.hm ht (fin := endT L.c L.pre (callOf (L.tab (L.evalN n))) L.ct d.lv d.fn cut.n0 cut.m0) hj
    generalize L.env (callOf (L.tab (L.evalN n))) f cut.n0 cut.m0 = e at hw hcont hU
    generalize endT L.c L.pre (callOf (L.tab (L.evalN n))) L.ct d.lv d.fn cut.n0 cut.m0 = fin at hw hcont hU
    generalize (fun ex fr S => ∃ p, EndsT L.c L.pre d.fn cut.n0 cut.m0 p ex fr S ∧ Q p) = Qf at hj hcont hU ⊢
    unfold AtH
    split
    · rename_i body hs
      rw [hs] at hw
      -- one round, then the loop again
      have e0 : e.contT ⟨L.ct, d.jump cut.n0 cut.m0⟩ d.code fin (0 :: cut.path) = fun ex fr S => match ex with
          | .normal => match d.jump cut.n0 cut.m0 cut.path with
            | some J => J fr S
            | none => .fail
          | ex => e.contT ⟨L.ct, d.jump cut.n0 cut.m0⟩ d.code fin cut.path ex fr S := by simp only [Env0.contT, hs] <;> rfl
      have k0 : contH L.c cut.n0 cut.m0 d.code Qf n (0 :: cut.path) = fun ex fr S => match ex with
          | .normal => RoundsH L.c cut.n0 cut.m0 body n fr S (contH L.c cut.n0 cut.m0 d.code Qf n cut.path)
          | ex => contH L.c cut.n0 cut.m0 d.code Qf n cut.path ex fr S := by simp only [contH, hs] <;> rfl
      have hb : CodeH L.c cut.n0 cut.m0 body (cut.sh.fr vals) (cut.sh.st vals) (contH L.c cut.n0 cut.m0 d.code Qf n (0 :: cut.path)) := by
        have hw2 : (GenT.hk ⟨L.ct, d.jump cut.n0 cut.m0⟩ (0 :: cut.path) (e.codeU ⟨L.ct, d.jump cut.n0 cut.m0⟩ (0 :: cut.path) body) (cut.sh.fr vals) (cut.sh.st vals)
            (e.contT ⟨L.ct, d.jump cut.n0 cut.m0⟩ d.code fin (0 :: cut.path))).wp (L.evalN n) f Q := by
          rw [e0]; exact hw
        unfold GenT.hk at hw2
        split at hw2
        · rename_i J hJ
          have := (hj (0 :: cut.path) J hJ _ _ hw2).code
          simpa [subR, hs] using this
        · exact hU body (0 :: cut.path) (by simp [subR, hs]) (hcont (0 :: cut.path)) _ _ hw2
      rw [k0] at hb
      exact RoundsH.mono (Nat.le_refl _) (RoundsH.succ hb) (contH_more cut.path)
    · exact (hU _ cut.path rfl (hcont cut.path) _ _ hw).mono (contH_more cut.path)
/-- WHAT A FUNCTION COMES TO, as a contract -/
theorem spec_sound (hL : L.Fits) {f : FuncId} {d : FnD} (hd : L.fns f = some d) (n : Nat) : SpecSound L.c f (Lay.specOf (L.evalN n) f d) := spec_ok hL (piece_ok hL n) hd
/-- a run of a function, out of the law's part -/
theorem run_spec {f : FuncId} {d : FnD} {args : List SV} {S : St} {o : Out} (h : (d.begin .jump args S).wp L.ev f (fun o' => o' = o)) : ∃ n, ((Lay.specOf (L.evalN n) f d).res args S).is o := by
  obtain ⟨o', h1, rfl⟩ := Tree.wp_run.1 h
  obtain ⟨N, hN⟩ := Tree.run_lim (V := L.evalN) (fun f k vs o h => Lay.ev_some h) h1
  refine ⟨N, resOf_of (hN N (Nat.le_refl _)) ?_⟩
  unfold outTo
  obtain ⟨o, S'⟩ := o'
  cases o <;> rfl
end
end Go.Ab
end
section
/- THE LAW's PART: what trees come to, in plain words. -/
namespace Go.Ab
section
variable {L : Lay} {f : FuncId} {K : Out → Prop}
theorem tw_done {o : Out} : (Tree.done o).wp L.ev f K ↔ K o := Iff.rfl
theorem tw_jump {k : Nat} {vs : List AV} : (Tree.jump k vs).wp L.ev f K ↔ L.Wp f k vs K := Iff.rfl
theorem tw_need {p : Prop} {t : Tree} : (Tree.need p t).wp L.ev f K ↔ p ∧ t.wp L.ev f K := Iff.rfl
theorem tw_needR {α : Type} {x : α} {t : Tree} : (Tree.need (x = x) t).wp L.ev f K ↔ t.wp L.ev f K := ⟨fun h => h.2, fun h => ⟨rfl, h⟩⟩
theorem tw_bindS {α : Type} {x : α} {k : α → Tree} : (Tree.bind (some x) k).wp L.ev f K ↔ (k x).wp L.ev f K :=
  ⟨fun ⟨_, h1, h2⟩ => by cases h1; exact h2, fun h => ⟨x, rfl, h⟩⟩
theorem tw_nm {α : Type} {e : α} {k : α → Tree} : (Tree.nm e k).wp L.ev f K ↔ (k e).wp L.ev f K := tw_bindS
theorem tw_ite {b : Bool} {A B : Tree} : (Tree.ite b A B).wp L.ev f K ↔ if b = true then A.wp L.ev f K else B.wp L.ev f K := by
  cases b <;> exact Iff.rfl
theorem tw_iteT {A B : Tree} : (Tree.ite true A B).wp L.ev f K ↔ A.wp L.ev f K := Iff.rfl
theorem tw_iteF {A B : Tree} : (Tree.ite false A B).wp L.ev f K ↔ B.wp L.ev f K := Iff.rfl
theorem tw_callT {g : FuncId} {i : Nat} {vs : List AV} {k : Out → Tree} : (Tree.call g i vs k).wp L.ev f K ↔ L.Wp g i vs fun o => (k o).wp L.ev f K := Iff.rfl
theorem tw_opnS {ks : List TyK} {vs : List AV} {g : Cur ks} : (Tree.opn ks (some vs) g).wp L.ev f K ↔ (openC ks vs g).wp L.ev f K := tw_bindS
end
theorem openC_nil {g : Cur []} : openC [] [] g = g := rfl
theorem openC_int {k : IntKind} {r : List TyK} {n : Int} {vs : List AV} {g : Cur (.int k :: r)} : openC (.int k :: r) (.int k n :: vs) g = openC r vs (g n) := by
  simp [openC, getI, optT]
theorem openC_str {r : List TyK} {n : List UInt8} {vs : List AV} {g : Cur (.str :: r)} : openC (.str :: r) (.str n :: vs) g = openC r vs (g n) := rfl
theorem openC_sl {r : List TyK} {n : List AV} {vs : List AV} {g : Cur (.sl :: r)} : openC (.sl :: r) (.sl n :: vs) g = openC r vs (g n) := rfl
theorem wrap64 {x : Int} (h1 : -9223372036854775808 ≤ x) (h2 : x ≤ 9223372036854775807) : IntKind.wrap .i64 x = x := by
  rw [IntKind.wrap_i64]; omega
end Go.Ab
end
section
/- FROM A FUNCTION's TREE TO THE ROW's WALK. -/
namespace Go.Ab
open Go.RowKit
/-- a table of functions -/
def fnsL : List (FuncId × FnD) → FuncId → Option FnD
  | [], _ => none
  | (g, d) :: r, f => match Nat.beq g f with
    | true => some d
    | false => fnsL r f
theorem fnsL_mem : ∀ {l : List (FuncId × FnD)} {f : FuncId} {d : FnD}, fnsL l f = some d → (f, d) ∈ l
  | (g, e) :: r, f, d, h => by
    simp only [fnsL] at h
    split at h
    · rename_i e2
      rw [Nat.eq_of_beq_eq_true e2] at *
      cases h
      exact List.mem_cons_self ..
    · exact List.mem_cons_of_mem _ (fnsL_mem h)
def extL : List (FuncId × Go.Ab.Spec) → FuncId → Option Go.Ab.Spec
  | [], _ => none
  | (g, d) :: r, f => match Nat.beq g f with
    | true => some d
    | false => extL r f
theorem extL_mem : ∀ {l : List (FuncId × Go.Ab.Spec)} {f : FuncId} {d : Go.Ab.Spec}, extL l f = some d → (f, d) ∈ l
  | (g, e) :: r, f, d, h => by
    simp only [extL] at h
    split at h
    · rename_i e2
      rw [Nat.eq_of_beq_eq_true e2] at *
      cases h
      exact List.mem_cons_self ..
    · exact List.mem_cons_of_mem _ (extL_mem h)
/-- the table fits, function by function -/
inductive FnsOk (P : Program) : List (FuncId × FnD) → Prop
  | nil : FnsOk P []
  | cons {f : FuncId} {d : FnD} {l : List (FuncId × FnD)} (h1 : P.funcs[f]? = some d.fn) (h2 : d.fn.body = some d.code) (h : FnsOk P l) : FnsOk P ((f, d) :: l)
theorem FnsOk.mem {P : Program} {l : List (FuncId × FnD)} (h : FnsOk P l) : ∀ {f : FuncId} {d : FnD}, (f, d) ∈ l → P.funcs[f]? = some d.fn ∧ d.fn.body = some d.code := by
  induction h with
  | nil => intro f d h; cases h
  | cons h1 h2 _ ih =>
    intro f d h
    rcases List.mem_cons.1 h with h | h
    · cases h; exact ⟨h1, h2⟩
    · exact ih h
inductive ExtsOk (c : Ctx) : List (FuncId × Go.Ab.Spec) → Prop
  | nil : ExtsOk c []
  | cons {f : FuncId} {d : Go.Ab.Spec} {l : List (FuncId × Go.Ab.Spec)} (h1 : SpecSound c f d) (h : ExtsOk c l) : ExtsOk c ((f, d) :: l)
theorem ExtsOk.mem {c : Ctx} {l : List (FuncId × Go.Ab.Spec)} (h : ExtsOk c l) : ∀ {f : FuncId} {d : Go.Ab.Spec}, (f, d) ∈ l → SpecSound c f d := by
  induction h with
  | nil => intro f d h; cases h
  | cons h1 _ ih =>
    intro f d h
    rcases List.mem_cons.1 h with h | h
    · cases h; exact h1
    · exact ih h
theorem walk_of_spec {c : Ctx} {f : FuncId} {sp : Spec} (hs : SpecSound c f sp) {args : List SV} {tg : Tag} {S' : St} (h : (sp.res args ⟨[], []⟩).is (.ret (.bool true, tg), S')) {fn : Func} {k : Code} (hf : c.P.funcs[f]? = some fn) (hb : fn.body = some k)
    (hn : (fn.name == "runtime.NumGoroutine") = false) (vs : Array Value) (W : World) (hg : GlobOk c W ∧ KnowOk c W) (ha : RArgs (ghost0 W) [] args vs) : Calls c.P f vs W fun e w' => e = .returned (.bool true) ∧ Below W.heap.size W w' := by
  rcases hs args _ _ h ⟨(· < W.heap.size), (ghost0 W).I⟩ W (ghost0 W) W vs (inv0 hg) ha with ⟨_, hc⟩ | ⟨v, w', hr, _⟩
  · refine hc.mono fun e w' ⟨G', i', _, ho⟩ => ?_
    cases e with
    | returned v =>
      have h1 : R G' (.bool true) v := ho.1
      cases h1
      exact ⟨rfl, i'.below.os, i'.below.tape, i'.below.output, i'.below.size, i'.below.block⟩
    | panicked => exact ho.elim
    | outgrown => exact ho.elim
  · rw [enter_run hf hn hb] at hr; cases hr
theorem walk_of_tree {L : Lay} (hL : L.Fits) {f : FuncId} {d : FnD} (hd : L.fns f = some d) {args : List SV} {tg : Tag} {S' : St} (h : (d.begin .jump args ⟨[], []⟩).wp L.ev f (fun o' => o' = (.ret (.bool true, tg), S')))
    (vs : Array Value) (W : World) (hg : GlobOk L.c W ∧ KnowOk L.c W) (ha : RArgs (ghost0 W) [] args vs) : Calls L.c.P f vs W fun e w' => e = .returned (.bool true) ∧ Below W.heap.size W w' := by
  obtain ⟨n, hn⟩ := run_spec h
  obtain ⟨h1, h2⟩ := hL.fns f d hd
  exact walk_of_spec (spec_sound hL hd n) hn h1 h2 (hL.hname f _ h1) vs W hg ha
/-- a function of nothing that answers true -/
def specTrue : Go.Ab.Spec := ⟨KT.no, fun args S => match args, S with
  | [], ⟨[], []⟩ => .ret (.bool true, .no) ⟨[], []⟩
  | _, _ => .fail⟩
theorem specTrue_sound {c : Ctx} {call : CallFn} (hs : CallSound c call) {f : FuncId} (h : call f [] ⟨[], []⟩ = some (.ret (.bool true, .no), ⟨[], []⟩)) : SpecSound c f specTrue := by
  intro args S p hp B w0 G w vs inv ha
  unfold specTrue at hp
  simp only at hp
  split at hp
  · cases hp
    exact hs f [] _ _ _ h B w0 G w vs inv ha
  · exact hp.elim
end Go.Ab
end
section
/- alias=Tryz -/
open Go Go.Ab
namespace Go.Proofs.YtdiphholophdcabGreatDoor.T
def dropT : Nat → List (List Nat)
  | 2 => [[0]]
  | 3 => [[0, 2], [7, 8], [10], [11, 12, 13, 14, 15], [1, 16, 17, 18, 19, 20], [3, 4, 5, 6, 21, 22, 23, 24, 25, 26, 27, 28, 29, 30, 31]]
  | 4 => [[0, 1, 4], [5, 6, 7, 8, 9, 10, 11], [13], [2, 3, 14, 15, 16, 17, 18, 19, 20, 21, 22, 23, 24, 25, 26, 27, 28, 29, 30]]
  | 5 => [[2], [11, 12, 13, 14, 15, 16, 17], [0, 18, 19, 20, 21, 22, 23, 24], [3, 4, 5, 6, 7, 8, 9, 10, 25, 26, 27, 28, 29, 30, 31, 32, 33, 34, 35, 36, 37, 38, 39, 40, 41, 42, 43, 44, 45]]
  | 6 => [[2], [0, 3, 5, 11, 12, 13, 14, 15, 16, 17], [6, 18], [4, 20, 21, 22, 23, 24, 25, 26], [], [27, 28, 29, 30], [32, 33], [34, 35, 36, 37, 38, 39, 40, 41, 42, 43, 44, 45, 46, 47, 48, 49, 50, 51, 52, 53], [], [], [55, 56, 57, 58], [60, 61], [62, 63, 64, 65, 66, 67, 68, 69, 70], [], [], [72, 73, 74, 75], [77, 78], [79, 80, 81, 82, 83], [10, 84, 85, 86, 87, 88, 89, 90, 91, 92, 93, 94, 95, 96, 97, 98, 99, 100, 101, 102, 103, 104, 105, 106, 107, 108, 109, 110, 111], [], [4, 113, 114, 115, 116, 117, 118, 119, 120, 121, 122]]
  | 7 => [[0, 6], [18, 19], [21], [22, 23, 24, 25, 26, 27], [28, 29, 30], [31, 32, 33, 34, 35, 36, 37, 38, 39, 40, 41, 42, 43, 44, 45, 46, 47, 48, 49, 50, 51, 52, 53], [55], [1, 10, 56, 57, 58, 59, 60, 61, 62, 63], [64, 65, 66], [68], [], [69, 70, 71, 72], [74, 75], [76, 77, 78, 79, 80, 81, 82, 83, 84, 85, 86, 87, 88, 89, 90, 91, 92, 93], [95], [3, 96, 97, 98, 99, 100, 101, 102, 103, 104], [105, 106, 107, 108, 109, 110, 111, 112, 113, 114, 115, 116, 117], [], [118, 119, 120, 121], [123, 124], [125, 126, 127, 128, 129, 130, 131, 132, 133, 134, 135, 136, 137, 138, 139, 140, 141, 142, 143, 144, 145, 146, 147, 148, 149, 150, 151], [8, 9, 13, 14, 15, 16, 152, 153, 154, 155, 156, 157, 158, 159, 160, 161, 162, 163, 164, 165, 166, 167]]
  | 8 => [[0, 2], [7, 8], [10], [11, 12, 13, 14, 15], [1, 16, 17, 18, 19, 20], [3, 4, 5, 6, 21, 22, 23, 24, 25, 26, 27, 28, 29, 30, 31]]
  | 9 => [[0, 2], [1, 3, 4, 5]]
  | 10 => [[0], [2, 6, 7, 8, 9, 10], [11, 12, 13, 14, 15], [1, 3, 4, 5, 16, 17, 18, 19, 20, 21, 22, 23, 24, 25, 26, 27, 28, 29, 30, 31]]
  | 11 => [[0, 2, 3], [1, 4, 5, 6, 7]]
  | 12 => [[0, 2, 3], [9, 10], [], [12, 13], [14, 15, 16], [7, 17, 18, 19, 20, 21, 22], [1, 4, 6, 8, 23, 24, 25, 26, 27, 28, 29, 30, 31, 32, 33, 34, 35], [], [5, 37]]
  | 13 => [[0, 1, 4], [2, 3, 5, 6, 7]]
  | 14 => [[0, 1, 6], [8, 9, 10, 11, 12, 13, 14, 15, 16, 17, 18, 19, 20, 21, 22, 23, 24, 25, 26, 27, 28, 29, 30, 31, 32, 33, 34, 35, 36, 37, 38, 39, 40, 41, 42, 43, 44, 45, 46, 47, 48, 49, 50, 51, 52], [], [], [54, 55, 56, 57], [59, 60], [61, 62, 63, 64, 65, 66, 67, 68, 69, 70, 71, 72], [], []]
  | 15 => [[0], [1, 3, 4]]
  | 16 => [[0], [6, 7, 8, 9, 10, 11, 12, 13, 14, 15, 16], [], [17, 18, 19, 20], [22, 23], [24, 25, 26, 27, 28, 29], [5, 30, 31, 32, 33, 34, 35], [3, 36]]
  | 17 => [[4, 5], [0, 10, 11, 12, 13, 14, 15], [16], [7, 8, 18, 19, 20, 21], [22, 23, 24, 25, 26, 27], [28], [7, 8, 30, 31, 32, 33], [6, 9, 34, 35]]
  | 18 => [[4, 5], [0, 12, 13, 14, 15, 16, 17], [18], [7, 8, 20, 21, 22, 23], [24, 25, 26, 27, 28, 29], [30], [10, 11, 32, 33, 34, 35], [6, 9, 36, 37]]
  | 19 => [[0, 1, 4], [6, 7, 8, 9, 10, 11, 12, 13, 14, 15, 16, 17, 18, 19, 20, 21, 22, 23, 24, 25, 26, 27, 28, 29, 30, 31, 32, 33, 34, 35], [], [], [37, 38, 39, 40], [42, 43], [44, 45, 46, 47, 48, 49, 50, 51, 52, 53, 54, 55, 56, 57, 58, 59, 60, 61, 62, 63, 64, 65, 66, 67, 68, 69, 70, 71, 72, 73, 74, 75, 76, 77, 78, 79, 80, 81, 82, 83, 84, 85, 86, 87], [], []]
  | 20 => [[0], [3, 9, 10, 11, 12, 13, 14], [5, 6, 15, 16, 17, 18, 19, 20], [1, 2, 4, 7, 8, 21, 22, 23, 24, 25, 26, 27, 28, 29, 30, 31, 32, 33, 34, 35, 36, 37, 38, 39, 40, 41, 42, 43, 44, 45, 46, 47, 48, 49, 50, 51, 52, 53, 54, 55]]
  | 21 => [[4], [], [6, 7, 8], [10, 11], [12, 13, 14, 15, 16], [5, 18], []]
  | 22 => [[0, 3, 4], [1, 5, 6, 7, 8, 9]]
  | 23 => [[0, 4], [8, 9, 10], [], [11, 12, 13], [15, 16], [17, 18, 19, 20, 21, 22, 23], [25, 26, 27, 28, 29, 30, 31, 32], [], [33, 34, 35, 36], [38, 39], [40, 41, 42, 43, 44, 45, 46], [1, 47]]
  | 24 => [[2], [4, 5, 6, 7, 8, 9, 10, 11, 12, 13, 14, 15, 16, 17, 18, 19, 20, 21, 22], [], [], [24, 25, 26], [28, 29], [30, 31, 32, 33, 34, 35, 36, 37, 38, 39, 40], [], []]
  | 25 => [[0], [1]]
  | 26 => [[0], [11, 12, 13, 14, 15, 16, 17, 18, 19], [20, 21, 22, 23, 24, 25, 26, 27, 28, 29, 30, 31, 32, 33, 34, 35, 36, 37, 38, 39, 40, 41, 42], [44, 45], [], [46, 47, 48, 49], [51, 52], [53, 54, 55, 56, 57, 58], [60, 61, 62, 63, 64, 65], [66, 67, 68, 69, 70, 71, 72, 73, 74, 75], [], [76, 77, 78, 79], [81, 82], [83, 84, 85, 86, 87, 88, 89, 90], [10, 91, 92, 93, 94, 95, 96], [7, 97]]
  | 27 => [[6], [9], [], [10, 11, 12], [14, 15], [16, 17, 18, 19, 20], [22, 23, 24, 25], [26, 27, 28, 29, 30, 31, 32], [7, 33]]
  | 28 => [[0, 2, 3], [1, 4, 5, 6, 7]]
  | 29 => [[0, 2, 3], [10, 11], [], [13, 14], [], [15, 16, 17, 18], [20, 21], [22, 23, 24, 25, 26, 27, 28, 29, 30, 31], [8, 32, 33, 34, 35, 36, 37], [1, 4, 7, 9, 38, 39, 40, 41, 42, 43, 44, 45, 46, 47, 48, 49, 50], [], [5, 52]]
  | 30 => [[0, 6], [9, 10, 11, 12, 13], [], [], [], [15, 16, 17, 18, 19, 20, 21, 22, 23], [25, 26], [27, 28, 29, 30, 31, 32, 33, 34, 35, 36, 37, 38, 39], [7, 40]]
  | 31 => [[3, 4], [0, 9, 10, 11, 12, 13, 14], [15], [6, 7, 17, 18, 19], [5, 20, 21, 22], [8, 23, 24, 25, 26, 27, 28, 29]]
  | 32 => [[0], [], [8, 13, 14], [], [16], [1, 17, 18, 19], [2, 11, 20, 21, 22, 23, 24, 25, 26], [3, 10, 12, 27, 28, 29, 30, 31, 32, 33], [], [9, 35]]
  | 33 => [[0, 2], [3], [6], [1, 7, 8, 9], [11], [1, 12, 13, 14], [16], [1, 17, 18, 19, 20, 21], [23], [1, 24, 25], [27], [1, 28, 29, 30, 31, 32, 33, 34, 35], [37], [1, 38, 39, 40, 41], [43], [1, 44, 45, 46, 47, 48, 49, 50, 51, 52, 53, 54, 55, 56], [58], [1, 59, 60, 61], [63], [1, 64, 65, 66], [68], [1, 69, 70, 71], [73], [74], [75], [1, 76, 77, 78, 79, 80, 81, 82], [84], [1, 85, 86, 87], [89], [4, 90], [1, 91, 92, 93, 94, 95, 96, 97, 98], [1, 99, 100]]
  | 34 => [[3, 4], [0, 5, 6, 7, 8, 9]]
  | 35 => [[1, 4], [10], [13], [3, 14, 15, 16], [18], [3, 19, 20, 21], [23], [], [], [24, 25, 26, 27], [29, 30], [31, 32, 33, 34], [36, 37], [38, 39, 40, 41, 42, 43, 44, 45], [5, 46, 47], [49], [3, 50, 51], [53], [0, 3, 54, 55, 56, 57, 58, 59, 60, 61, 62], [64], [0, 3, 65, 66, 67, 68, 69, 70], [72], [73, 74], [75], [77, 78], [0, 3, 7, 79, 80, 81, 82, 83, 84, 85, 86, 87, 88, 89, 90, 91, 92, 93], [95], [0, 3, 96, 97, 98, 99, 100, 101, 102, 103, 104, 105], [107], [0, 3, 108, 109, 110], [112], [0, 3, 113, 114, 115], [117], [118, 119, 120], [0, 3, 122, 123, 124, 125, 126, 127, 128, 129, 130, 131], [0, 3, 132, 133, 134, 135, 136, 137, 138, 139, 140], [142], [143], [144], [0, 3, 145, 146, 147, 148, 149, 150, 151], [153], [0, 3, 154, 155, 156], [158], [0, 3, 159, 160, 161, 162, 163, 164, 165, 166], [168], [169, 170, 171, 172, 173, 174, 175], [0, 3, 177, 178, 179, 180, 181, 182, 183, 184, 185], [186, 187, 188, 189, 190, 191, 192], [0, 3, 194, 195, 196, 197, 198, 199, 200, 201, 202], [204], [205], [0, 3, 206, 207, 208, 209, 210, 211, 212, 213, 214], [11, 216], [], [217, 218, 219, 220, 221, 222, 223], [225, 226, 227, 228, 229, 230, 231, 232], [233, 234, 235, 236, 237, 238, 239], [0, 3, 9, 241, 242, 243, 244, 245, 246, 247, 248, 249], [8, 250], [0, 251, 252, 253], []]
  | 36 => [[0, 1, 4], [2, 3, 5, 6, 7, 8, 9, 10, 11, 12, 13, 14, 15, 16, 17, 18, 19, 20, 21, 22, 23, 24, 25, 26, 27, 28, 29, 30, 31, 32, 33, 34, 35, 36, 37]]
  | 37 => [[4], [6, 7, 8, 9], [], [], [11, 12, 13], [15, 16], [17, 18, 19, 20, 21, 22, 23, 24], [], []]
  | 38 => [[0], [6, 7, 8, 9, 10, 11, 12, 13, 14, 15], [1, 16], [], [21, 22], [5, 23, 24, 25, 26, 27, 28, 29], [30], [3, 31]]
  | 39 => [[3, 4], [0, 5, 6, 7, 8, 9]]
  | 40 => [[], [], [], [], [6, 7, 25, 26, 27], [], [], [], [], [], [], [], [], [], [], [], [], [], [], [], [], [1, 5, 72, 73, 74]]
  | 41 => [[3, 4], [0, 9, 10, 11, 12, 13, 14], [15], [6, 7, 17, 18, 19], [5, 20, 21, 22], [8, 23, 24, 25, 26, 27, 28, 29]]
  | 42 => [[0, 3, 4], [12, 13], [14, 15, 16], [17, 18, 19, 20], [5, 22, 23, 24, 25, 26, 27, 28, 29, 30], [31, 32, 33], [34, 35, 36], [38, 39, 40], [], [], [41, 42, 43, 44], [46, 47], [48, 49, 50, 51, 52, 53], [55, 56, 57, 58, 59, 60, 61, 62, 63], [64, 65], [66, 67, 68, 69, 70, 71, 72, 73], [], [], [74, 75, 76, 77, 78, 79, 80, 81, 82, 83, 84], [86, 87], [88, 89, 90, 91, 92, 93], [95, 96, 97, 98, 99, 100, 101, 102, 103], [104, 105], [106, 107, 108, 109, 110, 111, 112, 113], [114, 115, 116, 117], [5, 119, 120, 121, 122, 123, 124, 125, 126, 127], [128, 129, 130, 131, 132], [], [133, 134, 135, 136], [138, 139], [140, 141, 142, 143, 144, 145], [147, 148, 149, 150, 151, 152, 153, 154, 155], [156, 157], [158, 159, 160, 161, 162, 163, 164, 165], [], [166, 167, 168, 169, 170, 171, 172], [174, 175], [176, 177, 178, 179, 180, 181, 182, 183, 184, 185, 186, 187, 188, 189, 190, 191, 192, 193, 194, 195, 196, 197, 198, 199, 200], [201, 202, 203, 204, 205, 206, 207, 208], [5, 209, 210, 211, 212]]
  | 43 => [[4], [6, 7, 8, 9], [], [], [11, 12, 13], [15, 16], [17, 18, 19, 20, 21, 22, 23, 24], [], []]
  | 44 => [[0, 1, 4], [7], [10], [2, 11, 12, 13], [3, 14, 15], [17], [18], [19], [2, 20, 21, 22, 23], [25], [26, 27, 28], [2, 30, 31, 32, 33, 34, 35, 36, 37, 38, 39, 40], [8, 42], [43], [], [44, 45, 46, 47], [49, 50], [51, 52, 53, 54, 55, 56, 57, 58, 59], [5, 60], [61]]
  | 45 => [[2], [0, 3, 4, 5, 6, 7, 8]]
  | 46 => [[2], [0, 3, 4, 5]]
  | 47 => [[2], [0, 3, 4, 5]]
  | 48 => [[2], [0, 3, 4, 5, 6, 7, 8, 9, 10, 11, 12, 13, 14, 15, 16, 17, 18, 19, 20]]
  | 49 => [[0, 2], [], [1, 6], [], [11, 12], [5, 13, 14, 15, 16, 17], [18], [3, 19]]
  | 50 => [[1, 4], [7], [10], [0, 3, 11, 12, 13, 14, 15, 16], [18], [0, 3, 19, 20, 21, 22, 23, 24], [26], [27, 28], [0, 3, 30, 31, 32, 33, 34], [35, 36, 37, 38, 39], [40, 41], [0, 3, 43, 44, 45, 46, 47, 48, 49, 50], [5, 51], [53], [54, 55, 56, 57, 58, 59, 60, 61, 62, 63, 64, 65], [66, 67], [0, 3, 69, 70, 71, 72, 73, 74, 75, 76], [6, 77], [79], [0, 3, 80, 81, 82, 83, 84, 85, 86, 87, 88, 89, 90, 91, 92, 93, 94], [8, 96], [3, 97, 98, 99, 100], [0, 101, 102, 103], []]
  | 51 => [[2, 3, 4], [10, 11], [], [13], [14, 15], [16, 17, 18], [20, 21, 22, 23, 24, 25, 26, 27], [28], [6, 9, 30, 31], [32, 33], [6, 35], [7, 36, 37, 38, 39], [8, 40, 41, 42], [43, 44], [0, 46, 47], [0, 5, 48, 49, 50, 51, 52, 53]]
  | 52 => [[1, 5, 6], [7, 8, 9, 10, 11, 12], [13, 14, 15, 16], [0, 18, 19, 20, 21, 22, 23, 24, 25, 26], [3, 27]]
  | 53 => [[], [11, 12, 13], [14, 15, 16, 17], [19], [20, 21], [22, 23, 24], [5, 25, 26, 27, 28, 29, 30, 31, 32, 33, 34], [36, 37, 38, 39], [40, 41], [42, 43], [0, 1, 44, 45, 46, 47], [6, 7, 8, 48, 49, 50, 51, 52, 53, 54], [55], [57, 58], [59, 60, 61, 62], [63, 64], [65, 66], [0, 1, 67, 68, 69, 70], [6, 9, 10, 71, 72, 73, 74, 75, 76, 77], [6, 78]]
  | 54 => [[0, 1, 2, 6], [7, 8, 9, 10, 11], [12, 13, 14, 15, 16, 17, 18], [], [3, 4, 5, 20, 21, 22, 23, 24]]
  | 55 => [[5], [6], [3, 8, 9, 10, 11, 12], [4, 13], [2, 15], [0, 1]]
  | 56 => [[2], [], [9, 10], [11], [], [], [], [14, 15, 16], [17, 18, 19, 20], [8, 22, 23, 24, 25], [], [26, 27], [28], [7], [30, 31], [32, 33, 34, 35, 36, 37], [38, 39], [40], [0, 42], [6, 44, 45], [3, 4, 46, 47, 48]]
  | 57 => [[2], [], [6], [0, 7], [], [12, 13], [], [5, 15, 16], [18], [19], [21], [22], [24], [14, 25], [26], [5, 27, 28], [29], [30], [3, 31]]
  | 58 => [[6], [0, 1, 2, 7, 8, 9, 10]]
  | 59 => [[4], [], [0], [], [12, 13], [7, 14, 15, 16, 17, 18, 19], [20], [5, 21, 22]]
  | 60 => [[0, 2], [3], [6], [7], [8], [9], [10], [11], [4, 12], [1, 13, 14], [1, 15, 16, 17, 18]]
  | 61 => [[0], [5, 6, 7, 8], [10, 11], [1, 2, 12, 13, 14, 15, 16]]
  | 62 => [[4], [0, 1, 5, 6, 7]]
  | 63 => [[0, 4], [8, 9, 10], [1], [], [15, 16, 17], [6, 7, 18, 19, 20, 21, 22, 23, 24, 25, 26], [27], [5, 28]]
  | 64 => [[0], [7], [10], [11, 12, 13], [1, 15, 16, 17, 18, 19, 20, 21, 22, 23], [1, 24, 25, 26, 27, 28, 29, 30, 31], [33], [1, 34, 35, 36, 37, 38, 39], [41], [42, 43, 44, 45, 46, 47], [4], [1, 3, 49, 50, 51, 52, 53], [1, 54, 55, 56, 57, 58, 59, 60], [8, 62], [], [63, 64], [66, 67, 68, 69, 70, 71, 72], [73, 74], [75, 76], [1, 6, 78, 79, 80, 81, 82, 83, 84], [5, 85], [86, 87]]
  | 65 => [[], [0, 10, 11, 12, 13, 14, 15], [16], [8, 18, 19, 20], [21], [7, 22, 23, 24], [1, 25, 26, 27], [28, 29, 30], [9, 32, 33], [34]]
  | 66 => [[], [0, 3, 4]]
  | 67 => [[], [9, 10, 11], [12, 13, 14, 15], [16, 17, 18], [19, 20], [5, 21, 22, 23, 24, 25, 26, 27, 28, 29, 30, 31], [33], [36], [37], [38], [39], [40], [34, 41], [42, 43, 44, 45, 46, 47, 48], [49, 50], [0, 1, 6, 7, 51, 52, 53, 54, 55, 56, 57, 58, 59, 60, 61, 62], [63], [65, 66], [67, 68, 69, 70], [71, 72], [73, 74], [0, 1, 6, 8, 75, 76, 77, 78, 79, 80, 81, 82, 83, 84], [6, 85]]
  | 68 => [[2], [0, 7, 8], [9, 10, 11, 12], [13, 14], [16, 17, 18], [], [19, 20, 21], [23, 24], [25, 26, 27, 28, 29], [31, 32], [33, 34, 35, 36, 37, 38, 39, 40, 41, 42, 43, 44], [46, 47, 48, 49, 50, 51, 52, 53, 54, 55], [3, 56], [4, 58, 59], [4, 60]]
  | 69 => [[2], [], [], [5, 6, 7], [9, 10], [11, 12], [14, 15, 16, 17, 18, 19, 20], [22], [23, 24], [26], [27, 28], [30], [13, 31], [32, 33, 34, 35, 36, 37, 38, 39], [3, 40, 41]]
  | 70 => [[6], [], [], [9, 10, 11], [13, 14], [15], [17, 18], [], [20, 21, 22, 23, 24, 25, 26, 27], [28, 29, 30, 31, 32, 33, 34, 35], [7, 36]]
  | 71 => [[1, 4], [6, 7], [5, 8, 9, 10, 11, 12, 13, 14, 15, 16, 17, 18, 19, 20, 21, 22, 23, 24, 25, 26, 27, 28, 29, 30, 31, 32], [0, 3, 34, 35, 36], [0, 3, 37, 38, 39, 40, 41]]
  | 72 => [[1], [7, 8, 9, 10, 11, 12, 13, 14], [0, 16, 17, 18], [19], [2, 4, 20, 21, 22, 23, 24]]
  | 73 => [[1, 6], [0, 2, 4, 7, 8, 9, 10, 11, 12, 13, 14, 15, 16, 17, 18, 19]]
  | 74 => [[4], [6, 7, 8, 9], [], [11], [], [15], [5, 16, 17, 18, 19, 20, 21, 22, 23], [], [25], []]
  | 75 => [[6], [10, 11, 12, 13], [], [0], [], [19, 20, 21], [7, 22, 23, 24, 25], [8, 9, 26, 27, 28, 29], [], [31], []]
  | 76 => [[2], [3], [], [0, 5, 6, 7]]
  | 77 => [[], [0, 3, 4]]
  | 78 => [[], [6, 7, 8, 9], [10, 11, 12], [14, 15, 16, 17, 18, 19, 20], [22, 23, 24, 25, 26, 27, 28], [29, 30, 31, 32, 33], [4, 34, 35, 36, 37, 38, 39], [5, 40, 41, 42, 43, 44, 45, 46, 47, 48, 49, 50, 51, 52, 53, 54, 55, 56, 57], [59, 60], [3, 61]]
  | 79 => [[1, 4, 5], [10], [3, 11], [], [16, 17], [], [18], [21], [22, 23, 24], [19, 26], [27, 28, 29], [], [31], [8, 9, 33, 34, 35], [36], []]
  | 80 => [[0, 2], [1, 3]]
  | 81 => [[1, 4], [0, 3, 5, 6, 7, 8, 9, 10, 11, 12, 13, 14, 15, 16, 17, 18, 19]]
  | 82 => [[2], [7, 8, 9], [11, 12, 13], [14, 15, 16, 17], [18], [0, 5, 6, 20, 21, 22, 23, 24, 25, 26, 27, 28, 29, 30], [0, 1, 31, 32, 33, 34, 35]]
  | 83 => [[1, 4, 5], [8], [], [13, 14], [7, 15, 16, 17, 18, 19], [3, 21, 22, 23], [24], [25, 26], [29], [0, 3, 30, 31, 32, 33, 34, 35], [37], [38], [39, 40, 41], [3, 43, 44, 45], [47], [48, 49, 50], [3, 52, 53, 54], [27, 56], [57, 58, 59], [3, 61, 62, 63], []]
  | 84 => [[], [], [], [], [], [], [], [], [], [], [], [], [], [], [], [], [76], [], [81, 82], [12, 83, 84, 85, 86, 87, 88, 89, 90], [91], [5, 92]]
  | 85 => [[], [6, 7, 8, 9], [10, 11, 12, 13, 14, 15, 16, 17, 18, 19], [21, 22, 23, 24, 25], [27, 28], [29, 30], [31, 32, 33, 34, 35, 36], [4, 37, 38, 39, 40, 41, 42, 43, 44, 45, 46, 47, 48, 49, 50, 51, 52, 53, 54, 55, 56, 57, 58, 59], [5, 60, 61, 62, 63, 64, 65, 66, 67, 68, 69, 70, 71, 72, 73, 74, 75, 76, 77, 78], [3, 79]]
  | 86 => [[1], [11], [], [12, 13, 14, 15], [17, 18], [19, 20, 21, 22, 23, 24], [26, 27, 28, 29, 30, 31, 32, 33, 34], [], [35, 36, 37, 38], [40, 41], [42, 43, 44, 45, 46], [], [47, 48, 49, 50, 51, 52, 53, 54, 55], [57, 58], [59, 60, 61, 62, 63, 64, 65, 66, 67, 68, 69, 70, 71, 72, 73, 74, 75, 76, 77, 78], [79, 80], [82, 83, 84, 85, 86, 87, 88, 89, 90], [91, 92, 93, 94, 95, 96, 97], [98, 99, 100, 101, 102, 103, 104, 105], [], [106, 107, 108, 109, 110, 111, 112, 113], [115, 116], [117, 118, 119, 120, 121, 122, 123, 124, 125, 126, 127, 128, 129, 130], [], [131, 132, 133, 134, 135, 136, 137, 138], [140, 141], [142, 143, 144, 145, 146, 147, 148, 149, 150, 151, 152, 153, 154, 155, 156, 157, 158, 159, 160, 161], [7, 162, 163, 164, 165, 166, 167, 168, 169, 170, 171, 172, 173, 174, 175, 176, 177, 178, 179, 180, 181]]
  | 87 => [[1, 3], [7, 11, 12, 13], [], [14, 15, 16], [18, 19], [20, 21, 22, 23, 24, 25, 26, 27, 28, 29, 30, 31, 32, 33, 34, 35], [37, 38, 39], [40, 41, 42, 43, 44, 45, 46], [48, 49, 50, 51, 52, 53, 54, 55, 56, 57, 58, 59, 60, 61, 62, 63, 64, 65, 66, 67, 68, 69, 70], [71, 72, 73, 74, 75, 76, 77, 78, 79, 80, 81, 82, 83, 84], [], [85, 86, 87, 88], [90, 91], [92, 93, 94, 95, 96, 97, 98, 99, 100, 101, 102]]
  | 88 => [[1, 5], [11, 19, 20, 21], [], [22, 23, 24], [26, 27], [28, 29, 30, 31, 32, 33], [14, 34, 35, 36, 37, 38, 39, 40, 41, 42, 43, 44, 45, 46, 47, 48, 49, 50, 51, 52, 53, 54, 55, 56, 57, 58, 59, 60, 61, 62, 63, 64, 65, 66, 67, 68, 69, 70, 71, 72, 73, 74, 75, 76, 77, 78, 79, 80, 81, 82, 83, 84, 85, 86], [15, 87, 88, 89, 90, 91], [92, 93], [95, 96, 97, 98], [99, 100, 101, 102, 103, 104], [105], [107, 108, 109, 110, 111, 112, 113, 114, 115, 116, 117, 118, 119, 120, 121, 122, 123], [], [124, 125, 126, 127, 128, 129, 130, 131, 132, 133, 134, 135, 136, 137, 138, 139, 140], [142, 143], [144, 145, 146, 147, 148, 149, 150, 151, 152, 153, 154, 155, 156, 157, 158, 159, 160, 161, 162, 163, 164, 165, 166, 167, 168, 169, 170, 171], [172, 173, 174, 175, 176, 177, 178, 179, 180, 181, 182, 183, 184, 185, 186, 187, 188, 189, 190, 191, 192, 193, 194, 195, 196, 197, 198, 199, 200, 201, 202, 203, 204, 205], [206, 207, 208, 209, 210, 211, 212, 213, 214, 215, 216], [217, 218, 219, 220, 221, 222, 223, 224, 225, 226, 227], [], [228, 229, 230, 231, 232, 233, 234, 235, 236, 237, 238], [240, 241], [242, 243, 244, 245, 246, 247, 248, 249, 250, 251, 252, 253, 254]]
  | 89 => [[1, 3], [7, 12, 13, 14], [], [15, 16, 17], [19, 20], [21, 22, 23, 24, 25], [26, 27, 28], [30, 31], [33, 34, 35, 36, 37, 38, 39, 40, 41, 42], [43, 44, 45, 46, 47, 48, 49, 50, 51, 52, 53, 54], [10, 56, 57, 58, 59, 60, 61, 62, 63, 64, 65, 66, 67], [68, 69, 70, 71, 72, 73, 74, 75, 76, 77, 78, 79, 80], [10, 82, 83, 84, 85, 86, 87, 88, 89, 90, 91, 92, 93], [], [94, 95, 96, 97], [99, 100], [101, 102, 103, 104, 105, 106, 107, 108, 109, 110, 111]]
  | 90 => [[4], [], [6, 7, 8], [10, 11], [12, 13, 14, 15, 16], [], []]
  | 91 => [[0], [4], [7], [1, 8, 9, 10, 11], [13], [1, 14, 15, 16, 17], [19], [1, 20, 21, 22, 23, 24, 25, 26, 27, 28, 29, 30, 31, 32], [34], [1, 35, 36, 37, 38], [40], [41, 42, 43, 44, 45, 46, 47, 48], [49, 50], [1, 52, 53, 54, 55, 56, 57], [3, 58], [5, 60], [61], [64], [1, 65, 66, 67, 68, 69, 70, 71, 72], [74], [1, 75, 76, 77], [62, 79], [1, 80, 81, 82], [83, 84]]
  | 92 => [[1, 4], [11], [14], [15, 16, 17, 18, 19, 20, 21, 22, 23, 24, 25, 26, 27], [28, 29, 30], [0, 3, 32, 33, 34, 35, 36, 37, 38, 39, 40], [5, 41], [43], [0, 3, 44, 45, 46, 47, 48, 49, 50, 51, 52, 53, 54, 55, 56], [58], [0, 3, 59, 60, 61, 62, 63, 64, 65, 66, 67, 68, 69, 70, 71, 72], [74], [], [], [75], [77, 78], [79, 80, 81, 82, 83, 84, 85, 86, 87, 88, 89], [91], [93, 94, 95, 96, 97, 98, 99, 100], [101, 102, 103, 104, 105, 106, 107, 108], [109, 110], [111], [113, 114], [0, 3, 6, 7, 115, 116, 117, 118, 119, 120, 121, 122, 123], [125], [126, 127, 128], [0, 130, 131, 132], [], [0, 3, 133, 134, 135, 136, 137, 138, 139, 140, 141, 142, 143, 144, 145, 146, 147, 148, 149, 150], [12, 152], [], [], [153, 154, 155, 156], [158, 159], [160, 161, 162, 163, 164, 165, 166, 167, 168, 169], [9, 170, 171], [172, 173, 174, 175, 176, 177, 178, 179], [0, 181, 182, 183], [], [0, 3, 184, 185, 186, 187]]
  | 93 => [[2], [], [], [5, 6, 7], [9, 10], [11], [13, 14], [15, 16, 17, 18, 19, 20], [3, 21]]
  | 94 => [[4], [5, 6, 7], [9, 10, 11, 12, 13, 14, 15, 16, 17], [19, 20], [21, 22, 23, 24, 25, 26, 27, 28, 29, 30], [32, 33], [34, 35, 36], [38, 39, 40, 41, 42, 43, 44, 45, 46], [48, 49], [1, 50], [1, 51]]
  | 95 => [[7, 8], [12, 13, 14, 15, 16], [17, 18], [19, 20, 21, 22, 23, 24], [25, 26, 27, 28, 29, 30, 31, 32, 33, 34, 35, 36, 37], [0, 1, 39, 40, 41, 42, 43, 44, 45, 46], [47, 48, 49, 50], [9, 52], [54, 55], [56, 57], [59, 60], [61, 62, 63, 64, 65, 66, 67, 68, 69, 70, 71, 72, 73, 74, 75], [77, 78], [1, 79, 80, 81, 82, 83, 84], [85, 86, 87], [9, 89], [90, 91], [93], [94, 95], [97], [0, 98, 99, 100], [102], [104, 105, 106, 107, 108, 109, 110, 111, 112, 113, 114, 115, 116], [117], [118, 119, 120], [122, 123], [124, 125, 126], [128, 129], [130, 131, 132], [134, 135], [0, 1, 136, 137, 138, 139, 140, 141], [143, 144], [145], [0, 1, 146, 147, 148, 149, 150, 151, 152], [2, 10, 154, 155, 156, 157, 158, 159], [160], [0, 1, 161, 162, 163, 164, 165, 166, 167], [168], [9, 170], [9, 11, 171, 172]]
  | 96 => [[1, 6, 7, 8, 9, 10, 11, 12], [0, 2, 14, 15, 16, 17, 18, 19, 20, 21, 22, 23]]
  | 97 => [[], [0, 3, 4, 5, 6, 7, 8, 9, 10, 11, 12]]
  | 98 => [[0, 1, 4, 5, 6, 7]]
  | 99 => [[4], [0, 1, 5, 6, 7, 8]]
  | 100 => [[], [7, 8, 9], [10], [12, 13], [14, 15, 16], [6, 17, 18, 19, 20, 21, 22], [5, 23]]
  | 101 => [[0, 2], [1, 3, 4, 5, 6, 7, 8, 9, 10]]
  | 102 => [[4], [6, 7, 8], [0, 1, 5, 9, 10, 11, 12, 13, 14, 15, 16, 17, 18, 19, 20, 21, 22, 23, 24, 25, 26, 27, 28]]
  | 103 => [[2, 3, 4, 5, 6, 7, 8, 9, 10, 11, 12, 13, 14, 15, 16, 17, 18], [0, 20, 21, 22, 23, 24, 25, 26]]
  | 104 => [[2, 3, 4, 5, 6, 7, 8, 9], [11, 12]]
  | 105 => [[], [0, 1, 2, 3, 9, 10, 11, 12, 13]]
  | 106 => [[4], [1, 5, 6], [0, 8, 9], [], []]
  | 107 => [[0, 1, 4, 5, 6, 7, 8, 9]]
  | 108 => [[4], [0, 1, 5, 6, 7, 8]]
  | 109 => [[0, 4], [1, 2, 3, 5, 6, 7, 8, 9, 10]]
  | 110 => [[2], [3], [0, 5, 6, 7], [0, 8, 9]]
  | 111 => [[4, 5], [0, 1, 2, 6, 7, 8]]
  | 112 => [[4], [5, 6], [0, 1, 7, 8, 9, 10, 11, 12, 13, 14, 15, 16], []]
  | 113 => [[4, 5], [6, 7], [0, 8, 9, 10, 11, 12, 13, 14, 15, 16], [1, 17, 18]]
  | 114 => [[2], [0, 3, 4, 5, 6, 7, 8, 9, 10, 11, 12, 13]]
  | 115 => [[8], [16, 17, 18, 19, 20, 21], [0, 23], [24, 25, 26], [27], [0, 29], [30, 31, 32, 33, 34, 35], [9, 37], [], [38, 39, 40, 41, 42, 43, 44, 45, 46, 47, 48], [], [49, 50], [3], [], [55, 56, 57, 58, 59, 60, 61], [11, 62, 63, 64, 65, 66], [67, 68], [12, 69, 70, 71, 72], [73], [74, 75], [3, 76], [], [13, 80, 81, 82, 83, 84, 85, 86], [14, 87, 88, 89], [11, 90, 91, 92, 93, 94], [95, 96], [15, 97], [98], [0, 11, 99, 100, 101, 102], [10, 103]]
  | 116 => [[4], [11], [14], [], [12, 16], [0, 17, 18, 19], [], [20, 21], [23, 24, 25, 26, 27, 28], [30], [31, 32, 33, 34, 35, 36, 37, 38], [], [], [43, 44], [45, 46, 47, 48], [50], [7, 51, 52, 53, 54], [55], [], [5, 56, 57], [58, 59, 60, 61], [0, 62], [], [67, 68], [69, 70], [10, 71, 72], [73], [8, 74]]
  | 117 => [[4], [5, 6], [0, 1, 8, 9, 10, 11, 12, 13, 14], [0, 15]]
  | 118 => [[4, 5], [0, 1, 6, 7, 8, 9, 10]]
  | 119 => [[4], [0, 1, 5, 6, 7]]
  | 120 => [[4], [0, 1, 5, 6, 7]]
  | 121 => [[4], [0, 1, 5, 6, 7]]
  | 122 => [[], [6, 7], [], [9], [10, 11, 12], [13, 14], [15, 16, 17, 18, 19, 20], [22, 23], [24, 25], [26, 27], [5, 28, 29, 30, 31]]
  | 123 => [[6], [7], [9, 10, 11, 12, 13], [5, 14], [3, 16], [0, 1, 2, 4, 17, 18, 19, 20, 21]]
  | 124 => [[], [0, 3, 4, 5, 6, 7, 8, 9, 10, 11, 12]]
  | 125 => [[0, 1, 4, 5, 6, 7, 8, 9]]
  | 126 => [[1, 4], [0, 6, 7]]
  | 127 => [[], [6, 7, 8], [9], [11, 12], [13, 14, 15, 16, 17, 18, 19, 20], [5, 21]]
  | 128 => [[0, 2], [1, 3, 4, 5, 6, 7, 8, 9, 10, 11, 12, 13, 14, 15]]
  | 129 => [[4], [0, 1, 5, 6, 7, 8, 9, 10, 11, 12, 13, 14, 15, 16, 17, 18, 19, 20, 21, 22, 23, 24]]
  | 130 => [[2, 3, 4], [6, 7, 8, 9, 10, 11, 12]]
  | 131 => [[4], [1, 5, 6], [0, 8, 9, 10, 11, 12, 13, 14], [], []]
  | 132 => [[1, 4, 5, 6], [0, 8, 9]]
  | 133 => [[], [5, 6, 7], [8], [10, 11], [12], [14, 15], [4, 16, 17, 18, 19, 20, 21, 22, 23], [3, 24]]
  | 134 => [[4], [0, 6, 7], [1, 5, 8, 9, 10, 11, 12, 13, 14, 15, 16, 17, 18, 19, 20, 21]]
  | 135 => [[3], [6, 7, 8], [10, 11], [0, 4, 12, 13, 14, 15, 16], [18, 19], [0, 4, 20, 21, 22, 23, 24], [26, 27], [0, 4, 28, 29, 30], [32, 33], [0, 4, 34, 35, 36, 37], [39, 40], [0, 4, 41, 42, 43, 44, 45], [4, 46, 47, 48, 49, 50], [51], [53, 54], [55, 56, 57, 58, 59, 60, 61, 62, 63], [64, 65], [5, 67], [0, 68, 69, 70, 71, 72, 73, 74], [75, 76], [78], [79], [5, 80]]
  | 136 => [[0, 3], [1, 2, 4, 5, 6, 7]]
  | 137 => [[0, 3], [1, 2, 4, 5, 6, 7, 8, 9, 10, 11, 12]]
  | 138 => [[1, 4], [], [7, 8, 9, 10, 11], [], [13, 14, 15, 16], [], [18, 19, 20, 21], [], [23, 24, 25], [], [27, 28, 29, 30, 31], [5, 32, 33, 34, 35], [], [0, 3, 36, 37, 38, 39, 40, 41, 42, 43, 44, 45, 46, 47, 48, 49, 50, 51, 52, 53, 54], []]
  | 139 => [[4], [0, 1, 5, 6, 7, 8]]
  | 140 => [[3], [0, 1, 4, 5, 6, 7, 8, 9, 10, 11, 12, 13, 14, 15]]
  | 141 => [[2], [0, 3, 4, 5]]
  | 142 => [[2], [0, 3, 4, 5, 6, 7, 8, 9, 10, 11, 12, 13, 14, 15, 16, 17, 18, 19, 20, 21, 22, 23, 24, 25, 26, 27, 28, 29, 30]]
  | 143 => [[], [1, 7], [], [12, 13], [14], [15, 16], [18, 19, 20, 21], [22, 23], [5, 6, 24, 25, 26, 27], [29]]
  | 144 => [[0, 1, 8], [13, 14], [15, 16, 17, 18, 19, 20], [2, 22, 23, 24, 25, 26, 27, 28, 29, 30, 31, 32, 33, 34, 35, 36, 37, 38, 39], [9, 40, 41, 42, 43, 44, 45], [], [47], [50], [51], [52], [53], [54], [56], [48, 57], [58], [59], [], [64, 65, 66], [], [68, 69, 70, 71, 72, 73, 74, 75, 76, 77, 78, 79], [80, 81], [83, 84, 85], [10, 86, 87, 88, 89, 90], [11, 12, 91, 92, 93, 94, 95], [], [97], []]
  | 145 => [[6], [1, 8, 9, 10], [0, 2, 7, 11, 12, 13, 14, 15, 16, 17, 18, 19, 20, 21, 22, 23, 24, 25, 26, 27, 28, 29, 30, 31, 32, 33, 34, 35, 36, 37, 38]]
  | 146 => [[2, 6], [8, 9, 10, 11], [12], [0, 5, 7, 14, 15, 16, 17, 18, 19, 20, 21, 22, 23, 24, 25], [0, 1, 26, 27, 28, 29, 30, 31]]
  | 147 => [[4], [6], [], [10], [11, 12, 13, 14, 15], [5, 17], [18], []]
  | 148 => [[1, 2, 6], [8, 9, 10], [12, 13, 14, 15], [16, 17, 18, 19, 20, 21, 22, 23, 24, 25, 26, 27, 28], [29, 30, 31, 32, 33, 34], [], [0, 4, 5, 7, 35, 36, 37, 38, 39, 40, 41]]
  | 149 => [[1, 4, 5], [9, 10, 11, 12], [14, 15], [3, 16, 17], [19, 20, 21, 22, 23, 24, 25, 26, 27, 28, 29, 30, 31], [3, 32, 33], [3, 34], [], [39, 40, 41], [7, 42, 43, 44, 45, 46, 47, 48, 49, 50, 51, 52, 53, 54, 55, 56], [8, 58, 59], [60], []]
  | 150 => [[4], [0, 1, 5, 6, 7, 8]]
  | 151 => [[2], [0, 3, 4, 5, 6]]
  | 152 => [[], [8, 9, 10], [11], [0, 3, 13, 14, 15, 16, 17], [18], [0, 3, 20, 21, 22, 23, 24], [25], [0, 3, 27, 28, 29, 30], [31], [3, 33, 34, 35, 36, 37], [38, 39, 40, 41, 42, 43, 44, 45, 46, 47, 48, 49], [50, 51], [52, 53], [54, 55], [57, 58, 59], [60, 61], [62, 63], [0, 64, 65, 66, 67], [4, 68], [69], [0, 3, 71, 72, 73, 74, 75], [3, 76, 77, 78, 79, 80], [81], [83, 84], [85, 86], [6, 87, 88, 89, 90, 91, 92, 93, 94], [95], [0, 97, 98], [7, 99, 100, 101, 102, 103, 104], [105, 106, 107, 108, 109, 110, 111], [5, 112]]
  | 153 => [[1, 8, 9, 10, 11, 12, 13, 14], [0, 2, 3, 16, 17, 18, 19, 20, 21, 22, 23]]
  | 154 => [[2], [0, 3, 4, 5, 6, 7, 8, 9, 10, 11]]
  | 155 => [[4], [], [6, 7, 8, 9, 10, 11], [13, 14], [15, 16, 17, 18, 19, 20, 21, 22, 23], [5, 25], []]
  | 156 => [[1, 4], [6, 7, 8, 9], [0, 3, 5, 10, 11, 12, 13, 14, 15, 16, 17, 18, 19, 20, 21, 22, 23, 24, 25, 26, 27, 28, 29, 30, 31, 32, 33, 34, 35, 36, 37, 38, 39, 40, 41, 42, 43, 44, 45, 46, 47, 48]]
  | 157 => [[6], [8], [10, 11, 12, 13, 14, 15, 16, 17, 18, 19], [20], [0, 2, 7, 22, 23, 24, 25, 26, 27, 28, 29, 30, 31, 32], [0, 1, 33, 34, 35, 36, 37, 38, 39]]
  | 158 => [[6], [0, 1, 2, 7, 8, 9, 10, 11, 12, 13, 14, 15, 16, 17, 18, 19, 20, 21]]
  | 159 => [[0], [5, 6, 7, 8, 9, 10, 11, 12, 13, 14, 15], [17], [18, 19], [1, 2, 21, 22, 23, 24], [25]]
  | 160 => [[0], [9, 10, 11, 12, 13], [4], [3, 15, 16], [17], [20], [21, 22, 23, 24, 25, 26, 27, 28, 29], [30, 31, 32], [1, 34, 35, 36, 37, 38, 39, 40, 41], [5, 42], [44], [1, 45, 46, 47, 48, 49, 50, 51, 52, 53], [55], [1, 56, 57, 58, 59, 60, 61, 62, 63, 64, 65], [67], [1, 68, 69], [71], [1, 72, 73, 74, 75, 76, 77, 78, 79, 80, 81, 82, 83], [18, 85], [], [1, 86], [], [91, 92], [8, 93, 94, 95, 96, 97], [98], [6, 99, 100], [101, 102]]
  | 161 => [[1, 4], [10], [13], [3, 14, 15, 16], [17, 18], [0, 5, 20, 21, 22], [0, 5, 23, 24, 25], [27], [28], [29, 30, 31, 32, 33, 34, 35, 36], [37, 38], [3, 40, 41, 42, 43, 44, 45, 46, 47, 48, 49, 50, 51, 52], [53, 54], [56, 57, 58, 59, 60], [61, 62], [0, 7, 64, 65, 66, 67, 68, 69], [6, 8, 70, 71, 72], [74], [], [76], [77], [78, 79, 80, 81, 82, 83], [84, 85, 86], [0, 3, 88, 89, 90, 91, 92, 93, 94, 95, 96], [9, 97], [99], [], [101], [], [11, 103], [104, 105, 106], [0, 3, 108, 109, 110, 111, 112, 113, 114, 115, 116, 117], [3, 118, 119, 120], [0, 121, 122, 123], []]
  | 162 => [[4], [5, 6, 7], [0, 1, 9, 10, 11], []]
  | 163 => [[4, 5], [], [7, 8], [9, 10, 11, 12, 13, 14, 15, 16, 17], [19, 20], [21, 22, 23], [1, 6, 25, 26, 27], [28, 29, 30, 31, 32, 33, 34, 35, 36, 37], [39, 40, 41, 42, 43, 44, 45], [46, 47], [48, 49], [51, 52, 53, 54, 55, 56, 57, 58], [60], [], [62], [63, 64], [66], [67, 68], [70], [71], [50, 72], [73, 74, 75, 76, 77, 78, 79], []]
  | 164 => [[2], [4, 5], [], [0, 7, 8, 9, 10, 11, 12], [13, 14], [3, 16, 17, 18, 19, 20], [3, 21, 22, 23, 24, 25, 26, 27, 28, 29, 30, 31, 32, 33, 34, 35, 36, 37, 38]]
  | 165 => [[4, 5], [], [10, 11], [12, 13, 14, 15, 16, 17, 18, 19, 20], [22, 23], [24, 25, 26], [27, 28, 29, 30, 31, 32, 33, 34, 35, 36, 37, 38, 39, 40, 41], [43, 44], [45, 46, 47], [49, 50], [51, 52, 53, 54, 55, 56, 57], [58, 59, 60, 61, 62], [1, 6, 64, 65, 66], [67, 68, 69, 70, 71], [73, 74], [75, 76, 77], [79, 80], [9, 81, 82, 83, 84, 85, 86, 87, 88, 89], [], [91, 92, 93, 94, 95, 96, 97], []]
  | 166 => [[], [7, 8, 9], [10], [12, 13], [14, 15, 16], [6, 17, 18, 19, 20, 21, 22], [5, 23]]
  | 167 => [[4], [6], [], [10], [11, 12, 13, 14, 15], [5, 17], [18], []]
  | 168 => [[], [0, 7, 8, 9, 10, 11, 12, 13], []]
  | 169 => [[4], [7, 8], [0, 10, 11, 12], [13, 14], [0, 1, 16, 17, 18, 19], [], [20, 21, 22], [23], [5, 25], [26, 27], [6, 28, 29, 30, 31, 32, 33]]
  | 170 => [[4, 5], [6], [8], [9, 10, 11, 12, 13, 14, 15, 16, 17, 18, 19, 20], [0, 1, 22, 23, 24]]
  | 171 => [[4], [0, 1, 5, 6, 7]]
  | 172 => [[2, 3], [4, 5, 6, 7, 8, 9], [0, 11, 12, 13], [0, 14, 15, 16, 17, 18]]
  | 173 => [[4], [0, 1, 5, 6, 7, 8, 9, 10, 11, 12, 13, 14, 15, 16, 17, 18, 19, 20]]
  | 174 => [[4, 5], [6, 7, 8], [0, 10], [0, 1, 11, 12, 13, 14, 15, 16, 17]]
  | 175 => [[4], [5, 6], [0, 1, 8, 9, 10, 11], [0, 12]]
  | 176 => [[4], [0, 1, 5, 6, 7, 8, 9, 10, 11, 12, 13, 14, 15, 16, 17]]
  | 177 => [[6], [7], [9, 10, 11, 12, 13], [5, 14], [3, 16], [0, 1, 2, 4, 17, 18, 19, 20]]
  | 178 => [[3, 4, 5, 6, 7, 8, 9, 10, 11], [13, 14, 15, 16, 17, 18, 19, 20, 21], [23, 24, 25, 26, 27, 28], [29, 30, 31, 32, 33, 34, 35], [37, 38, 39, 40, 41, 42, 43, 44, 45, 46], [47, 48, 49, 50, 51, 52, 53], [2, 55, 56], [57, 58, 59, 60, 61, 62, 63, 64, 65, 66, 67, 68, 69, 70, 71, 72, 73, 74]]
  | 179 => [[5, 6, 7, 8, 9, 10, 11, 12, 13], [14, 15], [0, 16, 17], [19, 20], [0, 21, 22], [24, 25], [0, 26, 27], [29, 30, 31, 32, 33, 34, 35, 36, 37, 38, 39, 40, 41, 42, 43, 44], [2, 45, 46], [0, 4, 47, 48, 49, 50, 51], [53, 54], [0, 55, 56], [3, 58, 59, 60, 61, 62, 63], [0, 64, 65]]
  | 180 => [[8, 9, 10, 11, 12], [14, 15], [1, 2, 16, 17, 18, 19, 20, 21, 22, 23, 24, 25, 26, 27, 28, 29, 30, 31], [0, 3, 32, 33, 34, 35, 36, 37, 38, 39]]
  | 181 => [[], [6, 7, 8], [9], [11, 12], [13, 14, 15, 16, 17, 18, 19, 20], [5, 21]]
  | 182 => [[], [6, 7, 8, 9], [10, 11, 12], [13, 14], [15, 16], [18, 19, 20], [22, 23, 24, 25, 26, 27, 28], [29, 30, 31, 32, 33, 34, 35, 36, 37], [5, 38]]
  | 183 => [[], [1, 6, 7, 8, 9, 10], [11, 12, 13, 14, 15, 16, 17, 18, 19], [21, 22], [23, 24, 25, 26, 27, 28, 29], [30, 31], [32, 33], [35, 36, 37], [38, 39], [40, 41], [0, 42, 43, 44, 45], [5, 46]]
  | 184 => [[2], [4, 5, 6], [7], [9, 10], [11, 12, 13, 14, 15], [3, 16]]
  | 185 => [[2], [0, 3, 4, 5, 6, 7, 8, 9]]
  | 186 => [[1, 4], [0, 3, 5, 6, 7, 8, 9, 10]]
  | 187 => [[0, 2], [1, 3, 4, 5]]
  | 188 => [[4], [6], [], [10], [11, 12, 13, 14, 15], [5, 17], [18], []]
  | 189 => [[2], [0, 3, 4, 5, 6, 7, 8, 9, 10, 11, 12, 13, 14, 15, 16, 17, 18, 19, 20]]
  | 190 => [[4], [], [6, 7, 8, 9, 10, 11, 12, 13, 14, 15], [17, 18], [0, 5, 19, 20, 21]]
  | 191 => [[2], [0, 3, 4, 5, 6, 7, 8]]
  | 192 => [[4], [0, 1, 5, 6, 7, 8, 9, 10, 11, 12, 13]]
  | 193 => [[0, 2], [6], [9], [1, 10, 11, 12, 13, 14, 15], [17], [18], [19], [1, 20, 21, 22, 23, 24, 25], [27], [28, 29, 30], [1, 32, 33, 34, 35, 36, 37, 38, 39, 40, 41, 42, 43, 44, 45, 46], [7, 48], [], [49], [], [54, 55], [5, 56, 57, 58, 59, 60, 61, 62], [63], [3, 64], []]
  | 194 => [[], [7, 8, 9, 10], [11, 12, 13], [14, 15], [16, 17, 18, 19, 20, 21, 22, 23, 24], [26], [28, 29], [30, 31, 32, 33], [6, 34, 35, 36, 37, 38, 39], [5, 40]]
  | 195 => [[2], [5, 6, 7], [8], [10, 11], [12, 13], [4, 14, 15, 16, 17], [3, 18]]
  | 196 => [[0, 2, 3], [5], [8], [9, 10], [11, 12], [4, 14, 15], [1, 16, 17, 18, 19, 20], [22], [1, 23, 24], [26], [1, 27, 28], [30], [31, 32, 33], [1, 35, 36, 37], [1, 38, 39, 40, 41, 42, 43, 44, 45, 46], [48], [], [50], [], [52], [], [54], [1, 55, 56], [6, 58], [1, 59, 60], []]
  | 197 => [[0, 2], [8, 9, 10], [12, 13], [], [], [], [], [16], [17, 18, 19, 20], [22], [5, 24, 25, 26, 27, 28, 29], [30, 31, 32, 33, 34, 35, 36], [7], [5, 6, 38, 39, 40], [41, 42], [43, 44], [45], [1, 3, 4, 46, 47, 48, 49, 50, 51, 52, 53, 54]]
  | 198 => [[0, 4], [5, 6, 7, 8], [10, 11], [1, 2, 12, 13, 14, 15, 16]]
  | 199 => [[], [9, 10, 11, 12], [13, 14], [7, 15, 16, 17, 18, 19, 20], [22, 23], [1, 24, 25, 26, 27], [28, 29], [30, 31], [8, 32, 33, 34, 35, 36], [1, 37, 38, 39], [40], [42, 43, 44, 45, 46, 47], [6, 48]]
  | 201 => [[], [0, 3], [5], [7, 8], [9]]
  | 203 => [[1, 5, 6, 7, 8, 9, 10, 11, 12, 13, 14, 15, 16, 17, 18, 19], [20, 21, 22, 23, 24, 25], [0, 4, 26, 27, 28, 29]]
  | 204 => [[4], [14, 15], [17, 18, 19, 20, 21, 22, 23], [], [25, 26], [0, 1, 27, 28, 29, 30], [32, 33, 34, 35], [], [37, 38, 39, 40, 41, 42, 43, 44], [0, 1, 45, 46, 47], [48, 49], [50, 51], [], [52, 53, 54, 55, 56], [], [57, 58], [60, 61, 62, 63], [65, 66, 67, 68, 69, 70, 71], [72], [], [11, 74, 75, 76, 77], [78, 79, 80, 81, 82, 83, 84, 85, 86, 87, 88, 89, 90, 91, 92], [8, 94], [95, 96], [97, 98], [99, 100, 101, 102, 103, 104, 105, 106], [0, 1, 108, 109, 110, 111, 112], [113], [8, 12, 115, 116, 117], [], [118, 119, 120, 121, 122, 123, 124, 125, 126, 127, 128, 129, 130, 131], [0, 1, 133, 134, 135, 136, 137], [138], [], [8, 13, 140, 141, 142], []]
  | 205 => [[2, 3], [13, 14], [15], [], [17, 18], [19, 20, 21], [22], [6, 24, 25, 26, 27], [0, 7, 28, 29, 30, 31, 32, 33, 34, 35], [36, 37, 38], [6, 39, 40, 41, 42], [4, 43, 44], [], [46, 47], [9, 48, 49, 50, 51, 52, 53, 54, 55, 56], [], [58], [5, 10, 60, 61, 62, 63, 64, 65, 66, 67], [68, 69], [70, 71, 72, 73, 74], [], [8, 76], [5, 10, 11, 78, 79, 80, 81, 82, 83, 84, 85, 86, 87, 88, 89, 90], [0, 91, 92], [93, 94, 95, 96, 97], [], [5, 10, 11, 12, 99, 100, 101, 102, 103, 104, 105, 106, 107, 108, 109, 110, 111, 112, 113, 114, 115, 116]]
  | 206 => [[2], [0, 3, 4]]
  | 207 => [[4, 5, 6, 7, 8, 9, 10, 11, 12, 13], [14, 15, 16, 17, 18, 19, 20], [0, 2, 21, 22, 23, 24, 25], [27, 28, 29], [0, 30, 31], [33, 34], [0, 2, 35, 36, 37, 38, 39], [41, 42], [0, 2, 43, 44, 45, 46, 47], [3, 49, 50, 51, 52, 53, 54, 55, 56, 57, 58, 59, 60, 61, 62, 63, 64], [0, 2, 65, 66, 67, 68, 69]]
  | 208 => [[2], [0, 3, 4, 5, 6, 7, 8]]
  | 209 => [[2], [4, 5, 6], [7, 8, 9, 10, 11, 12, 13, 14, 15], [17, 18], [19, 20, 21, 22, 23, 24, 25], [0, 3, 26, 27, 28]]
  | 210 => [[], [5, 6, 7, 8, 9], [10, 11, 12, 13, 14, 15], [17, 18], [19, 20, 21, 22, 23, 24], [4, 25, 26], [28, 29], [30, 31], [33, 34], [0, 2, 3, 35, 36, 37, 38, 39, 40, 41, 42, 43, 44], [46, 47, 48, 49, 50, 51, 52, 53, 54, 55, 56, 57], [58, 59], [60, 61, 62, 63, 64, 65, 66, 67], [68, 69, 70, 71, 72, 73], [75, 76], [0, 77, 78]]
  | 211 => [[2], [4, 5, 6, 7, 8], [], [0, 10, 11, 12, 13, 14, 15, 16, 17, 18, 19, 20, 21], [22], [25], [26], [27], [28], [], [23, 30], [3, 31, 32, 33, 34], []]
  | 212 => [[], [], [6, 7, 8, 9, 10], [11, 12, 13, 14, 15, 16], [18, 19], [20, 21, 22, 23, 24, 25], [27, 28], [29, 30], [32, 33, 34, 35, 36, 37, 38, 39, 40, 41, 42, 43, 44, 45, 46, 47, 48, 49, 50, 51, 52, 53], [54, 55], [56, 57, 58, 59, 60, 61], [63], [64, 65, 66, 67, 68, 69], [71, 72, 73, 74, 75, 76], [77, 78], [79, 80, 81, 82, 83, 84], [86, 87], [89, 90, 91, 92, 93, 94, 95, 96, 97, 98, 99], [], [101, 102, 103, 104, 105, 106], [0, 2, 4, 107, 108, 109, 110, 111, 112, 113, 114, 115, 116], [5, 117, 118], [0, 119, 120]]
  | 213 => [[3, 4, 5, 6, 7, 8, 9, 10, 11], [12, 13, 14, 15, 16, 17, 18, 19, 20, 21, 22, 23, 24], [0, 2, 26, 27, 28, 29], [30, 31, 32], [34, 35], [0, 2, 36, 37, 38, 39]]
  | 214 => [[0, 1, 4, 5, 6, 7, 8, 9, 10]]
  | 215 => [[], [8, 9, 10], [11, 12, 13, 14, 15, 16], [17], [1, 19, 20, 21, 22], [7, 23, 24, 25, 26], [28, 29], [30, 31, 32, 33, 34, 35], [], [6, 36, 37, 38]]
  | 216 => [[], [12, 13, 14], [15, 16, 17], [19, 20], [0, 1, 21, 22, 23], [25, 26], [5, 27, 28], [30, 31], [5, 32, 33, 34, 35, 36, 37, 38], [39, 40, 41, 42, 43, 44, 45, 46], [47, 48, 49, 50], [51, 52], [53, 54], [0, 7, 56, 57, 58, 59], [6, 60], [0, 1, 61, 62, 63, 64, 65, 66, 67, 68], [6, 69], [71, 72], [73, 74, 75, 76], [0, 1, 5, 8, 77, 78, 79, 80, 81, 82, 83], [85, 86], [87, 88, 89], [90, 91], [92, 93], [1, 5, 9, 94, 95, 96, 97, 98, 99, 100, 101], [0, 102, 103], [10, 104], [106, 107], [0, 1, 5, 108, 109, 110, 111], [1, 112, 113, 114], [0, 115, 116], [11, 117]]
  | 217 => [[2], [4, 5], [6, 7], [9, 10], [0, 11, 12, 13, 14, 15, 16, 17], [3, 18, 19]]
  | 218 => [[4], [6], [], [10], [11, 12, 13, 14, 15], [5, 17], [18], []]
  | 219 => [[0, 3], [1, 2, 4, 5, 6, 7]]
  | 220 => [[3], [0, 1, 4, 5, 6, 7, 8, 9, 10, 11, 12, 13, 14, 15]]
  | 221 => [[2], [3, 4], [5, 6], [0, 7]]
  | 222 => [[4], [0, 1, 5, 6, 7, 8]]
  | 223 => [[], [16, 17, 18], [19, 20, 21], [22, 23, 24, 25], [27], [28], [0, 1, 30, 31, 32], [33], [5, 35, 36], [37], [39, 40, 41, 42], [43, 44, 45], [6, 7, 46, 47, 48, 49, 50, 51, 52], [53, 54], [55, 56], [0, 9, 58, 59, 60, 61], [5, 8, 62, 63, 64], [0, 1, 65, 66, 67], [5, 8, 10, 68, 69, 70, 71, 72, 73], [74], [76, 77, 78, 79], [0, 1, 80, 81, 82], [5, 11, 12, 83, 84, 85, 86, 87], [88], [90, 91, 92], [93, 94], [95, 96], [1, 97, 98, 99, 100], [0, 101, 102], [5, 13, 14, 103, 104, 105, 106, 107], [108], [0, 1, 5, 110, 111, 112, 113], [1, 114, 115, 116], [0, 117, 118], [15, 119]]
  | 224 => [[2], [4, 5, 6], [7, 8, 9, 10, 11, 12], [0, 13, 14], [3, 15]]
  | 225 => [[1, 4], [8, 9], [], [10, 11], [13, 14, 15], [3, 16, 17, 18, 19, 20, 21, 22, 23, 24, 25], [7, 26, 27, 28], [29, 30], [5, 32, 33, 34, 35, 36], [0, 6, 37, 38, 39]]
  | 226 => [[1, 4], [5, 6, 7], [3, 9, 10, 11, 12, 13, 14, 15, 16], [0, 17]]
  | 227 => [[2], [], [5, 6, 7, 8], [9, 10, 11, 12, 13, 14, 15, 16, 17, 18], [20, 21], [22, 23, 24, 25, 26, 27, 28, 29, 30, 31, 32, 33, 34, 35, 36, 37, 38, 39, 40], [42, 43], [44, 45, 46, 47, 48, 49, 50, 51, 52, 53, 54, 55, 56, 57, 58, 59, 60, 61, 62], [64, 65], [66], [4, 68], []]
  | 228 => [[4], [], [8, 9, 10, 11], [12, 13], [15, 16], [17, 18, 19, 20, 21, 22, 23], [24, 25, 26, 27, 28, 29, 30, 31, 32, 33, 34, 35], [37, 38], [39, 40, 41, 42, 43, 44, 45, 46, 47, 48, 49, 50], [52, 53], [7, 54, 55, 56, 57, 58, 59, 60, 61, 62, 63, 64], [], []]
  | 229 => [[4], [7, 8, 9, 10], [11, 12, 13], [1, 14, 15, 16], [0, 5, 17, 18, 19, 20], [6, 21]]
  | 230 => [[], [8, 9, 10], [11, 12], [14, 15, 16], [17, 18], [19, 20, 21], [6, 7, 22, 23, 24, 25, 26, 27, 28], [5, 29]]
  | 232 => [[4], [0, 1, 5, 6, 7]]
  | 234 => [[2], [0, 3, 4, 5]]
  | 235 => [[4], [11, 12, 13, 14, 15], [16, 17], [], [], [18, 19], [21, 22], [23, 24, 25, 26, 27, 28, 29], [30, 31, 32, 33, 34, 35, 36, 37, 38], [], [40], [41, 42, 43], [45, 46], [47, 48, 49, 50, 51, 52], [53, 54, 55, 56, 57, 58, 59, 60, 61, 62], [63, 64], [65, 66, 67, 68, 69, 70, 71, 72, 73, 74, 75, 76], [7, 10, 78, 79, 80], []]
  | 236 => [[2], [], [5], [], [7], [], [9], [10], [3, 11], [0, 12, 13, 14], [0, 15, 16, 17]]
  | 237 => [[2], [], [], [], [], [13, 14, 15], [17, 18], [19, 20, 21], [22, 23, 24], [7, 25, 26, 27, 28], [4, 29, 30, 31, 32, 33, 34], [8, 35], [5, 36], [0, 38, 39], [3, 40, 41], [], [11], [], [42, 43, 44, 45, 46, 47, 48, 49, 50, 51, 52], [54, 55], [56], [57, 58, 59], [61, 62, 63, 64, 65], [67, 68], [11, 69, 70, 71, 72, 73, 74, 75], [76, 77], [78, 79], [80, 81, 82, 83, 84, 85, 86, 87, 88, 89, 90], [92, 93], [94], [95, 96, 97], [0, 10, 11, 99, 100, 101, 102, 103, 104], [9, 105]]
  | 238 => [[4], [0, 1, 5, 6, 7]]
  | 239 => [[4, 5], [8, 9], [6, 10, 11, 12, 13, 14, 15, 16], [], [18, 19], [1, 20, 21, 22, 23], [0, 24, 25], [7, 26]]
  | 240 => [[], [7, 8, 9], [10, 11, 12, 13, 14], [16, 17, 18], [19, 20, 21, 22, 23, 24, 25], [6, 26, 27, 28, 29, 30, 31, 32, 33, 34], [5, 35]]
  | 241 => [[], [6, 7], [1, 8, 9, 10], [0, 11, 12], [5, 13]]
  | 242 => [[], [5, 6], [0, 1, 7, 8, 9, 10]]
  | 243 => [[0, 2, 3], [5, 6, 7, 8], [9, 10], [0, 11, 12, 13, 14, 15, 16, 17], [19, 20], [21, 22, 23, 24]]
  | 244 => [[], [10, 11], [12, 13, 14, 15, 16, 17, 18, 19, 20], [21, 22, 23, 24, 25, 26, 27, 28, 29, 30, 31, 32, 33, 34, 35, 36, 37, 38, 39, 40, 41, 42, 43, 44, 45, 46, 47, 48, 49, 50, 51, 52, 53, 54, 55, 56, 57, 58, 59, 60, 61, 62, 63, 64], [66, 67, 68, 69, 70, 71, 72], [0, 1, 2, 7, 73, 74, 75, 76, 77, 78, 79, 80, 81, 82, 83, 84, 85, 86, 87], [1, 88, 89], [90, 91], [92, 93], [95, 96], [97, 98, 99, 100, 101, 102, 103, 104, 105], [106, 107], [108, 109], [110, 111], [113, 114], [115, 116, 117, 118, 119, 120, 121, 122, 123], [124, 125], [126, 127], [128, 129], [131, 132], [133, 134, 135, 136, 137, 138, 139, 140, 141], [142, 143], [9, 144, 145, 146], [0, 2, 147, 148, 149, 150, 151, 152, 153, 154], [8, 155]]
  | 245 => [[], [7, 8, 9], [11, 12], [0, 1, 5, 13, 14, 15, 16, 17], [19, 20], [0, 1, 5, 21, 22, 23, 24, 25], [27, 28], [5, 29, 30, 31, 32], [33], [1, 35, 36, 37, 38, 39], [0, 40, 41], [6, 42], [44, 45], [5, 46, 47], [49, 50], [5, 51, 52], [54, 55], [5, 56, 57], [59, 60], [0, 1, 5, 61, 62, 63, 64, 65], [67, 68], [0, 1, 5, 69, 70, 71, 72, 73], [0, 1, 5, 74, 75, 76, 77, 78, 79, 80]]
  | 246 => [[4, 5, 6], [7, 8], [10, 11, 12, 13], [14, 15, 16, 17, 18, 19, 20, 21, 22, 23, 24, 25, 26, 27]]
  | 247 => [[], [6, 7], [1, 8, 9, 10], [0, 11, 12], [5, 13]]
  | 248 => [[], [5, 6], [0, 1, 7, 8, 9, 10]]
  | 249 => [[2, 3, 4, 5, 6], [7, 8, 9, 10, 11], [0, 13, 14]]
  | 250 => [[], [15, 16], [17, 18, 19, 20], [21, 22, 23, 24, 25, 26, 27, 28, 29, 30, 31, 32, 33, 34, 35, 36, 37, 38, 39, 40, 41, 42, 43, 44, 45, 46, 47, 48, 49, 50, 51, 52, 53, 54, 55, 56, 57, 58, 59, 60, 61, 62, 63, 64, 65, 66, 67, 68, 69, 70, 71, 72, 73, 74, 75, 76, 77, 78, 79, 80, 81, 82, 83, 84, 85, 86, 87, 88, 89, 90, 91, 92, 93, 94, 95, 96, 97, 98, 99, 100, 101, 102, 103, 104, 105], [107, 108, 109, 110, 111], [2, 112, 113, 114], [0, 1, 7, 8, 115, 116, 117, 118, 119, 120, 121, 122, 123, 124, 125, 126, 127, 128, 129, 130, 131, 132, 133, 134, 135, 136], [1, 137, 138, 139], [], [140], [142, 143], [], [144], [146, 147], [148, 149, 150, 151, 152, 153], [], [155], [156], [158, 159, 160, 161], [162, 163, 164, 165], [13, 166, 167, 168, 169, 170, 171], [172, 173, 174, 175, 176, 177], [12, 178, 179, 180, 181, 182], [0, 2, 183, 184, 185], [14, 186, 187, 188, 189, 190, 191], [9, 192]]
  | 251 => [[], [9, 10, 11], [12, 13, 14, 15, 16], [0, 1, 5, 18, 19, 20, 21], [22], [5, 24, 25, 26, 27], [28], [1, 30, 31, 32, 33, 34], [0, 35, 36], [6, 37], [38], [5, 40, 41], [42], [5, 44, 45], [46], [5, 48, 49], [50, 51, 52, 53, 54], [], [56], [], [58, 59], [5, 7, 60, 61, 62], [63, 64, 65, 66, 67, 68, 69], [0, 1, 71, 72, 73, 74, 75, 76], [8, 77], [0, 1, 5, 78, 79, 80, 81, 82, 83, 84]]
  | 252 => [[4], [7, 8, 9, 10], [11], [13, 14], [15, 16, 17], [6, 18, 19, 20, 21], [5, 22]]
  | 253 => [[], [8, 9, 10], [11, 12, 13, 14, 15, 16, 17, 18, 19, 20, 21, 22, 23], [25, 26, 27], [28, 29], [0, 1, 30, 31, 32], [5, 6, 7, 33, 34, 35, 36, 37, 38, 39], [5, 40]]
  | 255 => [[2, 3], [], [], [9, 10, 11], [13, 14], [15, 16, 17, 18, 19, 20, 21], [], [0, 22, 23], [24], [26, 27], [28, 29], [31, 32, 33], [34, 35, 36], [4, 6, 37, 38]]
  | 256 => [[4], [12], [], [13], [], [15, 17, 18], [8, 19, 20], [22], [7, 24, 25, 26, 27, 28, 29], [30, 31], [32], [7, 34], [35], [6, 37, 38, 39, 40, 41, 42, 43], [44, 45, 46], [5], [], [51, 52, 53], [10, 11, 54, 55, 56, 57, 58, 59, 60, 61, 62], [63], [9, 64]]
  | 257 => [[2], [3, 4], [0], [8], [9], [10], [11], [12], [13], [14], [6, 15], [], [], [0, 16, 17, 18]]
  | 258 => [[2], [5, 6], [], [], [8, 9, 10, 11], [12, 13, 14, 15, 16, 17], [19, 20], [21, 22, 23, 24, 25, 26, 27, 28], [30, 31, 32, 33, 34, 35, 36], [39], [40, 41], [37, 43], [44, 45], [46], [4, 48], []]
  | 259 => [[4], [], [7, 8, 9, 10], [11, 12], [14, 15], [16, 17, 18, 19, 20, 21, 22, 23], [25, 26, 27, 28, 29, 30, 31], [34], [35], [36, 37], [39], [40], [41, 42], [32, 44], [45], [], []]
  | 260 => [[4], [7, 8, 9, 10], [11, 12, 13], [1, 14, 15, 16], [0, 5, 17, 18, 19, 20], [6, 21]]
  | 261 => [[], [7, 8, 9], [10, 11], [13, 14, 15], [16, 17, 18, 19, 20, 21, 22, 23, 24], [5, 25], [27, 28, 29, 30, 31, 32, 33, 34, 35, 36, 37, 38, 39, 40, 41, 42, 43, 44, 45, 46, 47, 48, 49, 50, 51, 52, 53, 54], [55, 56, 57, 58, 59, 60, 61], [0, 1, 5, 6, 62, 63, 64, 65, 66, 67, 68, 69, 70, 71], [5, 72]]
  | 262 => [[1], [12, 13, 14, 15], [16, 17, 18], [19, 20, 21, 22, 23, 24], [25, 26, 27, 28, 29, 30, 31], [10], [9, 33, 34], [8, 35, 36, 37, 38, 39, 40, 41, 42, 43, 44, 45, 46, 47, 48, 49, 50], [52, 53, 54, 55, 56], [7, 57, 58, 59, 60], [61, 62, 63], [64, 65, 66, 67, 68], [11, 70, 71], [0, 2, 72, 73, 74, 75, 76, 77, 78, 79, 80], [4, 81]]
  | 263 => [[4], [6, 7, 8, 9], [10], [12, 13], [14, 15, 16, 17, 18, 19], [5, 20]]
  | 264 => [[1], [7, 8, 9, 10, 11, 12, 13], [0, 2, 15, 16, 17, 18, 19, 20], [4, 21]]
  | 265 => [[2], [0, 3, 4, 5, 6, 7, 8, 9, 10, 11, 12, 13, 14, 15]]
  | 266 => [[], [1, 11, 12], [13], [15], [16, 17], [18, 19, 20, 21], [22, 23, 24], [25, 26], [9, 27, 28, 29, 30, 31, 32, 33, 34, 35, 36, 37, 38, 39, 40, 41, 42, 43, 44], [46, 47], [48, 49, 50], [51, 52, 53, 54, 55], [56, 57], [58, 59, 60, 61, 62, 63, 64, 65, 66, 67, 68, 69, 70], [72, 73, 74, 75, 76], [8, 77, 78, 79, 80], [81, 82], [84, 85, 86, 87], [88, 89], [0, 2, 90, 91, 92, 93], [10, 94, 95, 96, 97, 98, 99], [7, 100]]
  | 267 => [[], [8, 9, 10], [11, 12, 13], [6, 14, 15, 16, 17, 18, 19, 20, 21, 22, 23, 24, 25, 26, 27, 28, 29, 30, 31, 32, 33, 34, 35, 36, 37, 38, 39, 40, 41, 42], [44, 45, 46], [47, 48, 49], [7, 50, 51, 52, 53, 54, 55], [5, 56]]
  | 268 => [[4], [8, 9, 10, 11], [12, 13, 14, 15], [16, 17, 18, 19, 20, 21, 22, 23, 24, 25, 26, 27, 28, 29, 30, 31], [1, 5, 6, 33, 34, 35, 36, 37, 38], [0, 39, 40, 41, 42], [43, 44, 45, 46, 47, 48, 49, 50, 51, 52, 53], [1, 7, 55, 56, 57, 58], []]
  | 269 => [[], [6, 7, 8], [9], [11, 12, 13, 14, 15, 16, 17, 18], [5, 19]]
  | 270 => [[4, 5], [9, 10], [11, 12, 13, 14, 15, 16, 17], [], [6, 19, 20, 21, 22, 23, 24, 25, 26], [7, 27, 28, 29, 30, 31, 32, 33, 34, 35, 36, 37, 38, 39, 40, 41, 42, 43, 44, 45], [], [47, 48], [1, 49, 50, 51], [0, 52, 53], [8, 54]]
  | 271 => [[2], [0, 3, 4, 5, 6, 7, 8, 9, 10, 11, 12, 13, 14, 15, 16, 17, 18, 19, 20]]
  | 272 => [[1, 4], [3, 5, 6, 7, 8, 9, 10, 11, 12, 13, 14, 15, 16, 17, 18]]
  | 273 => [[], [8, 9, 10], [11, 12], [14, 15, 16], [17, 18], [19, 20, 21], [6, 7, 22, 23, 24, 25, 26, 27, 28], [5, 29]]
  | 274 => [[4], [11, 12, 13, 14, 15, 16], [18], [], [22], [5, 23, 24, 25], [26, 27, 28, 29, 30], [], [32, 33, 34, 35, 36], [1, 6, 38, 39, 40, 41, 42, 43, 44, 45, 46, 47, 48, 49, 50, 51, 52, 53, 54, 55, 56], [57], [], [], [58, 59], [60, 61], [63, 64, 65, 66, 67, 68], [69, 70, 71], [72, 73, 74, 75, 76, 77, 78, 79, 80, 81, 82, 83, 84], [1, 10, 86, 87, 88, 89, 90, 91, 92, 93, 94, 95, 96, 97, 98, 99, 100, 101, 102, 103, 104], [10, 105, 106, 107, 108, 109], [9, 111], [9, 112, 113], []]
  | 275 => [[4], [11, 12], [14], [], [18], [5, 19, 20, 21], [22, 23, 24, 25, 26], [], [28, 29, 30, 31, 32], [1, 6, 34, 35, 36, 37, 38, 39, 40, 41, 42, 43, 44, 45, 46, 47, 48, 49, 50, 51, 52], [53], [], [], [54, 55], [56, 57], [59, 60, 61, 62, 63, 64], [65, 66, 67, 68], [69, 70, 71, 72, 73, 74, 75, 76, 77], [1, 10, 79, 80, 81, 82, 83, 84, 85, 86, 87, 88, 89, 90, 91], [10, 92, 93, 94], [9, 96], [9, 97, 98], []]
  | 276 => [[], [7, 8, 9], [10, 11, 12, 13, 14], [16, 17, 18], [19, 20, 21, 22, 23, 24, 25], [6, 26, 27, 28, 29, 30, 31, 32, 33, 34], [5, 35]]
  | 277 => [[2], [0, 4, 5], [6], [9], [10], [11], [12], [13], [], [7, 15], [3, 16, 17, 18, 19, 20, 21, 22, 23, 24, 25, 26, 27, 28, 29, 30, 31, 32, 33], []]
  | 278 => [[], [8, 9, 10], [11, 12], [14, 15, 16], [17, 18], [19, 20, 21], [6, 7, 22, 23, 24, 25, 26, 27, 28], [5, 29]]
  | 279 => [[], [7, 8, 9], [10, 11, 12, 13, 14, 15, 16, 17, 18], [20, 21, 22], [23, 24, 25, 26, 27, 28, 29], [6, 30, 31, 32, 33, 34, 35, 36, 37, 38], [5, 39]]
  | 280 => [[], [10, 11, 12], [13, 14, 15, 16, 17, 18], [19, 20], [22, 23], [0, 1, 24, 25, 26, 27], [5, 6, 7, 28, 29, 30, 31, 32], [33, 34], [0, 1, 36, 37, 38], [39, 40], [1, 41, 42, 43], [8, 44, 45, 46, 47, 48, 49, 50, 51, 52, 53], [55, 56, 57], [0, 58, 59], [6, 9, 60, 61, 62, 63, 64, 65, 66], [9, 67]]
  | 281 => [[], [9, 10, 11], [12, 13], [14, 15, 16, 17, 18, 19, 20, 21, 22], [0, 1, 5, 24, 25, 26, 27, 28, 29, 30, 31, 32, 33], [34, 35, 36, 37, 38], [0, 1, 40, 41, 42], [43, 44, 45, 46], [1, 47, 48, 49], [50, 51, 52], [0, 6, 53, 54, 55, 56, 57, 58, 59, 60, 61, 62, 63, 64, 65, 66], [8, 68, 69, 70, 71, 72, 73, 74], [7, 75]]
  | 282 => [[], [8, 9, 10, 11, 12, 13], [14, 15], [16, 17, 18, 19, 20, 21, 22, 23, 24, 25, 26], [0, 1, 27, 28, 29], [5, 6, 7, 30, 31, 32, 33, 34, 35]]
  | 283 => [[], [17, 18], [19, 20, 21, 22], [24], [25], [28], [7, 29, 30, 31, 32, 33, 34, 35], [8, 36, 37, 38, 39, 40], [0, 41, 42], [5, 6, 43, 44, 45, 46], [48], [49], [0, 50, 51], [5, 52, 53, 54, 55, 56, 57, 58, 59], [61], [62, 63], [64, 65], [5, 67, 68, 69, 70, 71], [1, 72, 73, 74, 75], [0, 76, 77], [5, 9, 78, 79, 80, 81, 82, 83], [85], [86, 87], [0, 1, 88, 89, 90], [5, 10, 91, 92, 93, 94, 95, 96], [26, 98], [0, 1, 99, 100, 101], [102], [104, 105, 106, 107], [108], [109, 110], [0, 1, 112, 113, 114, 115], [0, 1, 116, 117, 118, 119], [5, 11, 120, 121, 122, 123, 124], [125], [5, 127, 128, 129], [130, 131, 132, 133, 134, 135, 136], [138, 139, 140], [13, 141, 142, 143, 144, 145, 146, 147], [148], [0, 1, 150, 151, 152], [14, 153, 154, 155, 156, 157, 158, 159, 160, 161, 162], [12, 163], [164, 165], [166, 167, 168, 169], [170, 171, 172], [1, 173, 174, 175, 176], [15, 177, 178, 179, 180], [0, 181, 182], [5, 183, 184, 185], [16, 186]]
  | 284 => [[], [6, 7], [8, 9, 10, 11, 12, 13, 14], [0, 1, 5, 15, 16, 17, 18, 19, 20, 21, 22, 23, 24]]
  | 285 => [[], [12, 13], [14], [17], [7, 18, 19, 20, 21, 22, 23, 24], [25], [8, 27, 28, 29], [0, 30, 31, 32, 33, 34, 35, 36], [5, 6, 37, 38, 39, 40], [42], [0, 43, 44, 45, 46, 47, 48, 49], [5, 50, 51, 52, 53, 54], [56], [0, 57, 58, 59, 60, 61, 62, 63], [5, 64, 65, 66, 67, 68], [70], [71, 72, 73, 74, 75, 76, 77], [78, 79], [5, 81, 82, 83, 84, 85], [1, 5, 86, 87, 88, 89, 90, 91, 92, 93, 94], [0, 95, 96], [9, 97], [99], [100, 101, 102, 103, 104, 105, 106], [0, 1, 5, 107, 108, 109, 110, 111, 112, 113, 114], [15, 116], [0, 1, 117, 118, 119], [121, 122], [123, 124, 125, 126], [127, 128, 129, 130, 131], [0, 1, 5, 133, 134, 135, 136, 137, 138, 139, 140], [0, 1, 5, 141, 142, 143, 144, 145, 146, 147, 148], [150, 151], [0, 1, 5, 152, 153, 154, 155, 156], [158, 159], [160, 161, 162, 163], [164, 165, 166], [1, 167, 168, 169, 170], [10, 171, 172, 173, 174], [0, 175, 176], [5, 177, 178, 179], [11, 180], [0, 181, 182], [183]]
  | 286 => [[2, 3, 4], [], [12, 13, 14, 15, 16, 17, 18, 19, 20, 21, 22, 23, 24, 25, 26, 27, 28, 29, 30, 31, 32], [34, 35], [36], [37, 38, 39, 40, 41, 42, 43, 44, 45, 46, 47, 48, 49, 50, 51], [53, 54, 55, 56, 57], [58, 59], [60], [61, 62, 63, 64, 65, 66, 67, 68, 69, 70, 71, 72, 73, 74, 75, 76, 77, 78, 79], [81, 82, 83], [85, 86, 87, 88, 89, 90, 91, 92, 93, 94, 95, 96, 97, 98, 99, 100], [], [], [102, 103], [104], [106, 107, 108, 109, 110, 111, 112, 113], [114], [116, 117], [118, 119], [9, 120], [], [122], [124, 125, 126], [127], [], [129, 130], [7, 131, 132, 133], [6, 134, 135, 136, 137, 138], [5, 10, 11, 139, 140, 141]]
  | 287 => [[4], [6, 7], [8], [], [1, 10, 11, 12, 13], [0, 14, 15], [5, 16]]
  | 288 => [[], [11, 12], [13, 14, 15, 16, 17], [18, 19], [20, 21, 22, 23, 24, 25], [1, 27, 28, 29, 30], [31, 32, 33], [], [34], [37], [], [39], [40], [41], [], [43], [44], [], [46], [47], [48], [49], [], [35, 51], [], [7, 8, 9, 52, 53, 54, 55, 56, 57, 58, 59, 60, 61, 62, 63, 64, 65, 66, 67, 68, 69, 70, 71, 72, 73, 74, 75, 76, 77, 78, 79, 80, 81, 82, 83, 84, 85, 86, 87, 88, 89, 90, 91, 92, 93, 94], [10, 95, 96, 97, 98, 99, 100, 101], [0, 5, 103, 104, 105, 106, 107, 108, 109, 110], [6, 111]]
  | 289 => [[], [5, 6, 7, 8, 9, 10, 11, 12], [14, 15], [0, 1, 16, 17, 18]]
  | 290 => [[2, 3, 4], [], [15, 16, 17, 18, 19, 20, 21, 22, 23, 24, 25, 26, 27, 28, 29, 30, 31, 32, 33, 34, 35], [37, 38], [39, 40, 41, 42, 43, 44, 45, 46, 47, 48], [49, 50, 51, 52, 53, 54, 55, 56, 57, 58, 59, 60], [62, 63], [], [64], [65, 66], [68, 69], [70, 71, 72, 73, 74, 75], [9, 10, 76, 77, 78, 79, 80, 81, 82, 83, 84], [85, 86, 87, 88], [8, 89, 90, 91], [92, 93, 94, 95, 96, 97, 98, 99, 100, 101, 102, 103, 104, 105, 106, 107, 108, 109, 110], [], [112, 113], [114, 115], [117, 118], [119, 120], [121, 122, 123, 124, 125], [126, 127], [11, 128], [], [6, 130, 131, 132, 133, 134, 135, 136], [7, 137], [], [5, 13, 14, 139, 140, 141]]
  | 291 => [[4], [6, 7], [8], [], [1, 10, 11, 12, 13], [0, 14, 15], [5, 16]]
  | 292 => [[], [7, 8], [9, 10, 11, 12, 13, 14, 15], [16, 17, 18, 19, 20], [21, 22, 23, 24, 25, 26], [0, 1, 28, 29, 30, 31], [32, 33, 34, 35, 36], [5, 38, 39, 40, 41], [6, 42]]
  | 293 => [[], [1, 8, 9], [10, 11, 12, 13, 14, 15, 16], [18, 19, 20, 21, 22, 23], [24], [26, 27, 28, 29], [0, 2, 30, 31, 32, 33, 34, 35, 36, 37], [7, 38]]
  | 294 => [[2], [0, 3, 4, 5, 6, 7, 8]]
  | 295 => [[2], [3, 4, 5, 6, 7, 8, 9, 10, 11, 12, 13], [15, 16, 17, 18, 19], [0, 20]]
  | 296 => [[0, 2, 3], [7, 8], [4, 9, 10, 11, 12, 13, 14, 15, 16, 17, 18, 19, 20, 21, 22, 23], [], [], [25, 26, 27, 28], [29], [31, 32], [33], [35, 36, 37, 38, 39, 40, 41, 42], [43, 44, 45, 46, 47, 48, 49, 50], [5, 51]]
  | 297 => [[4], [0, 1, 5, 6, 7, 8, 9, 10, 11, 12, 13, 14, 15, 16, 17, 18, 19, 20]]
  | 298 => [[4, 5], [14, 15], [16, 17], [18, 19], [20, 21], [22, 23, 24], [8, 10, 25, 26, 27, 28, 29, 30], [31, 32], [11, 33, 34], [6, 35, 36, 37, 38, 39], [7, 9, 12, 13, 40, 41, 42, 43, 44, 45, 46, 47], [0, 1, 48, 49, 50]]
  | 299 => [[1, 2, 10, 11, 12, 13, 14, 15, 16, 17], [7, 18, 19, 20, 21, 22, 23, 24, 25, 26], [0, 6, 8, 9, 27, 28, 29, 30, 31, 32, 33, 34, 35, 36, 37, 38, 39, 40, 41, 42, 43]]
  | 300 => [[4, 5], [7, 8, 9, 10, 11, 12, 13, 14, 15, 16], [], [1, 18], [0, 19, 20, 21], [0, 22, 23]]
  | 301 => [[4], [6, 7], [0], [10], [5, 11, 12], [14], [15], [16], [5, 17, 18], [20], [21], [5, 22, 23], [25], [5, 26, 27, 28, 29, 30, 31], [33], [1, 5, 34, 35, 36, 37, 38, 39, 40, 41, 42, 43, 44, 45, 46], [48], [49], [1, 5, 50, 51, 52, 53, 54, 55, 56, 57, 58, 59, 60, 61], [8, 63], [5, 64, 65], [5, 66, 67]]
  | 302 => [[4], [6, 7, 8, 9, 10], [11], [13, 14], [15, 16, 17, 18, 19, 20], [0, 1, 5, 22, 23, 24, 25, 26, 27, 28], []]
  | 304 => [[4], [5, 6, 7], [0, 1, 9, 10, 11, 12], []]
  | 334 => [[0, 1, 2, 3, 4, 5], [6, 7, 8, 9, 10, 11, 12, 13, 14, 15], [16], [17], [18]]
  | _ => []
def drop (f id : Nat) : List Nat := (dropT f).getD id []
/-- of a Builder's type: the byte's -/
def bty : TypeId → Option TypeId
  | 142 => some 5
  | _ => none
/-- types whose fields grow -/
def pre : TypeId → Bool
  | 194 => true
  | _ => false
/-- what is known of the library's variables: some number, and the table of blanks -/
def know (I : Nat → Nat → Option Value) (ty : Nat → Option (TypeId × Nat)) : Prop := (∃ m, I 1 0 = some (.int .i64 m)) ∧ (∃ t, ty 4 = some (t, Lib.asciiSpaceTab.length)) ∧ ∀ i : Nat, i < Lib.asciiSpaceTab.length → I 4 i = some (.int .u8 (Lib.asciiSpaceTab.getD i 0))
noncomputable def cx : Ctx := { P := Tryz.prog, glob := fun _ => none, drop := drop, bty := bty, know := know }
def bodyOf (fn : Func) : Code := fn.body.getD .skip
theorem hm : cx.P.follows .mixedOrders = true := by kernel_rfl
theorem names_ok : Tryz.prog.funcs.all (fun fn => !(fn.name == "runtime.NumGoroutine")) = true := by kernel_rfl
theorem hname (f : FuncId) (fn : Func) (h : cx.P.funcs[f]? = some fn) : (fn.name == "runtime.NumGoroutine") = false := by
  have h1 := Array.all_eq_true'.1 names_ok fn (Array.mem_of_getElem? h)
  simpa using h1
end Go.Proofs.YtdiphholophdcabGreatDoor.T
end
section
/- CONTRACTS THAT ARE NOT OF THE RUN: functions without a body, and strings.Builder's copyCheck. -/
namespace Go.Ab
open Go.RowKit

section
variable {c : Ctx}
end
end Go.Ab
end
section
/- CONTRACTS OF THE LIBRARY's FUNCTIONS, AS THE RUN OF A CALL AND AS TREES. -/
namespace Go.Ab
open Go.RowKit

/-- a function's run, given from outside -/
abbrev ExtFn := List SV → St → Option (COut × St)
/-- it is the machine's -/
def ExtSound (c : Ctx) (f : FuncId) (g : ExtFn) : Prop := ∀ args S out S', g args S = some (out, S') → Steps1 S.H.length S S' ∧
  ∀ (B : Bd) (w0 : World) (G : Gh) (w : World) (vs : Array Value), Inv c B w0 G S w → RArgs G S.T args vs → CallTo c.P f vs w fun en w' => ∃ G', Inv c B w0 G' S' w' ∧ Grows G S.T G' S'.T ∧ OutR G' S'.T out en

section
variable {c : Ctx} {B : Bd} {w0 : World} {G : Gh} {S : St} {w : World}
theorem args_one {T : List Nat} {x : SV} {vs : Array Value} (h : RArgs G T [x] vs) : ∃ v, vs = #[v] ∧ RS G T x v := by
  obtain ⟨hl, hr⟩ := h
  refine ⟨vs[0]'(by rw [← hl]; simp), ?_, hr 0 (by simp) (by rw [← hl]; simp)⟩
  apply Array.ext
  · exact hl.symm
  · intro i h1 h2
    have : i = 0 := by simpa using h2
    subst this; rfl
theorem args_two {T : List Nat} {x y : SV} {vs : Array Value} (h : RArgs G T [x, y] vs) : ∃ v u, vs = #[v, u] ∧ RS G T x v ∧ RS G T y u := by
  obtain ⟨hl, hr⟩ := h
  refine ⟨vs[0]'(by rw [← hl]; simp), vs[1]'(by rw [← hl]; simp), ?_, hr 0 (by simp) (by rw [← hl]; simp), hr 1 (by simp) (by rw [← hl]; simp)⟩
  apply Array.ext
  · exact hl.symm
  · intro i h1 h2
    have h3 : i < 2 := by simpa using h2
    match i, h3 with
    | 0, _ => rfl
    | 1, _ => rfl
theorem args_three {T : List Nat} {x y z : SV} {vs : Array Value} (h : RArgs G T [x, y, z] vs) : ∃ v u t, vs = #[v, u, t] ∧ RS G T x v ∧ RS G T y u ∧ RS G T z t := by
  obtain ⟨hl, hr⟩ := h
  refine ⟨vs[0]'(by rw [← hl]; simp), vs[1]'(by rw [← hl]; simp), vs[2]'(by rw [← hl]; simp), ?_, hr 0 (by simp) (by rw [← hl]; simp), hr 1 (by simp) (by rw [← hl]; simp), hr 2 (by simp) (by rw [← hl]; simp)⟩
  apply Array.ext
  · exact hl.symm
  · intro i h1 h2
    have h3 : i < 3 := by simpa using h2
    match i, h3 with
    | 0, _ => rfl
    | 1, _ => rfl
    | 2, _ => rfl
theorem list_set_same {α : Type} {l : List α} {i : Nat} {x : α} (h : l[i]? = some x) : l.set i x = l := by
  apply List.ext_getElem?
  intro j
  rw [List.getElem?_set]
  split
  · rename_i e
    subst e
    split
    · exact h.symm
    · rename_i hl
      rw [List.getElem?_eq_none (by omega)]
  · rfl
/-- (*strings.Builder).copyCheck -/
def extCopyCheck (tB : TypeId) : ExtFn := fun args S => match args with
  | [(.ptr b 0, .no)] => match S.H[b]? with
    | some ((.bself t b', .no) :: _) => match Nat.beq t tB && Nat.beq b' b with
      | true => some (.ret (.tup [], .no), S)
      | false => none
    | _ => none
  | _ => none
theorem extCopyCheck_sound {f : FuncId} {tB : TypeId}
    (enter : ∀ vs w, (callFunc f vs).run c.P w = .ok (.enter f vs) w)
    (fresh : ∀ (b : Nat) (w : World), w.cell? ⟨b, 0, none⟩ = some (.pointer none) → w.shape? b = some (tB, 2) → w.frozen? ⟨b, 0, none⟩ = false →
      Calls c.P f #[.pointer (some ⟨b, 0, none⟩)] w fun e w' => e = .returned (.tuple #[]) ∧ w' = w.setCell ⟨b, 0, none⟩ (.pointer (some ⟨b, 0, none⟩)))
    (used : ∀ (b : Nat) (w : World), w.cell? ⟨b, 0, none⟩ = some (.pointer (some ⟨b, 0, none⟩)) →
      Calls c.P f #[.pointer (some ⟨b, 0, none⟩)] w fun e w' => e = .returned (.tuple #[]) ∧ w' = w) : ExtSound c f (extCopyCheck tB) := by
  intro args S out S' h
  unfold extCopyCheck at h
  split at h
  · rename_i b
    split at h
    · rename_i t b' rest hb
      split at h
      · rename_i e
        simp only [Bool.and_eq_true, Nat.beq_eq] at e
        obtain ⟨rfl, rfl⟩ := e
        cases h
        refine ⟨.refl _ _, fun B w0 G w vs inv ha => ?_⟩
        obtain ⟨v0, rfl, h0⟩ := args_one ha
        have h1 := h0.1
        cases h1 with
        | ptr _ _ d hφ =>
          obtain ⟨hB, us, tt, fr, hu, hus, hfr, hR⟩ := inv.blk b' d _ hb hφ
          have h0us : 0 < us.size := by simp at hus; omega
          have hc0 := hR 0 (by simp) h0us
          have hb0 := hc0.1
          simp only [List.getElem_cons_zero] at hb0
          have hty : G.ty d = some (t, 2) := by
            generalize us[0]'h0us = v1 at hb0
            cases hb0 with
            | bself0 _ _ d' h1 h2 => rw [hφ] at h1; cases h1; exact h2
            | bself _ _ d' h1 h2 => rw [hφ] at h1; cases h1; exact h2
          obtain ⟨us', fr', q1, q2, _⟩ := inv.ty d t 2 hty
          rw [hu] at q1
          cases q1
          have hcell : w.cell? ⟨d, 0, none⟩ = some (us[0]'h0us) := by rw [cell_of_heap hu, Array.getElem?_eq_getElem h0us]
          refine .inl ⟨enter _ _, ?_⟩
          generalize hv1 : us[0]'h0us = v1 at hb0 hcell
          cases hb0 with
          | bself0 =>
            refine (fresh d w hcell (by simp [World.shape?, hu, q2]) (frozen_of hu (hfr 0 (by simp)))).mono ?_
            rintro e w' ⟨rfl, rfl⟩
            have hw := setCells_spec d t fr [.pointer (some ⟨d, 0, none⟩)] 0 w us hu
            have e1 : w.setCells d 0 [.pointer (some ⟨d, 0, none⟩)] = w.setCell ⟨d, 0, none⟩ (.pointer (some ⟨d, 0, none⟩)) := rfl
            rw [e1] at hw
            refine ⟨G, ?_, .refl _ _, RS.no (.tup [] #[] rfl (fun i h => absurd h (by simp)))⟩
            have := inv.blkSet (b := b') (cells' := (.bself t b', .no) :: rest) hb hφ hu hw (putRow_size _ _ _) rfl (inv.low b' _ hb) (inv.tag b' _ hb) (fun i h h' => by
              have e2 := putRow_get us 0 #[.pointer (some ⟨d, 0, none⟩)] i
              rw [Array.getElem?_eq_getElem h'] at e2
              match i, h, h', e2 with
              | 0, h, h', e2 =>
                rw [if_pos (by simp; omega)] at e2
                have e3 := Option.some.inj e2
                rw [e3]
                exact RS.no (.bself t b' d hφ hty)
              | i + 1, h, h', e2 =>
                have hi : i + 1 < us.size := by simp only [List.length_cons] at hus h; omega
                rw [if_neg (by simp), Array.getElem?_eq_getElem hi] at e2
                rw [Option.some.inj e2]
                exact hR (i + 1) h hi)
            rwa [list_set_same hb] at this
          | bself _ _ d' h1 h2 =>
            rw [hφ] at h1
            cases h1
            refine (used d w hcell).mono ?_
            rintro e w' ⟨rfl, rfl⟩
            exact ⟨G, inv, .refl _ _, RS.no (.tup [] #[] rfl (fun i h => absurd h (by simp)))⟩
      · cases h
    · cases h
  · cases h
/-- internal/bytealg.IndexByteString -/
def extIndexByteString : ExtFn := fun args S => match args with
  | [(.str s, .no), (.int .u8 c, .no)] => some (.ret (.int .i64 (Lib.indexByte s c.toNat.toUInt8), .no), S)
  | _ => none
theorem extIndexByteString_sound {f : FuncId} {fn : Func} (hf : c.P.funcs[f]? = some fn) (hname : (fn.name == "runtime.NumGoroutine") = false) (hb : fn.body.isNone = true) (hn : Extern.findNext fn = none)
    (he : Extern.find fn = some Extern.BytealgIndexByte.indexByte) : ExtSound c f extIndexByteString := by
  intro args S out S' h
  unfold extIndexByteString at h
  split at h
  · rename_i s n
    cases h
    refine ⟨.refl _ _, fun B w0 G w vs inv ha => ?_⟩
    obtain ⟨v0, v1, rfl, h0, h1⟩ := args_two ha
    have h0 := h0.1
    have h1 := h1.1
    cases h0
    cases h1
    refine .inr ⟨.int .i64 (Lib.indexByte s n.toNat.toUInt8), w, ?_, G, inv, .refl _ _, RS.no (.int _ _)⟩
    rw [run_callFunc_extern hf hname hb hn he, Lib.run_indexByteString]
    rfl
  · cases h
/-- strings.Contains -/
def extContains : ExtFn := fun args S => match args with
  | [(.str s, .no), (.str t, .no)] => match Nat.blt s.length 4294967281 with
    | true => some (.ret (.bool (Lib.contains s t), .no), S)
    | false => none
  | _ => none
theorem extContains_sound {f : FuncId} {g : Nat} (enter : ∀ vs w, (callFunc f vs).run c.P w = .ok (.enter f vs) w) (hk : ∀ I ty, c.know I ty → ∃ m, I g 0 = some (.int .i64 m))
    (hC : ∀ (s sub : ByteArray) (m : Int) (w : World), s.size < 4294967281 → w.cell? ⟨g, 0, none⟩ = some (.int .i64 m) →
      Calls c.P f #[.string s, .string sub] w fun e w' => e = .returned (.bool (Lib.contains s.data.toList sub.data.toList)) ∧ w' = w) : ExtSound c f extContains := by
  intro args S out S' h
  unfold extContains at h
  split at h
  · rename_i s t
    split at h
    · rename_i hl
      cases h
      refine ⟨.refl _ _, fun B w0 G w vs inv ha => .inl ⟨enter _ _, ?_⟩⟩
      obtain ⟨v0, v1, rfl, h0, h1⟩ := args_two ha
      have h0 := h0.1
      have h1 := h1.1
      cases h0
      cases h1
      obtain ⟨m, hm⟩ := hk _ _ (inv.know G.I G.ty (fun _ _ _ h => h) (fun _ _ h => h))
      refine (hC ⟨⟨s⟩⟩ ⟨⟨t⟩⟩ m w (by rw [Nat.blt_eq] at hl; exact hl) (inv.imm _ _ _ hm).1).mono ?_
      rintro e w' ⟨rfl, rfl⟩
      exact ⟨G, inv, .refl _ _, RS.no (.bool _)⟩
    · cases h
  · cases h
/-- strings.Fields -/
def extFields : ExtFn := fun args S => match args with
  | [(.str s, .no)] => match Nat.blt s.length 4294967281 && s.all fun b => Nat.blt b.toNat 128 with
    | true => some (.ret (.sl ((Lib.fields s).map AV.str), .no), S)
    | false => none
  | _ => none
theorem fl_strs : ∀ (l : List (List UInt8)), fl (l.map AV.str) = l.map AV.str
  | [] => rfl
  | x :: l => by
    show (AV.str x).cells ++ fl (l.map AV.str) = _
    rw [fl_strs l]; rfl
theorem extFields_sound {f : FuncId} {g : Nat} {te : TypeId} {name : String} {zs : List Int} (enter : ∀ vs w, (callFunc f vs).run c.P w = .ok (.enter f vs) w)
    (hk : ∀ I ty, c.know I ty → (∃ t, ty g = some (t, zs.length)) ∧ ∀ i : Nat, i < zs.length → I g i = some (.int .u8 (zs.getD i 0))) (hg : c.P.globalNamed name = some g)
    (hC : ∀ (s : ByteArray) (w : World), s.size < 4294967281 → (∀ (j : Nat) b, s.data.toList[j]? = some b → b.toNat < 128) → Lib.TabIs c.P w name .u8 zs → Calls c.P f #[.string s] w fun e w' =>
      e = .returned (.slice (some ⟨w.heap.size, 0, none⟩) (Lib.fields s.data.toList).length (Lib.fields s.data.toList).length) ∧ w' = w.alloc (.cells ((Lib.fields s.data.toList).map fun l => Value.string ⟨l.toArray⟩).toArray te)) :
    ExtSound c f extFields := by
  intro args S out S' h
  unfold extFields at h
  split at h
  · rename_i s
    split at h
    · rename_i hl
      cases h
      simp only [Bool.and_eq_true, Nat.blt_eq, List.all_eq_true] at hl
      obtain ⟨hl, ha8⟩ := hl
      refine ⟨.refl _ _, fun B w0 G w vs inv ha => .inl ⟨enter _ _, ?_⟩⟩
      obtain ⟨v0, rfl, h0⟩ := args_one ha
      have h0 := h0.1
      cases h0
      obtain ⟨⟨t, ht⟩, hm⟩ := hk _ _ (inv.know G.I G.ty (fun _ _ _ h => h) (fun _ _ h => h))
      have htab : Lib.TabIs c.P w name .u8 zs := by
        obtain ⟨us, fr, h1, h2, _⟩ := inv.ty g t _ ht
        unfold Lib.TabIs World.var?
        rw [hg]
        simp only [Option.bind_some, h1]
        congr 1
        apply Array.ext
        · simp [h2]
        · intro i hi hi'
          have hi2 : i < zs.length := by omega
          have h3 := (inv.imm _ _ _ (hm i hi2)).1
          rw [cell_of_heap h1, Array.getElem?_eq_getElem hi] at h3
          rw [Option.some.inj h3]
          simp [List.getD, List.getElem?_eq_getElem hi2]
      refine (hC ⟨⟨s⟩⟩ w hl (fun j b hb => ha8 b (List.mem_of_getElem? hb)) htab).mono ?_
      rintro e w' ⟨rfl, rfl⟩
      have hrow := inv.newRow ((Lib.fields s).map fun l => Value.string ⟨l.toArray⟩).toArray te (Lib.fields s).length (fun i => .string ⟨((Lib.fields s).getD i []).toArray⟩) (fun i hi => by
        simp [List.getElem?_eq_getElem hi, List.getD])
      refine ⟨_, hrow, grows_row inv _ _ _, RS.no ?_⟩
      have hlen : ((Lib.fields s).map AV.str).length = (Lib.fields s).length := by simp
      rw [show (Lib.fields (⟨⟨s⟩⟩ : ByteArray).data.toList).length = ((Lib.fields s).map AV.str).length by simp]
      refine .sl 1 _ _ 0 _ (fun i => .string ⟨((Lib.fields s).getD i []).toArray⟩) ?_ (Nat.le_refl _) ?_ ?_ ?_
      · intro x hx
        obtain ⟨l, _, rfl⟩ := List.mem_map.1 hx
        rfl
      · intro i hi
        rw [fl_strs, hlen] at hi
        simp [Gh.row, hi]
      · intro i hi
        have hi2 := hi
        rw [fl_strs, hlen] at hi2
        have e : (fl ((Lib.fields s).map AV.str))[i] = AV.str ((Lib.fields s).getD i []) := by
          simp [fl_strs, List.getD, List.getElem?_eq_getElem hi2]
        rw [e]
        exact .str _
      · intro i hi; rfl
    · cases h
  · cases h
/-- the run of a call where nothing of the state is reached, as a contract -/
theorem ext_of_spec {f : FuncId} {sp : Go.Ab.Spec} {g : ExtFn} (h : ExtSound c f g) (hg : ∀ args S o, (sp.res args S).is o → g args S = some o) : SpecSound c f sp := fun args S p hp B w0 G w vs inv ha => (h args S p.1 p.2 (hg args S p hp)).2 B w0 G w vs inv ha
end
end Go.Ab
end
section
/- strings.Join, AND WHATEVER LEAVES THE OLD WORLD AS IT IS. -/
namespace Go.Ab
open Go.RowKit
/-- a list's texts -/
def toStrs : List AV → List (List UInt8)
  | [] => []
  | .str s :: r => s :: toStrs r
  | _ :: r => [] :: toStrs r
def allStr : List AV → Bool
  | [] => true
  | .str _ :: r => allStr r
  | _ => false
theorem allStr_map (l : List (List UInt8)) : allStr (l.map AV.str) = true := by
  induction l with
  | nil => rfl
  | cons a l ih => simp [allStr, ih]
theorem allStr_eq : ∀ {xs : List AV}, allStr xs = true → xs = (toStrs xs).map AV.str
  | [], _ => rfl
  | .str s :: r, h => by
    have := allStr_eq (xs := r) h
    simp only [toStrs, List.map_cons]
    rw [← this]
section
variable {c : Ctx} {B : Bd} {w0 : World} {G : Gh} {S : St} {w w' : World}
/-- the world has grown, and nothing that was there has turned -/
theorem Inv.more (inv : Inv c B w0 G S w) (h : Below w.heap.size w w') : Inv c B w0 G S w' := by
  have old {d : Nat} {x : Obj} (hd : w.heap[d]? = some x) : w'.heap[d]? = some x := by
    have : d < w.heap.size := by
      rcases Nat.lt_or_ge d w.heap.size with hl | hl
      · exact hl
      · rw [Array.getElem?_eq_none hl] at hd; cases hd
    rw [h.block d this]; exact hd
  exact {
    below := inv.below.trans ⟨h.os, h.tape, h.output, h.size, fun k hk => h.block k (by
      rcases Nat.lt_or_ge k w.heap.size with hl | hl
      · exact hl
      · exact absurd hk (inv.base k hl))⟩
    base := fun d hd => inv.base d (Nat.le_trans h.size hd)
    iD := inv.iD
    lenφ := inv.lenφ
    lenO := inv.lenO
    inj := inv.inj
    low := inv.low
    tag := inv.tag
    blk := fun b d cells h1 h2 => by
      obtain ⟨hB, vs, t, fr, hv, h3, h4, h5⟩ := inv.blk b d cells h1 h2
      exact ⟨hB, vs, t, fr, old hv, h3, h4, h5⟩
    imm := fun d o v hi => by
      obtain ⟨h1, h2⟩ := inv.imm d o v hi
      refine ⟨?_, h2⟩
      have hlt : d < w.heap.size := by
        rcases Nat.lt_or_ge d w.heap.size with hl | hl
        · exact hl
        · simp [World.cell?, Array.getElem?_eq_none hl] at h1
      rw [h.cell (p := ⟨d, o, none⟩) hlt]; exact h1
    own := fun id ow ho => by
      obtain ⟨h1, h2, h3⟩ := inv.own id ow ho
      refine ⟨h1, h2, fun hl => ?_⟩
      obtain ⟨d, o, e1, e2, e3, vs, t, fr, e4, e5⟩ := h3 hl
      exact ⟨d, o, e1, e2, e3, vs, t, fr, old e4, e5⟩
    dis := inv.dis
    ty := fun d t n ht => by
      obtain ⟨vs, fr, h1, h2⟩ := inv.ty d t n ht
      exact ⟨vs, fr, old h1, h2⟩
    glob := inv.glob
    know := inv.know }
end
end Go.Ab
end
