import Derived.Test.YtdiphholophdcaaXCAbS
import Derived.Test.YtdiphholophdcaaXCAbTrace
import Derived.Test.YtdiphholophdcaaProg
import Derived.KernelRfl
import Derived.Lib.Builder
import Derived.Lib.Bytealg
import Derived.Laws.Externs
set_option linter.all false
section
/- SHAPES: which parts of a frame and of a state are variables where a function is cut. -/
namespace Go.Ab
open Go.RowKit

/-- a cell's shape -/
inductive CSh where
  | int (k : IntKind)
  | bool
  | str
  | sl
  | buf (t : TypeId)
  | slr (b o : Nat)
  | fix (v : AV)
  | any
/-- a slot's shape -/
inductive Sh where
  | u
  | c (s : CSh) (t : Tag)
  | agg (cs : List CSh) (t : Tag)
/-- a block's -/
inductive BSh where
  | cells (ss : List Sh)
  | row
/-- a token's: as long as one of the values; a number -/
inductive TSh where
  | len (i : Nat)
  | fix (n : Nat)
structure FSh where
  slots : List Sh
  ds : List (FuncId × List SV)
  blks : List BSh
  T : List TSh

/-- shapes of n slots, those that are known -/
def spr (n : Nat) : Nat → List (Nat × Sh) → List Sh
  | i, [] => List.replicate (n - i) .u
  | i, (k, s) :: r => List.replicate (k - i) .u ++ s :: spr n (k + 1) r
def CSh.ks : CSh → List TyK
  | .int k => [.int k]
  | .bool => [.bool]
  | .str => [.str]
  | .sl => [.sl]
  | .buf t => [.buf t]
  | .slr b o => [.slr b o]
  | .fix _ => []
  | .any => [.any]
def Sh.ks : Sh → List TyK
  | .u => []
  | .c s _ => s.ks
  | .agg cs _ => cs.flatMap CSh.ks
def BSh.ks : BSh → List TyK
  | .cells ss => ss.flatMap Sh.ks
  | .row => [.agg]
def genC : CSh → AV → Option (List AV)
  | .int k, .int j n => match decide (j = k) with
    | true => some [.int j n]
    | false => none
  | .bool, .bool b => some [.bool b]
  | .str, .str s => some [.str s]
  | .sl, .sl xs => some [.sl xs]
  | .buf t, .buf u s => match Nat.beq u t with
    | true => some [.buf u s]
    | false => none
  | .slr b o, .slr b' o' n => match Nat.beq b' b && Nat.beq o' o with
    | true => some [.slr b' o' n]
    | false => none
  | .fix v, x => match AV.beq v x with
    | true => some []
    | false => none
  | .any, x => some [x]
  | _, _ => none
def mkC1 : CSh → List AV → AV × List AV
  | .int _, .int j n :: r => (.int j n, r)
  | .bool, .bool b :: r => (.bool b, r)
  | .str, .str s :: r => (.str s, r)
  | .sl, .sl xs :: r => (.sl xs, r)
  | .buf _, .buf u s :: r => (.buf u s, r)
  | .slr _ _, .slr b o n :: r => (.slr b o n, r)
  | .fix v, r => (v, r)
  | .any, v :: r => (v, r)
  | _, r => (.undef, r)
def app2 (a : Option (List AV)) (b : Option (List AV)) : Option (List AV) := match a, b with
  | some x, some y => some (x ++ y)
  | _, _ => none
theorem app2_some {a b : Option (List AV)} {l : List AV} (h : app2 a b = some l) : ∃ x y, a = some x ∧ b = some y ∧ l = x ++ y := by
  unfold app2 at h
  split at h
  · cases h; exact ⟨_, _, rfl, rfl, rfl⟩
  · cases h
def genCs : List CSh → List AV → Option (List AV)
  | [], [] => some []
  | s :: ss, x :: xs => app2 (genC s x) (genCs ss xs)
  | _, _ => none
def mkCs : List CSh → List AV → List AV × List AV
  | [], l => ([], l)
  | s :: ss, l => ((mkC1 s l).1 :: (mkCs ss (mkC1 s l).2).1, (mkCs ss (mkC1 s l).2).2)
theorem genC_mk {s : CSh} {x : AV} {l : List AV} (h : genC s x = some l) (r : List AV) : mkC1 s (l ++ r) = (x, r) := by
  cases s with
  | int k =>
    cases x <;> simp only [genC] at h <;> first | (cases h; done) | skip
    split at h
    · cases h; rfl
    · cases h
  | bool => cases x <;> simp only [genC] at h <;> first | (cases h; done) | (cases h; rfl)
  | str => cases x <;> simp only [genC] at h <;> first | (cases h; done) | (cases h; rfl)
  | sl => cases x <;> simp only [genC] at h <;> first | (cases h; done) | (cases h; rfl)
  | buf t =>
    cases x <;> simp only [genC] at h <;> first | (cases h; done) | skip
    split at h
    · cases h; rfl
    · cases h
  | slr b o =>
    cases x <;> simp only [genC] at h <;> first | (cases h; done) | skip
    split at h
    · cases h; rfl
    · cases h
  | fix v =>
    have h : (match AV.beq v x with
      | true => some []
      | false => none) = some l := by cases x <;> exact h
    split at h
    · rename_i e; cases h; rw [← AV.beq_eq _ _ e]; rfl
    · cases h
  | any =>
    have h : some [x] = some l := by cases x <;> exact h
    cases h; rfl
theorem genCs_mk : ∀ {ss : List CSh} {xs : List AV} {l : List AV}, genCs ss xs = some l → ∀ r, mkCs ss (l ++ r) = (xs, r)
  | [], [], l, h, r => by cases h; rfl
  | [], _ :: _, l, h, r => by cases h
  | _ :: _, [], l, h, r => by cases h
  | s :: ss, x :: xs, l, h, r => by
    obtain ⟨a, b, h1, h2, rfl⟩ := app2_some h
    simp only [mkCs]
    rw [List.append_assoc, genC_mk h1]
    simp only [genCs_mk h2]
def tagLe (t tg : Tag) : Bool := match t with
  | .no => true
  | t => Tag.beq t tg
def genS : Sh → SV → Option (List AV)
  | .u, _ => some []
  | .c s t, (x, tg) => match tagLe t tg with
    | true => genC s x
    | false => none
  | .agg cs t, (.agg xs, tg) => match tagLe t tg with
    | true => genCs cs xs
    | false => none
  | _, _ => none
def mkS : Sh → List AV → SV × List AV
  | .u, l => ((.undef, .no), l)
  | .c s t, l => (((mkC1 s l).1, t), (mkC1 s l).2)
  | .agg cs t, l => ((.agg (mkCs cs l).1, t), (mkCs cs l).2)
theorem tagLe_iff {t tg : Tag} (h : tagLe t tg = true) : t = tg ∨ t = .no := by
  unfold tagLe at h
  split at h
  · exact .inr rfl
  · exact .inl (Tag.beq_eq _ _ h)
theorem genS_mk {s : Sh} {x : SV} {l : List AV} (h : genS s x = some l) (r : List AV) : ∃ y, mkS s (l ++ r) = (y, r) ∧ (y = (.undef, .no) ∨ x = y ∨ (y.1 = x.1 ∧ y.2 = .no)) := by
  obtain ⟨x1, x2⟩ := x
  cases s with
  | u => cases h; exact ⟨_, rfl, .inl rfl⟩
  | c s t =>
    simp only [genS] at h
    split at h
    · rename_i e
      simp only [mkS, genC_mk h]
      refine ⟨_, rfl, ?_⟩
      rcases tagLe_iff e with rfl | rfl
      · exact .inr (.inl rfl)
      · exact .inr (.inr ⟨rfl, rfl⟩)
    · cases h
  | agg cs t =>
    cases x1 <;> simp only [genS] at h <;> first | (cases h; done) | skip
    split at h
    · rename_i e
      simp only [mkS, genCs_mk h]
      refine ⟨_, rfl, ?_⟩
      rcases tagLe_iff e with rfl | rfl
      · exact .inr (.inl rfl)
      · exact .inr (.inr ⟨rfl, rfl⟩)
    · cases h
def genSs : List Sh → List SV → Option (List AV)
  | [], [] => some []
  | s :: ss, x :: xs => app2 (genS s x) (genSs ss xs)
  | _, _ => none
def mkSs : List Sh → List AV → List SV × List AV
  | [], l => ([], l)
  | s :: ss, l => ((mkS s l).1 :: (mkSs ss (mkS s l).2).1, (mkSs ss (mkS s l).2).2)
theorem genSs_mk : ∀ {ss : List Sh} {xs : List SV} {l : List AV}, genSs ss xs = some l → ∀ r, ∃ ys, mkSs ss (l ++ r) = (ys, r) ∧ WkL xs ys
  | [], [], l, h, r => by cases h; exact ⟨[], rfl, .nil⟩
  | [], _ :: _, l, h, r => by cases h
  | _ :: _, [], l, h, r => by cases h
  | s :: ss, (x1, x2) :: xs, l, h, r => by
    obtain ⟨a, b, h1, h2, rfl⟩ := app2_some h
    obtain ⟨y, k1, k2⟩ := genS_mk h1 (b ++ r)
    obtain ⟨ys, k3, k4⟩ := genSs_mk h2 r
    refine ⟨y :: ys, ?_, ?_⟩
    · simp only [mkSs]
      rw [List.append_assoc, k1]
      simp only [k3]
    · rcases k2 with rfl | rfl | ⟨e1, e2⟩
      · exact .drop k4
      · exact .keep k4
      · obtain ⟨y1, y2⟩ := y
        simp only at e1 e2
        subst e1; subst e2
        exact .plain k4
def genB : BSh → Blk → Option (List AV)
  | .cells ss, cells => genSs ss cells
  | .row, cells => some [.agg (cells.map (·.1))]
def mkB : BSh → List AV → Blk × List AV
  | .cells ss, l => mkSs ss l
  | .row, .agg cs :: r => (cs.map (·, Tag.no), r)
  | .row, r => ([], r)
theorem wk_plain : ∀ (xs : List SV), WkL xs ((xs.map (·.1)).map (·, Tag.no))
  | [] => .nil
  | (_, _) :: xs => .plain (wk_plain xs)
theorem genB_mk {s : BSh} {x : Blk} {l : List AV} (h : genB s x = some l) (r : List AV) : ∃ y, mkB s (l ++ r) = (y, r) ∧ WkL x y := by
  cases s with
  | cells ss => exact genSs_mk h r
  | row => cases h; exact ⟨_, rfl, wk_plain x⟩
/-- the first blocks -/
def genBs : List BSh → List Blk → Option (List AV)
  | [], _ => some []
  | s :: ss, x :: xs => app2 (genB s x) (genBs ss xs)
  | _, _ => none
def mkBs : List BSh → List AV → List Blk × List AV
  | [], l => ([], l)
  | s :: ss, l => ((mkB s l).1 :: (mkBs ss (mkB s l).2).1, (mkBs ss (mkB s l).2).2)
theorem genBs_mk : ∀ {ss : List BSh} {xs : List Blk} {l : List AV}, genBs ss xs = some l → ∀ r, ∃ ys, mkBs ss (l ++ r) = (ys, r) ∧ WkB xs (ys ++ xs.drop ys.length) ∧ ys.length = ss.length ∧ ss.length ≤ xs.length
  | [], xs, l, h, r => by cases h; exact ⟨[], rfl, by simpa using WkB.done xs, rfl, by simp⟩
  | _ :: _, [], l, h, r => by cases h
  | s :: ss, x :: xs, l, h, r => by
    obtain ⟨a, b, h1, h2, rfl⟩ := app2_some h
    obtain ⟨y, k1, k2⟩ := genB_mk h1 (b ++ r)
    obtain ⟨ys, k3, k4, k5, k6⟩ := genBs_mk h2 r
    refine ⟨y :: ys, ?_, by simpa using WkB.cons k2 k4, by simp [k5], by simpa using k6⟩
    simp only [mkBs]
    rw [List.append_assoc, k1]
    simp only [k3]
def mkT (ts : List TSh) (vals : List AV) : List Nat := ts.map fun
  | .len i => (vals.getD i .undef).len
  | .fix n => n
def FSh.fr (sh : FSh) (vals : List AV) : Fr := ⟨(mkSs sh.slots vals).1, sh.ds⟩
def FSh.st (sh : FSh) (vals : List AV) : St := ⟨(mkBs sh.blks (mkSs sh.slots vals).2).1, mkT sh.T vals⟩
def FSh.ks (sh : FSh) : List TyK := sh.slots.flatMap Sh.ks ++ sh.blks.flatMap BSh.ks
def dsEq : List (FuncId × List SV) → List (FuncId × List SV) → Bool
  | [], [] => true
  | (f, xs) :: r, (g, ys) :: s => Nat.beq f g && SV.beqs xs ys && dsEq r s
  | _, _ => false
theorem dsEq_eq : ∀ {a b : List (FuncId × List SV)}, dsEq a b = true → a = b
  | [], [], _ => rfl
  | [], _ :: _, h => by cases h
  | _ :: _, [], h => by cases h
  | (f, xs) :: r, (g, ys) :: s, h => by
    simp only [dsEq, Bool.and_eq_true] at h
    rw [Nat.eq_of_beq_eq_true h.1.1, SV.beqs_eq h.1.2, dsEq_eq h.2]
/-- what was made behind (n, m) is forgotten, if anything was -/
def cutT (n0 m0 n m : Nat) (fr : Fr) (S : St) (t : Tree) : Tree := match Nat.beq S.H.length n && Nat.beq S.T.length m with
  | true => t
  | false => onlyIfT (Nat.ble n0 n && Nat.ble m0 m && fr.ds.isEmpty && tagsLow m fr.env && ((S.H.take n).drop n0).all (tagsLow m)) (lowTAll n fr.env t)
def tokT (ts : List TSh) (T : List Nat) (vals : List AV) (t : Tree) : Tree := match ts with
  | [] => t
  | _ => .need (T.take ts.length = mkT ts vals) t
/-- a frame and a state, taken for a shape's; the leaf is handed the values -/
def jumpK (n0 m0 : Nat) (own : List Nat) (sh : FSh) (leaf : List AV → Tree) (fr : Fr) (S : St) : Tree :=
  match dsEq (owned own fr S).1.ds sh.ds, genSs sh.slots (owned own fr S).1.env, genBs sh.blks (owned own fr S).2.H with
  | true, some l1, some l2 => tokT sh.T (owned own fr S).2.T (l1 ++ l2) <|
      cutT n0 m0 sh.blks.length sh.T.length (sh.fr (l1 ++ l2)) ⟨(sh.st (l1 ++ l2)).H ++ (owned own fr S).2.H.drop sh.blks.length, (owned own fr S).2.T⟩ <| leaf (l1 ++ l2)
  | _, _, _ => .fail
section
variable {W : Orc} {f : FuncId} {Q : Out → Prop} {c : Ctx} {n0 m0 : Nat}
theorem cutT_w {n m : Nat} {fr : Fr} {S : St} {t : Tree} (h : (cutT n0 m0 n m fr S t).wp W f Q) : Wkn c n0 m0 fr S fr ⟨S.H.take n, S.T.take m⟩ ∧ t.wp W f Q := by
  unfold cutT at h
  split at h
  · rename_i e
    simp only [Bool.and_eq_true] at e
    have e1 := Nat.eq_of_beq_eq_true e.1
    have e2 := Nat.eq_of_beq_eq_true e.2
    rw [← e1, ← e2, List.take_length, List.take_length]
    exact ⟨.refl _ _, h⟩
  · obtain ⟨h1, h2⟩ := onlyIfT_w h
    obtain ⟨h3, h4⟩ := lowTAll_w h2
    simp only [Bool.and_eq_true, Nat.ble_eq, List.isEmpty_iff] at h1
    obtain ⟨⟨⟨⟨a1, a2⟩, a3⟩, a4⟩, a5⟩ := h1
    refine ⟨Wkn.cut n m a1 a2 (fun x hx => ⟨h3 x hx, List.all_eq_true.1 a4 x hx⟩) a3 (fun b cells hb1 hb2 hc x hx => ?_), h4⟩
    have hmem : cells ∈ (S.H.take n).drop n0 := by
      have : ((S.H.take n).drop n0)[b - n0]? = some cells := by
        rw [List.getElem?_drop, List.getElem?_take_of_lt (by omega), show n0 + (b - n0) = b by omega]; exact hc
      exact List.mem_of_getElem? this
    exact List.all_eq_true.1 (List.all_eq_true.1 a5 cells hmem) x hx
theorem tokT_w {ts : List TSh} {T : List Nat} {vals : List AV} {t : Tree} (h : (tokT ts T vals t).wp W f Q) : T.take ts.length = mkT ts vals ∧ t.wp W f Q := by
  unfold tokT at h
  split at h
  · exact ⟨by simp [mkT], h⟩
  · exact h
theorem jumpK_w {own : List Nat} {sh : FSh} {leaf : List AV → Tree} {fr : Fr} {S : St} (h : (jumpK n0 m0 own sh leaf fr S).wp W f Q) : ∃ vals, Wkn c n0 m0 fr S (sh.fr vals) (sh.st vals) ∧ (leaf vals).wp W f Q := by
  unfold jumpK at h
  have hown := owned_wkn (c := c) (n0 := n0) (m0 := m0) own fr S
  generalize owned own fr S = x at h hown
  obtain ⟨⟨env, ds⟩, ⟨H, T⟩⟩ := x
  simp only at h hown
  split at h
  · rename_i l1 l2 hd h1 h2
    obtain ⟨h3, h⟩ := tokT_w h
    obtain ⟨h4, h⟩ := cutT_w (c := c) h
    refine ⟨l1 ++ l2, hown.trans ?_, h⟩
    obtain ⟨ys, k1, k2⟩ := genSs_mk h1 l2
    obtain ⟨bs, k3, k4, k5, k6⟩ := genBs_mk h2 []
    rw [List.append_nil] at k3
    have eds := dsEq_eq hd
    have ef : sh.fr (l1 ++ l2) = ⟨ys, ds⟩ := by unfold FSh.fr; rw [k1, eds]
    have es : sh.st (l1 ++ l2) = ⟨bs, mkT sh.T (l1 ++ l2)⟩ := by unfold FSh.st; rw [k1]; simp only; rw [k3]
    rw [ef, es] at h4
    rw [ef, es]
    refine (Wkn.frame k2).trans ?_
    have hb : Wkn c n0 m0 ⟨ys, ds⟩ ⟨H, T⟩ ⟨ys, ds⟩ ⟨bs ++ H.drop bs.length, T⟩ := Wkn.blks k4 []
    refine hb.trans ?_
    simp only at h4
    rw [← k5] at h4
    rw [List.take_left, h3] at h4
    exact h4
  · exact h.elim
theorem cutT_swap {W' : Orc} {f' : FuncId} {Q' : Out → Prop} {n m : Nat} {fr : Fr} {S : St} {t t' : Tree} (h : (cutT n0 m0 n m fr S t).wp W f Q) (k : t.wp W f Q → t'.wp W' f' Q') : (cutT n0 m0 n m fr S t').wp W' f' Q' := by
  have low0 : ∀ (n : Nat) (x : AV) (t t' : Tree), (t.wp W f Q → t'.wp W' f' Q') → (lowT0 n x t).wp W f Q → (lowT0 n x t').wp W' f' Q' := by
    intro n x t t' k h
    unfold lowT0 at h ⊢
    split at h
    · exact ⟨h.1, k h.2⟩
    · exact ⟨h.1, k h.2⟩
    · obtain ⟨h1, h2⟩ := onlyIfT_w h
      rw [h1]; exact k h2
  have lows0 : ∀ (n : Nat) (xs : List AV) (t t' : Tree), (t.wp W f Q → t'.wp W' f' Q') → (lowTs0 n xs t).wp W f Q → (lowTs0 n xs t').wp W' f' Q' := by
    intro n xs
    induction xs with
    | nil => intro t t' k h; exact k h
    | cons x xs ih => intro t t' k h; exact low0 _ _ _ _ (ih _ _ k) h
  have low1 : ∀ (n : Nat) (x : AV) (t t' : Tree), (t.wp W f Q → t'.wp W' f' Q') → (lowT1 n x t).wp W f Q → (lowT1 n x t').wp W' f' Q' := by
    intro n x t t' k h
    unfold lowT1 at h ⊢
    split at h
    · exact lows0 _ _ _ _ k h
    · exact low0 _ _ _ _ k h
  have lows : ∀ (n : Nat) (xs : List AV) (t t' : Tree), (t.wp W f Q → t'.wp W' f' Q') → (lowTs n xs t).wp W f Q → (lowTs n xs t').wp W' f' Q' := by
    intro n xs
    induction xs with
    | nil => intro t t' k h; exact k h
    | cons x xs ih => intro t t' k h; exact low1 _ _ _ _ (ih _ _ k) h
  have low : ∀ (n : Nat) (x : AV) (t t' : Tree), (t.wp W f Q → t'.wp W' f' Q') → (lowT n x t).wp W f Q → (lowT n x t').wp W' f' Q' := by
    intro n x t t' k h
    unfold lowT at h ⊢
    split at h
    · exact lows _ _ _ _ k h
    · exact lows _ _ _ _ k h
    · exact low1 _ _ _ _ k h
  have all : ∀ (n : Nat) (xs : List SV) (t t' : Tree), (t.wp W f Q → t'.wp W' f' Q') → (lowTAll n xs t).wp W f Q → (lowTAll n xs t').wp W' f' Q' := by
    intro n xs
    induction xs with
    | nil => intro t t' k h; exact k h
    | cons x xs ih => intro t t' k h; exact low _ _ _ _ (ih _ _ k) h
  unfold cutT at h ⊢
  split at h
  · exact k h
  · obtain ⟨h1, h2⟩ := onlyIfT_w h
    rw [h1]; exact all _ _ _ _ k h2
theorem jumpK_swap {W' : Orc} {f' : FuncId} {Q' : Out → Prop} {own : List Nat} {sh : FSh} {leaf leaf' : List AV → Tree} {fr : Fr} {S : St} (h : (jumpK n0 m0 own sh leaf fr S).wp W f Q) (k : ∀ vals, (leaf vals).wp W f Q → (leaf' vals).wp W' f' Q') :
    (jumpK n0 m0 own sh leaf' fr S).wp W' f' Q' := by
  unfold jumpK at h ⊢
  split at h
  · unfold tokT at h ⊢
    split at h
    · exact cutT_swap h (k _)
    · exact ⟨h.1, cutT_swap h.2 (k _)⟩
  · exact h.elim
end

/-! ### what functions come to -/
inductive VSh where
  | rets (vs : List Sh)
  /-- a panic with a struct of this type -/
  | panic (t : TypeId) (cs : List CSh)
structure OSh where
  v : VSh
  blks : List BSh
  T : List TSh
/-- nothing is forgotten here -/
def genX : Sh → SV → Option (List AV)
  | .u, (.undef, .no) => some []
  | .c s t, (x, tg) => match Tag.beq t tg with
    | true => genC s x
    | false => none
  | .agg cs t, (.agg xs, tg) => match Tag.beq t tg with
    | true => genCs cs xs
    | false => none
  | _, _ => none
theorem genX_mk {s : Sh} {x : SV} {l : List AV} (h : genX s x = some l) (r : List AV) : mkS s (l ++ r) = (x, r) := by
  obtain ⟨x1, x2⟩ := x
  cases s with
  | u =>
    cases x1 <;> cases x2 <;> simp only [genX] at h <;> first | (cases h; done) | (cases h; rfl)
  | c s t =>
    simp only [genX] at h
    split at h
    · rename_i e
      obtain rfl := Tag.beq_eq _ _ e
      simp only [mkS, genC_mk h]
    · cases h
  | agg cs t =>
    cases x1 <;> simp only [genX] at h <;> first | (cases h; done) | skip
    split at h
    · rename_i e
      obtain rfl := Tag.beq_eq _ _ e
      simp only [mkS, genCs_mk h]
    · cases h
def genXs : List Sh → List SV → Option (List AV)
  | [], [] => some []
  | s :: ss, x :: xs => app2 (genX s x) (genXs ss xs)
  | _, _ => none
theorem genXs_mk : ∀ {ss : List Sh} {xs : List SV} {l : List AV}, genXs ss xs = some l → ∀ r, mkSs ss (l ++ r) = (xs, r)
  | [], [], l, h, r => by cases h; rfl
  | [], _ :: _, l, h, r => by cases h
  | _ :: _, [], l, h, r => by cases h
  | s :: ss, x :: xs, l, h, r => by
    obtain ⟨a, b, h1, h2, rfl⟩ := app2_some h
    simp only [mkSs]
    rw [List.append_assoc, genX_mk h1]
    simp only [genXs_mk h2]
def genXB : BSh → Blk → Option (List AV)
  | .cells ss, cells => genXs ss cells
  | .row, cells => (plainL cells).map fun cs => [.agg cs]
theorem genXB_mk {s : BSh} {x : Blk} {l : List AV} (h : genXB s x = some l) (r : List AV) : mkB s (l ++ r) = (x, r) := by
  cases s with
  | cells ss => exact genXs_mk h r
  | row =>
    obtain ⟨cs, h1, rfl⟩ := Option.map_eq_some_iff.1 h
    rw [(plainL_eq h1).1]; rfl
def genXBs : List BSh → List Blk → Option (List AV)
  | [], [] => some []
  | s :: ss, x :: xs => app2 (genXB s x) (genXBs ss xs)
  | _, _ => none
theorem genXBs_mk : ∀ {ss : List BSh} {xs : List Blk} {l : List AV}, genXBs ss xs = some l → ∀ r, mkBs ss (l ++ r) = (xs, r)
  | [], [], l, h, r => by cases h; rfl
  | [], _ :: _, l, h, r => by cases h
  | _ :: _, [], l, h, r => by cases h
  | s :: ss, x :: xs, l, h, r => by
    obtain ⟨a, b, h1, h2, rfl⟩ := app2_some h
    simp only [mkBs]
    rw [List.append_assoc, genXB_mk h1]
    simp only [genXBs_mk h2]
/-- the parts of a result -/
def partsOf : List Sh → SV → Option (List SV)
  | [_], v => some [v]
  | _, (.tup xs, .agg ts) => match Nat.beq xs.length ts.length with
    | true => some (xs.zip ts)
    | false => none
  | _, _ => none
def VSh.ks : VSh → List TyK
  | .rets vs => vs.flatMap Sh.ks
  | .panic _ cs => cs.flatMap CSh.ks
def OSh.ks (sh : OSh) : List TyK := sh.v.ks ++ sh.blks.flatMap BSh.ks
def VSh.gen : VSh → COut → Option (List AV)
  | .rets vs, .ret v => match partsOf vs v with
    | some l => genXs vs l
    | none => none
  | .panic t cs, .panic (.iface u (.agg xs)) => match Nat.beq u t with
    | true => genCs cs xs
    | false => none
  | _, _ => none
def VSh.mk' : VSh → List AV → COut × List AV
  | .rets vs, l => (.ret (asOne (mkSs vs l).1), (mkSs vs l).2)
  | .panic t cs, l => (.panic (.iface t (.agg (mkCs cs l).1)), (mkCs cs l).2)
theorem partsOf_one {vs : List Sh} {v : SV} {l : List SV} {x : List AV} (h : partsOf vs v = some l) (hl : genXs vs l = some x) : asOne l = v := by
  unfold partsOf at h
  split at h
  · cases h; rfl
  · rename_i xs ts hne
    split at h
    · rename_i e
      have e := Nat.eq_of_beq_eq_true e
      cases h
      have h1 : (xs.zip ts).map (·.1) = xs := List.map_fst_zip (by omega)
      have h2 : (xs.zip ts).map (·.2) = ts := List.map_snd_zip (by omega)
      have h3 : ∀ y, xs.zip ts ≠ [y] := by
        intro y hy
        rw [hy] at hl
        cases vs with
        | nil => cases hl
        | cons a rs =>
          cases rs with
          | nil => exact hne a rfl
          | cons b bs =>
            obtain ⟨_, _, _, k, _⟩ := app2_some hl
            cases k
      unfold asOne
      split
      · rename_i y hy; exact absurd hy (h3 y)
      · rw [h1, h2]
    · cases h
  · cases h
theorem VSh.gen_mk {sh : VSh} {o : COut} {l : List AV} (h : sh.gen o = some l) (r : List AV) : sh.mk' (l ++ r) = (o, r) := by
  cases sh with
  | rets vs =>
    cases o with
    | panic v => simp only [VSh.gen] at h; cases h
    | ret v =>
      simp only [VSh.gen] at h
      split at h
      · rename_i ls hp
        simp only [VSh.mk', genXs_mk h]
        rw [partsOf_one hp h]
      · cases h
  | panic t cs =>
    unfold VSh.gen at h
    split at h
    · rename_i h0; cases h0
    · rename_i t' cs' u xs h0
      cases h0
      split at h
      · rename_i e
        obtain rfl := Nat.eq_of_beq_eq_true e
        simp only [VSh.mk', genCs_mk h]
      · cases h
    · cases h
def OSh.gen (sh : OSh) (o : Out) : Option (List AV) := app2 (sh.v.gen o.1) (genXBs sh.blks o.2.H)
def OSh.mk' (sh : OSh) (vals : List AV) : Out := ((sh.v.mk' vals).1, ⟨(mkBs sh.blks (sh.v.mk' vals).2).1, mkT sh.T vals⟩)
theorem OSh.gen_mk {sh : OSh} {o : Out} {l : List AV} (h : sh.gen o = some l) (hT : o.2.T = mkT sh.T l) : sh.mk' l = o := by
  obtain ⟨a, b, h1, h2, rfl⟩ := app2_some h
  obtain ⟨o1, ⟨H, T⟩⟩ := o
  simp only at h1 h2 hT
  have h3 := genXBs_mk h2 []
  rw [List.append_nil] at h3
  unfold OSh.mk'
  rw [VSh.gen_mk h1, ← hT]
  simp only [h3]
/-- an outcome, if it is of this shape -/
def outT (sh : OSh) (o : Out) (g : Cur sh.ks) (els : Tree) : Tree := match sh.gen o with
  | some vals => match sh.T with
    | [] => .need (o.2.T = []) (openC sh.ks vals g)
    | _ => .need (o.2.T = mkT sh.T vals) (openC sh.ks vals g)
  | none => els
def outsT : List OSh → Out → (Out → Tree) → Tree
  | [], _, _ => .fail
  | sh :: r, o, K => outT sh o (mkC sh.ks fun vals => K (sh.mk' vals)) (outsT r o K)
section
variable {W : Orc} {f : FuncId} {Q : Out → Prop}
theorem outsT_w : ∀ {shs : List OSh} {o : Out} {K : Out → Tree}, (outsT shs o K).wp W f Q → (K o).wp W f Q
  | [], _, _, h => h.elim
  | sh :: r, o, K, h => by
    unfold outsT outT at h
    split at h
    · rename_i vals hg
      have h : o.2.T = mkT sh.T vals ∧ (openC sh.ks vals (mkC sh.ks fun vals => K (sh.mk' vals))).wp W f Q := by
        split at h
        · rename_i e; rw [e]; exact h
        · exact h
      have := openC_mkC _ _ _ h.2
      rwa [OSh.gen_mk hg h.1] at this
    · exact outsT_w h
end
end Go.Ab
end
section
/- TREES OF FUNCTIONS; all functions at once; what they come to is the machine's. -/
namespace Go.Ab
open Go.RowKit

/-! ### calls -/
def okT1 (P : Nat → Bool) (x : AV) (t : Tree) : Tree := match x with
  | .ptr b _ => onlyIfT (P b) t
  | .slr b _ _ => onlyIfT (P b) t
  | .bself _ b => onlyIfT (P b) t
  | .sl xs => .need (AV.lows 0 xs = true) t
  | .iface _ (.sl xs) => .need (AV.lows 0 xs = true) t
  | x => onlyIfT (x.low 0) t
def okTs (P : Nat → Bool) : List AV → Tree → Tree
  | [], t => t
  | x :: xs, t => okT1 P x (okTs P xs t)
def okT (P : Nat → Bool) (x : AV) (t : Tree) : Tree := match x with
  | .agg cs => okTs P cs t
  | .tup cs => okTs P cs t
  | .fn _ a b => okTs P a (okTs P b t)
  | x => okT1 P x t
def okArgsT (P : Nat → Bool) : List SV → Tree → Tree
  | [], t => t
  | x :: xs, t => okT P x.1 (okArgsT P xs t)
def okBlksT (P : Nat → Bool) : List Blk → Tree → Tree
  | [], t => t
  | x :: xs, t => okArgsT P x (okBlksT P xs t)
section
variable {W : Orc} {f : FuncId} {Q : Out → Prop} {P : Nat → Bool}
theorem okT1_w {x : AV} {t : Tree} {K : Prop} (h : (okT1 P x t).wp W f Q) (k : t.wp W f Q → K) : okW1 P x K := by
  have oi : ∀ {b : Bool}, (onlyIfT b t).wp W f Q → onlyIf b K := fun h => by
    obtain ⟨h1, h2⟩ := onlyIfT_w h
    rw [h1]; exact k h2
  unfold okT1 at h
  split at h
  · exact oi h
  · exact oi h
  · exact oi h
  · exact ⟨h.1, k h.2⟩
  · exact ⟨h.1, k h.2⟩
  · rename_i h1 h2 h3 h4 h5
    unfold okW1
    split
    · exact absurd rfl (h1 _ _)
    · exact absurd rfl (h2 _ _ _)
    · exact absurd rfl (h3 _ _)
    · exact absurd rfl (h4 _)
    · exact absurd rfl (h5 _ _)
    · exact oi h
theorem okTs_w : ∀ {xs : List AV} {t : Tree} {K : Prop}, (okTs P xs t).wp W f Q → (t.wp W f Q → K) → okWs P xs K
  | [], _, _, h, k => k h
  | _ :: _, _, _, h, k => okT1_w h fun h => okTs_w h k
theorem okT_w {x : AV} {t : Tree} {K : Prop} (h : (okT P x t).wp W f Q) (k : t.wp W f Q → K) : okW P x K := by
  unfold okT at h
  split at h
  · exact okTs_w h k
  · exact okTs_w h k
  · rename_i g a b; exact okTs_w (xs := a) h fun h => okTs_w h k
  · rename_i h1 h2 h3
    unfold okW
    split
    · exact absurd rfl (h1 _)
    · exact absurd rfl (h2 _)
    · exact absurd rfl (h3 _ _ _)
    · exact okT1_w h k
theorem okArgsT_w : ∀ {xs : List SV} {t : Tree} {K : Prop}, (okArgsT P xs t).wp W f Q → (t.wp W f Q → K) → okArgs P xs K
  | [], _, _, h, k => k h
  | _ :: _, _, _, h, k => okT_w h fun h => okArgsT_w h k
theorem okBlksT_w : ∀ {xs : List Blk} {t : Tree} {K : Prop}, (okBlksT P xs t).wp W f Q → (t.wp W f Q → K) → okBlks P xs K
  | [], _, _, h, k => k h
  | _ :: _, _, _, h, k => okArgsT_w h fun h => okBlksT_w h k
end
def Res.toT : Res → (SV → St → Tree) → (AV → St → Tree) → Tree
  | .fail, _, _ => .fail
  | .ret v S, K, _ => K v S
  | .panic v S, _, Kp => Kp v S
  | .need p r, K, Kp => .need p (r.toT K Kp)
  | .cond b x y, K, Kp => Tree.ite b (x.toT K Kp) (y.toT K Kp)
  | .name e r, K, Kp => .nm e fun x => (r x).toT K Kp
  | .ex _ _ _, _, _ => .fail
def KT.kt (k : KT) : Bool := (Spec.mk k fun _ _ => .fail).kt
/-- a call, seen from its caller -/
def callT (kt0 : KT) (R : List SV → St → (SV → St → Tree) → (AV → St → Tree) → Tree) (args : List SV) (S : St) (K : SV → St → Tree) (Kp : AV → St → Tree) : Tree :=
  let kt : Bool := kt0.kt
  let ps := pickP args S
  let ts := pickT kt args S ps
  onlyIfT (!kt || args.all fun x => x.2.low S.T.length) <|
  okArgsT (ps.contains ·) args <|
  okBlksT (ps.contains ·) (ps.map (S.H.getD · [])) <|
  R (args.map (argDown kt ps ts)) (S.pick ps ts)
    (fun v S0 => match kt0 with
      | .big => .need (v.1.low 0 = true ∧ v.2 = .no) (okBlksT (fun _ => true) S0.H (onlyIfT (tagsKept (S.pick ps ts).H S0.H) (K v (S.merge ps ts S0))))
      | _ => okArgsT (fun _ => true) [v] <| okBlksT (fun _ => true) S0.H <| onlyIfT (v.2.low S0.T.length && tagsKept (S.pick ps ts).H S0.H) (K (v.up ps ts S) (S.merge ps ts S0)))
    (fun v S0 => okArgsT (fun _ => true) [(v, .no)] <| okBlksT (fun _ => true) S0.H <| onlyIfT (tagsKept (S.pick ps ts).H S0.H) (Kp (v.up ps S) (S.merge ps ts S0)))
section
variable {W : Orc} {f : FuncId} {Q : Out → Prop}
theorem Res.toT_w {r : Res} : ∀ {K : SV → St → Tree} {Kp : AV → St → Tree}, (r.toT K Kp).wp W f Q → r.wp (fun v S => (K v S).wp W f Q) (fun v S => (Kp v S).wp W f Q) := by
  induction r with
  | fail => intro K Kp h; exact h
  | ret v S => intro K Kp h; exact h
  | panic v S => intro K Kp h; exact h
  | need p r ih => intro K Kp h; exact ⟨h.1, ih h.2⟩
  | cond b x y ihx ihy => intro K Kp h; have h := ite_w h; exact ⟨fun e => ihx (h.1 e), fun e => ihy (h.2 e)⟩
  | name e r ih => intro K Kp h x hx; subst hx; exact ih _ (nm_w h)
  | ex P u r ih => intro K Kp h; exact h.elim
theorem callT_w {sp : Spec} {R : List SV → St → (SV → St → Tree) → (AV → St → Tree) → Tree} (hR : ∀ args S K Kp, (R args S K Kp).wp W f Q → (sp.res args S).wp (fun v S => (K v S).wp W f Q) (fun v S => (Kp v S).wp W f Q))
    {args : List SV} {S : St} {K : SV → St → Tree} {Kp : AV → St → Tree} (h : (callT sp.kt0 R args S K Kp).wp W f Q) : sp.wp args S (fun v S => (K v S).wp W f Q) (fun v S => (Kp v S).wp W f Q) := by
  unfold callT at h
  simp only at h
  rw [show KT.kt sp.kt0 = sp.kt from rfl] at h
  unfold Spec.wp
  obtain ⟨h1, h⟩ := onlyIfT_w h
  rw [h1]
  have toI : ∀ {b : Bool} {t : Tree}, (onlyIfT b t).wp W f Q → onlyIf b (t.wp W f Q) := fun h => by
    obtain ⟨h1, h2⟩ := onlyIfT_w h
    rw [h1]; exact h2
  refine okArgsT_w h fun h => okBlksT_w h fun h => Res.mono (hR _ _ _ _ h) (fun v S0 k => ?_) (fun v S0 k => ?_)
  · cases hk : sp.kt0 with
    | big =>
      rw [hk] at k
      exact ⟨k.1, okBlksT_w k.2 toI⟩
    | no => rw [hk] at k; exact okArgsT_w k fun k => okBlksT_w k toI
    | yes => rw [hk] at k; exact okArgsT_w k fun k => okBlksT_w k toI
  · exact okArgsT_w k fun k => okBlksT_w k toI
end

/-! ### a function's data -/
structure Cut where
  path : List Nat
  n0 : Nat
  m0 : Nat
  own : List Nat
  sh : FSh
structure FnD where
  fn : Func
  code : Code
  kt : KT
  lv : Leave
  cuts : List Cut
  outs : List OSh
structure Lay where
  c : Ctx
  pre : TypeId → Bool
  fns : FuncId → Option FnD
  ext : FuncId → Option Spec

def findCuts : List Cut → Nat → Nat → Nat → List Nat → List (Nat × Cut)
  | [], _, _, _, _ => []
  | c :: r, i, n0, m0, p => match c.path == p && Nat.beq c.n0 n0 && Nat.beq c.m0 m0 with
    | true => (i, c) :: findCuts r (i + 1) n0 m0 p
    | false => findCuts r (i + 1) n0 m0 p
def Cut.fits (c : Cut) (fr : Fr) (S : St) : Bool :=
  dsEq (owned c.own fr S).1.ds c.sh.ds && (genSs c.sh.slots (owned c.own fr S).1.env).isSome && (genBs c.sh.blks (owned c.own fr S).2.H).isSome
/-- the first of some cuts whose shape it is -/
def jumpsK (n0 m0 : Nat) (leaf : Nat → List AV → Tree) (fr : Fr) (S : St) : List (Nat × Cut) → Tree
  | [] => .fail
  | (i, c) :: r => match c.fits fr S with
    | true => jumpK n0 m0 c.own c.sh (leaf i) fr S
    | false => jumpsK n0 m0 leaf fr S r
/-- a function's begin -/
def FnD.begin (d : FnD) (leaf : Nat → List AV → Tree) (args : List SV) (S : St) : Tree :=
  jumpsK S.H.length S.T.length leaf (frame0 d.fn args) S (findCuts d.cuts 0 S.H.length S.T.length [])
def FnD.enter (d : FnD) (g : FuncId) (args : List SV) (S : St) (K : SV → St → Tree) (Kp : AV → St → Tree) : Tree :=
  d.begin (fun i vals => .call g i vals fun o => outsT d.outs o fun o => match o.1 with
    | .ret v => K v o.2
    | .panic v => Kp v o.2) args S
def Lay.ct (L : Lay) : CT := fun k args S K Kp => match L.ext k with
  | some sp => callT sp.kt0 (fun a s k kp => (sp.res a s).toT k kp) args S K Kp
  | none => match L.fns k with
    | some d => callT d.kt (d.enter k) args S K Kp
    | none => .fail
def FnD.jump (d : FnD) (n0 m0 : Nat) (p : List Nat) : Option (Fr → St → Tree) := match findCuts d.cuts 0 n0 m0 p with
  | [] => none
  | cs => some fun fr S => jumpsK n0 m0 .jump fr S cs
def Lay.env (L : Lay) (call : CallFn) (f : FuncId) (n0 m0 : Nat) : Env0 := ⟨L.c, L.pre, n0, m0, call, L.c.drop f⟩
/-- THE TREE of a function's piece -/
def Lay.tree (L : Lay) (call : CallFn) (f : FuncId) (d : FnD) (k : Nat) (vals : List AV) : Tree := match d.cuts[k]? with
  | some cut => (L.env call f cut.n0 cut.m0).codeU ⟨L.ct, d.jump cut.n0 cut.m0⟩ cut.path (subR cut.path d.code) (cut.sh.fr vals) (cut.sh.st vals)
      ((L.env call f cut.n0 cut.m0).contT ⟨L.ct, d.jump cut.n0 cut.m0⟩ d.code (endT L.c L.pre call L.ct d.lv d.fn cut.n0 cut.m0) cut.path)
  | none => .fail
def resOf : Option Out → Res
  | some (.ret v, S) => .ret v S
  | some (.panic v, S) => .panic v S
  | none => .fail
noncomputable def Lay.specOf (W : Orc) (g : FuncId) (d : FnD) : Go.Ab.Spec := ⟨d.kt, fun args S => resOf ((d.begin .jump args S).run W g)⟩
noncomputable def Lay.tab (L : Lay) (W : Orc) : Tab := fun g => match L.ext g with
  | some sp => some sp
  | none => match L.fns g with
    | some d => some (Lay.specOf W g d)
    | none => none
/-- WHAT THE FUNCTIONS' PIECES COME TO, in so many steps -/
noncomputable def Lay.evalN (L : Lay) : Nat → Orc
  | 0 => fun _ _ _ => none
  | n + 1 => fun f k vals => match L.fns f with
    | some d => (L.tree (callOf (L.tab (L.evalN n))) f d k vals).run (L.evalN n) f
    | none => none
open Classical in
/-- what they come to -/
noncomputable def Lay.ev (L : Lay) : Orc := fun f k vals => if h : ∃ o N, ∀ n, N ≤ n → L.evalN n f k vals = some o then some (Classical.choose h) else none
theorem Lay.ev_some {L : Lay} {f : FuncId} {k : Nat} {vals : List AV} {o : Out} (h : L.ev f k vals = some o) : ∃ N, ∀ n, N ≤ n → L.evalN n f k vals = some o := by
  unfold Lay.ev at h
  split at h
  · rename_i hx
    cases h
    exact Classical.choose_spec hx
  · cases h
theorem Lay.ev_of {L : Lay} {f : FuncId} {k : Nat} {vals : List AV} {o : Out} (h : ∃ N, ∀ n, N ≤ n → L.evalN n f k vals = some o) : L.ev f k vals = some o := by
  have hx : ∃ o N, ∀ n, N ≤ n → L.evalN n f k vals = some o := ⟨o, h⟩
  unfold Lay.ev
  rw [dif_pos hx]
  obtain ⟨N, hN⟩ := Classical.choose_spec hx
  obtain ⟨M, hM⟩ := h
  have h1 := hN (max N M) (by omega)
  have h2 := hM (max N M) (by omega)
  rw [h1] at h2
  exact h2
/-- a piece comes to K -/
def Lay.Wp (L : Lay) (f : FuncId) (k : Nat) (vals : List AV) (K : Out → Prop) : Prop := ∃ o, L.ev f k vals = some o ∧ K o
/-- THE LAW's RULE: from a piece's tree to what it comes to -/
theorem Lay.wp_of {L : Lay} {f : FuncId} {d : FnD} (hd : L.fns f = some d) {k : Nat} {vals : List AV} {t : Tree} (ht : ∀ call, L.tree call f d k vals = t) {K : Out → Prop} (h : t.wp L.ev f K) : L.Wp f k vals K := by
  obtain ⟨o, h1, h2⟩ := Tree.wp_run.1 h
  refine ⟨o, Lay.ev_of ?_, h2⟩
  obtain ⟨N, hN⟩ := Tree.run_lim (V := L.evalN) (fun f k vs o h => Lay.ev_some h) h1
  refine ⟨N + 1, fun n hn => ?_⟩
  obtain ⟨m, rfl⟩ : ∃ m, n = m + 1 := ⟨n - 1, by omega⟩
  simp only [Lay.evalN, hd, ht]
  exact hN m (by omega)

/-! ### where code is cut -/
section
variable {c : Ctx} {n0 m0 : Nat}
/-- a loop, of so many rounds -/
def RoundsH (c : Ctx) (n0 m0 : Nat) (body : Code) (N : Nat) (fr : Fr) (S : St) (Q : Post1) : Prop :=
  ∀ B w0 G0 T0 G a w Q', G0.φ.length = n0 → T0.length = m0 → Inv c B w0 G S w → Grows G0 T0 G S.T → FrR G S.T fr a → TagsLow n0 m0 S → PostH c B w0 G0 T0 Q Q' → Code.rounds c.P body Q' N a w
theorem RoundsH.code {body : Code} {N : Nat} {fr : Fr} {S : St} {Q : Post1} (h : RoundsH c n0 m0 body N fr S Q) : CodeH c n0 m0 (.loop body) fr S Q :=
  fun B w0 G0 T0 G a w Q' h1 h2 h3 h4 h5 h6 h7 => wp_loop_rounds N (h B w0 G0 T0 G a w Q' h1 h2 h3 h4 h5 h6 h7)
theorem RoundsH.mono {body : Code} {N M : Nat} (hn : N ≤ M) {fr : Fr} {S : St} {Q Q2 : Post1} (h : RoundsH c n0 m0 body N fr S Q) (hq : ∀ ex fr S, Q ex fr S → Q2 ex fr S) : RoundsH c n0 m0 body M fr S Q2 :=
  fun B w0 G0 T0 G a w Q' h1 h2 h3 h4 h5 h6 h7 => rounds_le hn (h B w0 G0 T0 G a w Q' h1 h2 h3 h4 h5 h6 fun ex fr S q => h7 ex fr S (hq ex fr S q))
theorem RoundsH.wkn {body : Code} {N : Nat} {fr fr2 : Fr} {S S2 : St} {Q : Post1} (hw : Wkn c n0 m0 fr S fr2 S2) (h : RoundsH c n0 m0 body N fr2 S2 Q) : RoundsH c n0 m0 body N fr S Q := by
  intro B w0 G0 T0 G a w Q' h1 h2 h3 h4 h5 h6 h7
  obtain ⟨G2, i3, i4, i5, i6⟩ := hw B w0 G0 T0 G a w h1 h2 h3 h4 h5 h6
  exact h B w0 G0 T0 G2 a w Q' h1 h2 i3 i4 i5 i6 h7
theorem RoundsH.succ {body : Code} {N : Nat} {fr : Fr} {S : St} {Q : Post1} (h : CodeH c n0 m0 body fr S fun ex fr' S' => match ex with
    | .normal => RoundsH c n0 m0 body N fr' S' Q
    | ex => Q ex fr' S') : RoundsH c n0 m0 body (N + 1) fr S Q := by
  intro B w0 G0 T0 G a w Q' h1 h2 h3 h4 h5 h6 h7
  rw [rounds_succ]
  refine h B w0 G0 T0 G a w _ h1 h2 h3 h4 h5 h6 fun ex fr1 S1 hq G1 ex' a1 w1 hex i1 g1 f1 t1 => ?_
  cases ex with
  | normal =>
    cases ex' <;> simp only [ExR] at hex
    exact hq B w0 G0 T0 G1 a1 w1 Q' h1 h2 i1 g1 f1 (by rw [← h1, ← h2]; exact t1) h7
  | _ =>
    cases ex' <;> simp only [ExR] at hex <;> exact h7 _ _ _ hq G1 _ a1 w1 hex i1 g1 f1 t1
/-- what must hold behind the code at a path -/
def contH (c : Ctx) (n0 m0 : Nat) (root : Code) (Qf : Post1) (N : Nat) : List Nat → Post1
  | [] => Qf
  | d :: p => match subR p root with
    | .seq _ b => match d with
      | 0 => fun ex fr S => match ex with
        | .normal => CodeH c n0 m0 b fr S (contH c n0 m0 root Qf N p)
        | ex => contH c n0 m0 root Qf N p ex fr S
      | _ => contH c n0 m0 root Qf N p
    | .block id _ => fun ex fr S => match ex with
      | .exit id' => if id' = id then contH c n0 m0 root Qf N p .normal fr S else contH c n0 m0 root Qf N p (.exit id') fr S
      | ex => contH c n0 m0 root Qf N p ex fr S
    | .loop body => fun ex fr S => match ex with
      | .normal => RoundsH c n0 m0 body N fr S (contH c n0 m0 root Qf N p)
      | ex => contH c n0 m0 root Qf N p ex fr S
    | _ => contH c n0 m0 root Qf N p
theorem contH_more {root : Code} {Qf : Post1} {N : Nat} : ∀ (p : List Nat) ex fr S, contH c n0 m0 root Qf N p ex fr S → contH c n0 m0 root Qf (N + 1) p ex fr S
  | [], _, _, _, h => h
  | d :: p, ex, fr, S, h => by
    have ih := contH_more (root := root) (Qf := Qf) (N := N) p
    cases hs : subR p root with
    | seq a b =>
      cases d with
      | zero =>
        simp only [contH, hs] at h ⊢
        cases ex with
        | normal => exact CodeH.mono h ih
        | _ => exact ih _ _ _ h
      | succ d => simp only [contH, hs] at h ⊢; exact ih _ _ _ h
    | block id b =>
      simp only [contH, hs] at h ⊢
      cases ex with
      | exit i =>
        simp only at h ⊢
        split
        · rename_i e; rw [if_pos e] at h; exact ih _ _ _ h
        · rename_i e; rw [if_neg e] at h; exact ih _ _ _ h
      | _ => exact ih _ _ _ h
    | loop body =>
      simp only [contH, hs] at h ⊢
      cases ex with
      | normal => exact RoundsH.mono (Nat.le_succ N) h ih
      | _ => exact ih _ _ _ h
    | _ => simp only [contH, hs] at h ⊢; exact ih _ _ _ h
/-- the code at a path comes to what must hold behind it -/
def AtH (c : Ctx) (n0 m0 : Nat) (root : Code) (Qf : Post1) (N : Nat) (p : List Nat) (fr : Fr) (S : St) : Prop := match subR p root with
  | .loop body => RoundsH c n0 m0 body N fr S (contH c n0 m0 root Qf N p)
  | k => CodeH c n0 m0 k fr S (contH c n0 m0 root Qf N p)
theorem AtH.code {root : Code} {Qf : Post1} {N : Nat} {p : List Nat} {fr : Fr} {S : St} (h : AtH c n0 m0 root Qf N p fr S) : CodeH c n0 m0 (subR p root) fr S (contH c n0 m0 root Qf N p) := by
  unfold AtH at h
  split at h
  · rename_i body hs; rw [hs]; exact RoundsH.code h
  · exact h
theorem AtH.wkn {root : Code} {Qf : Post1} {N : Nat} {p : List Nat} {fr fr2 : Fr} {S S2 : St} (hw : Wkn c n0 m0 fr S fr2 S2) (h : AtH c n0 m0 root Qf N p fr2 S2) : AtH c n0 m0 root Qf N p fr S := by
  unfold AtH at h ⊢
  split at h
  · exact RoundsH.wkn hw h
  · exact CodeH.wkn hw h
variable {W : Orc} {f : FuncId} {Q : Out → Prop} {tab : Tab}
theorem regionT_sound {e : Env0} {ct : CT} (he : e.c = c) (hn : e.n0 = n0) (hcall : e.call = callOf tab) (hct : CTOk W f Q ct tab) (hm : c.P.follows .mixedOrders = true) (ht : TabSound c tab) {id : Nat} {ops : Array Oper} {draw : Bool} {fr : Fr} {S : St} {Q' : QT}
    (h : (e.regionT ct id ops draw fr S Q').wp W f Q) : CodeH c n0 m0 (.region id ops draw) fr S fun ex fr S => (Q' ex fr S).wp W f Q := by
  have hcs : CallSound c e.call := by rw [hcall]; exact tab_sound ht
  have htags : CallTags e.call := by rw [hcall]; exact tab_tags tab
  have h1 : CodeH c n0 m0 (.region id ops draw) fr S fun ex fr' S' => (Q' ex (dropped (e.drop id) fr') S').wp W f Q := by
    unfold Env0.regionT at h
    cases draw with
    | true =>
      obtain ⟨r, h1, h2⟩ := drawsT_sound hcall hct h
      exact CodeH.region he hm hcs htags hn (by simp only [Env0.region, if_true]; exact h1) h2
    | false =>
      obtain ⟨r, h1, h2⟩ := opsT_sound hcall hct _ _ _ h
      cases r with
      | ok fr' S' => exact CodeH.region (r := (.normal, fr', S')) he hm hcs htags hn (by simp [Env0.region, h1]) h2
      | panic v fr' S' => exact CodeH.region (r := (.panic v, fr', S')) he hm hcs htags hn (by simp [Env0.region, h1]) h2
  exact fun B w0 G0 T0 G a w Q2 k1 k2 k3 k4 k5 k6 k7 => h1 B w0 G0 T0 G a w Q2 k1 k2 k3 k4 k5 k6 fun ex fr' S' hq G1 ex' a1 w1 m1 m2 m3 m4 m5 =>
    k7 _ _ _ hq G1 ex' a1 w1 m1 m2 m3 ⟨m4.env.wk (wk_dropped _ _), m4.ds⟩ m5
/-- THE TREE OF CODE IS RIGHT -/
theorem codeU_sound {e : Env0} {g : GenT} (he : e.c = c) (hn : e.n0 = n0) (hcall : e.call = callOf tab) (hct : CTOk W f Q g.ct tab) (hm : c.P.follows .mixedOrders = true) (ht : TabSound c tab) {root : Code} {fin : QT} {Qf : Post1} {N : Nat}
    (hj : ∀ p J, g.jump p = some J → ∀ fr S, (J fr S).wp W f Q → AtH c n0 m0 root Qf N p fr S) :
    ∀ (k : Code) (p : List Nat), subR p root = k → (∀ ex fr S, (e.contT g root fin p ex fr S).wp W f Q → contH c n0 m0 root Qf N p ex fr S) → ∀ (fr : Fr) (S : St), (e.codeU g p k fr S (e.contT g root fin p)).wp W f Q → CodeH c n0 m0 k fr S (contH c n0 m0 root Qf N p) := by
  have hk : ∀ (k : Code) (p : List Nat), subR p root = k → (∀ fr S, (e.codeU g p k fr S (e.contT g root fin p)).wp W f Q → CodeH c n0 m0 k fr S (contH c n0 m0 root Qf N p)) →
      ∀ fr S, (g.hk p (e.codeU g p k) fr S (e.contT g root fin p)).wp W f Q → CodeH c n0 m0 k fr S (contH c n0 m0 root Qf N p) := by
    intro k p hp ih fr S h
    unfold GenT.hk at h
    split at h
    · rename_i J hJ; have := (hj p J hJ fr S h).code; rw [hp] at this; exact this
    · exact ih fr S h
  intro k
  induction k with
  | skip => intro p _ hc fr S h; exact .skip (hc _ _ _ h)
  | label => intro p _ hc fr S h; exact .label (hc _ _ _ h)
  | exit id => intro p _ hc fr S h; exact .exit (hc _ _ _ h)
  | ret => intro p _ hc fr S h; exact .ret (hc _ _ _ h)
  | region id ops draw =>
    intro p _ hc fr S h
    simp only [Env0.codeU, forceLT_eq] at h
    exact (regionT_sound he hn hcall hct hm ht h).mono hc
  | seq a b iha ihb =>
    intro p hp hc fr S h
    have e1 : e.contT g root fin (1 :: p) = e.contT g root fin p := by simp only [Env0.contT, hp]
    have e0 : e.contT g root fin (0 :: p) = fun ex fr S => match ex with
        | .normal => g.hk (1 :: p) (e.codeU g (1 :: p) b) fr S (e.contT g root fin p)
        | ex => e.contT g root fin p ex fr S := by simp only [Env0.contT, hp]; rfl
    have k1 : contH c n0 m0 root Qf N (1 :: p) = contH c n0 m0 root Qf N p := by simp only [contH, hp]
    have k0 : contH c n0 m0 root Qf N (0 :: p) = fun ex fr S => match ex with
        | .normal => CodeH c n0 m0 b fr S (contH c n0 m0 root Qf N p)
        | ex => contH c n0 m0 root Qf N p ex fr S := by simp only [contH, hp]
    have hb : ∀ fr S, (g.hk (1 :: p) (e.codeU g (1 :: p) b) fr S (e.contT g root fin p)).wp W f Q → CodeH c n0 m0 b fr S (contH c n0 m0 root Qf N p) := by
      have := hk b (1 :: p) (by simp [subR, hp]) (ihb (1 :: p) (by simp [subR, hp]) (by rw [e1, k1]; exact hc))
      rw [e1, k1] at this
      exact this
    have hc0 : ∀ ex fr S, (e.contT g root fin (0 :: p) ex fr S).wp W f Q → contH c n0 m0 root Qf N (0 :: p) ex fr S := by
      rw [e0, k0]
      intro ex fr S h
      cases ex with
      | normal => exact hb fr S h
      | _ => exact hc _ _ _ h
    have ha := hk a (0 :: p) (by simp [subR, hp]) (iha (0 :: p) (by simp [subR, hp]) hc0) fr S
    rw [e0, k0] at ha
    exact .seq (ha h)
  | cond x a b iha ihb =>
    intro p hp hc fr S h
    have e1 : ∀ d, e.contT g root fin (d :: p) = e.contT g root fin p := fun d => by simp only [Env0.contT, hp]
    have k1 : ∀ d, contH c n0 m0 root Qf N (d :: p) = contH c n0 m0 root Qf N p := fun d => by simp only [contH, hp]
    have ha := hk a (0 :: p) (by simp [subR, hp]) (iha (0 :: p) (by simp [subR, hp]) (by rw [e1, k1]; exact hc)) fr S
    have hb := hk b (1 :: p) (by simp [subR, hp]) (ihb (1 :: p) (by simp [subR, hp]) (by rw [e1, k1]; exact hc)) fr S
    rw [e1, k1] at ha hb
    simp only [Env0.codeU] at h
    split at h
    · rename_i t hx
      have h := ite_w h
      exact .cond (by rw [← he]; exact hx) (fun e => ha (h.1 e)) (fun e => hb (h.2 e))
    · exact h.elim
  | block id body ih =>
    intro p hp hc fr S h
    have e0 : e.contT g root fin (0 :: p) = fun ex fr S => match ex with
        | .exit id' => if id' = id then e.contT g root fin p .normal fr S else e.contT g root fin p (.exit id') fr S
        | ex => e.contT g root fin p ex fr S := by simp only [Env0.contT, hp]; rfl
    have k0 : contH c n0 m0 root Qf N (0 :: p) = fun ex fr S => match ex with
        | .exit id' => if id' = id then contH c n0 m0 root Qf N p .normal fr S else contH c n0 m0 root Qf N p (.exit id') fr S
        | ex => contH c n0 m0 root Qf N p ex fr S := by simp only [contH, hp]
    have hc0 : ∀ ex fr S, (e.contT g root fin (0 :: p) ex fr S).wp W f Q → contH c n0 m0 root Qf N (0 :: p) ex fr S := by
      rw [e0, k0]
      intro ex fr S h
      cases ex with
      | exit i =>
        simp only at h ⊢
        split
        · rename_i e; rw [if_pos e] at h; exact hc _ _ _ h
        · rename_i e; rw [if_neg e] at h; exact hc _ _ _ h
      | _ => exact hc _ _ _ h
    have ha := hk body (0 :: p) (by simp [subR, hp]) (ih (0 :: p) (by simp [subR, hp]) hc0) fr S
    rw [e0, k0] at ha
    refine .block ((ha h).mono fun ex fr S hq => ?_)
    cases ex <;> exact hq
  | loop body ih =>
    intro p hp hc fr S h
    have e0 : e.contT g root fin (0 :: p) = fun ex fr S => match ex with
        | .normal => match g.jump p with
          | some J => J fr S
          | none => .fail
        | ex => e.contT g root fin p ex fr S := by simp only [Env0.contT, hp]; rfl
    have k0 : contH c n0 m0 root Qf N (0 :: p) = fun ex fr S => match ex with
        | .normal => RoundsH c n0 m0 body N fr S (contH c n0 m0 root Qf N p)
        | ex => contH c n0 m0 root Qf N p ex fr S := by simp only [contH, hp]
    have hc0 : ∀ ex fr S, (e.contT g root fin (0 :: p) ex fr S).wp W f Q → contH c n0 m0 root Qf N (0 :: p) ex fr S := by
      rw [e0, k0]
      intro ex fr S h
      cases ex with
      | normal =>
        simp only at h ⊢
        split at h
        · rename_i J hJ
          have := hj p J hJ fr S h
          unfold AtH at this
          rw [hp] at this
          exact this
        · exact h.elim
      | _ => exact hc _ _ _ h
    have ha := hk body (0 :: p) (by simp [subR, hp]) (ih (0 :: p) (by simp [subR, hp]) hc0) fr S
    rw [e0, k0] at ha
    exact (RoundsH.succ (ha h)).code
  | rangeFunc => intro p _ _ fr S h; simp [Env0.codeU, Tree.wp] at h
  | scope => intro p _ _ fr S h; simp [Env0.codeU, Tree.wp] at h
  | goto => intro p _ _ fr S h; simp [Env0.codeU, Tree.wp] at h
  | refuse => intro p _ _ fr S h; simp [Env0.codeU, Tree.wp] at h
theorem contT_sound {e : Env0} {g : GenT} (he : e.c = c) (hn : e.n0 = n0) (hcall : e.call = callOf tab) (hct : CTOk W f Q g.ct tab) (hm : c.P.follows .mixedOrders = true) (ht : TabSound c tab) {root : Code} {fin : QT} {Qf : Post1} {N : Nat}
    (hj : ∀ p J, g.jump p = some J → ∀ fr S, (J fr S).wp W f Q → AtH c n0 m0 root Qf N p fr S) (hf : ∀ ex fr S, (fin ex fr S).wp W f Q → Qf ex fr S) :
    ∀ (p : List Nat) ex fr S, (e.contT g root fin p ex fr S).wp W f Q → contH c n0 m0 root Qf N p ex fr S
  | [], ex, fr, S, h => hf _ _ _ h
  | d :: p, ex, fr, S, h => by
    have ih := contT_sound he hn hcall hct hm ht hj hf p
    cases hs : subR p root with
    | seq a b =>
      cases d with
      | zero =>
        simp only [contH, Env0.contT, hs] at h ⊢
        have e1 : e.contT g root fin (1 :: p) = e.contT g root fin p := by simp only [Env0.contT, hs]
        have k1 : contH c n0 m0 root Qf N (1 :: p) = contH c n0 m0 root Qf N p := by simp only [contH, hs]
        cases ex with
        | normal =>
          simp only [GenT.hk] at h
          split at h
          · rename_i J hJ
            have := (hj (1 :: p) J hJ fr S h).code
            rw [k1] at this
            simpa [subR, hs] using this
          · have := codeU_sound he hn hcall hct hm ht hj b (1 :: p) (by simp [subR, hs]) (by rw [e1, k1]; exact ih) fr S (by rw [e1]; exact h)
            rw [k1] at this
            exact this
        | _ => exact ih _ _ _ h
      | succ d => simp only [contH, Env0.contT, hs] at h ⊢; exact ih _ _ _ h
    | block id b =>
      simp only [contH, Env0.contT, hs] at h ⊢
      cases ex with
      | exit i =>
        simp only at h ⊢
        split
        · rename_i e; rw [if_pos e] at h; exact ih _ _ _ h
        · rename_i e; rw [if_neg e] at h; exact ih _ _ _ h
      | _ => exact ih _ _ _ h
    | loop body =>
      simp only [contH, Env0.contT, hs] at h ⊢
      cases ex with
      | normal =>
        simp only at h ⊢
        split at h
        · rename_i J hJ
          have := hj p J hJ fr S h
          unfold AtH at this
          rw [hs] at this
          exact this
        · exact h.elim
      | _ => exact ih _ _ _ h
    | _ => simp only [contH, Env0.contT, hs] at h ⊢; exact ih _ _ _ h
end
end Go.Ab
end
section
/- EVERY FUNCTION OF THE TABLE MEETS WHAT ITS TREE COMES TO. -/
namespace Go.Ab
open Go.RowKit

section
variable {c : Ctx} {n0 m0 : Nat}
/-- what a body's end may come to, its deferred call by whatever contracts hold -/
def EndsT (c : Ctx) (pre : TypeId → Bool) (fn : Func) (n0 m0 : Nat) (p : Out) : Post1 := fun ex fr S => ∃ tab, TabSound c tab ∧ EndsV c pre (callOf tab) fn n0 m0 p ex fr S
theorem fn_soundT {pre : TypeId → Bool} (hm : c.P.follows .mixedOrders = true) (hname : ∀ (f : FuncId) (fn : Func), c.P.funcs[f]? = some fn → (fn.name == "runtime.NumGoroutine") = false) {f : FuncId} {fn : Func} {k : Code}
    (hf : c.P.funcs[f]? = some fn) (hb : fn.body = some k) {sp : Spec}
    (h : ∀ args S K Kp, (sp.res args S).wp K Kp → CodeH c S.H.length S.T.length k (frame0 fn args) S fun ex fr S1 => ∃ p, EndsT c pre fn S.H.length S.T.length p ex fr S1 ∧ outTo p K Kp) : SpecSound c f sp := by
  intro args S p hp B w0 G w vs inv ha
  refine .inl ⟨enter_run hf (hname f fn hf) hb _ _, calls_of_wp_defers hf hb ?_⟩
  refine h args S _ _ hp B w0 G S.T G _ w _ inv.lenφ rfl inv (.refl _ _) (frame0_sound ha) (fun b cells hb hc x hx => inv.tag b cells hc x hx) fun ex fr S1 hq G' ex' a' w' h1 h2 h3 h4 h5 => ?_
  obtain ⟨p', ⟨tab, ht, he⟩, hto⟩ := hq
  have htags := tab_tags tab
  have hcall := tab_sound ht
  have hd : ∀ (S : St) (d : Nat → List Tmp), DrawSound c B w0 ⟨c, pre, S.H.length, S.T.length, callOf tab, d⟩ := fun S d => draws_sound rfl hm hcall
  have hpp : p = p' := by
    unfold outTo at hto
    obtain ⟨o, S2⟩ := p'
    cases o <;> exact hto
  subst hpp
  have hlen : S.H.length ≤ S1.H.length := by rw [← inv.lenφ, ← h2.lenφ]; exact len_le_of h3.φ
  have htl : TagsLow S.H.length S.T.length S1 := by rw [inv.lenφ] at h5; exact h5
  have fin : ∀ {G2 : Gh} {S2 : St} {w2 : World} {env : Env} {vs' : List SV}, Inv c B w0 G2 S2 w2 → Grows G S.T G2 S2.T → TagsLow S.H.length S.T.length S2 → EnvR G2 S2.T env a' → allSome (fn.results.toList.map (c.result env S2)) = some vs' →
      ((∀ v ∈ vs', v.1.low S.H.length = true) ∧ p = (.ret (asOne (vs'.map fun v => (v.1, .no))), ⟨S2.H.take S.H.length, S2.T.take S.T.length⟩) ∨ p = (.ret (asOne vs'), S2)) →
      ∃ v, (results fn a'.tmps).run c.P w2 = .ok v w2 ∧ ∃ G'', Inv c B w0 G'' p.2 w2 ∧ Grows G S.T G'' p.2.T ∧ OutR G'' p.2.T p.1 (.returned v) := by
    intro G2 S2 w2 env vs' i2 g2 t2 e2 hvs hout
    obtain ⟨us, r1, r2⟩ := results_sound i2 e2 hvs
    refine ⟨_, r1, ?_⟩
    rcases hout with ⟨hl, rfl⟩ | rfl
    · have hrl : RSl (G2.cut S.H.length S.T.length) (S2.T.take S.T.length) (vs'.map fun v => (v.1, .no)) us := r2.plain hl
      exact ⟨_, i2.cut t2, g2.cut (n := S.H.length) (m := S.T.length) (by rw [inv.lenφ]; exact Nat.le_refl _) (Nat.le_refl _), hrl.one⟩
    · exact ⟨_, i2, g2, r2.one⟩
  rcases he with (⟨n, he⟩ | ⟨hds, hex, vs', hvs, hout⟩) | ⟨n, g1, dargs, u, u', S3, hds, hmode, hdef, vs', hvs, hout⟩
  · obtain ⟨out, S2⟩ := p
    exact ends_sound (q := (ex, fr, S1)) hcall htags hd hname inv htl hlen he G' ex' a' w' h1 h2 h3 h4
  · have hds' : a'.defers = [] := by
      have := h4.ds
      rw [hds] at this
      cases hd2 : a'.defers with
      | nil => rfl
      | cons x xs => rw [hd2] at this; exact this.elim
    have hfin := fin h2 h3 htl h4.env hvs hout
    rcases hex with rfl | rfl <;> cases ex' <;> simp only [ExR] at h1
    · show Leaves _ _ _ _ a'.defers _ _
      rw [hds']; exact hfin
    · show Leaves _ _ _ _ a'.defers _ _
      rw [hds']; exact hfin
  · obtain ⟨env, ds⟩ := fr
    simp only at hds
    subst hds
    rcases hmode with ⟨hex, rfl, rfl⟩ | ⟨v, rfl, rfl, rfl⟩
    · have hfin := defer_main hcall htags hd hname (fn := fn) (R0 := fun en w' => ∃ G', Inv c B w0 G' p.2 w' ∧ Grows G S.T G' p.2.T ∧ OutR G' p.2.T p.1 en) htl hlen h2 h3 h4 (u := .returning) (u' := .returning) (m := .returning) (by simp) rfl hdef fun G2 w2 i2 g2 t2 e2 m2 u2 => by
        have : m2 = .returning := u2
        subst this
        exact fin i2 g2 t2 e2 hvs hout
      rcases hex with rfl | rfl <;> cases ex' <;> simp only [ExR] at h1
      · exact hfin
      · exact hfin
    · cases ex' <;> simp only [ExR] at h1
      obtain ⟨v', rfl, hv⟩ := h1
      exact defer_main hcall htags hd hname (fn := fn) htl hlen h2 h3 h4 (u := .panics v) (u' := .recovered) (by simp) ⟨v', rfl, hv⟩ hdef fun G2 w2 i2 g2 t2 e2 m2 u2 => by
        obtain ⟨v2, rfl⟩ := u2
        exact fin i2 g2 t2 e2 hvs hout
end
theorem resOf_wp {m : Option Out} {K : SV → St → Prop} {Kp : AV → St → Prop} (h : (resOf m).wp K Kp) : ∃ o, m = some o ∧ outTo o K Kp := by
  rcases m with _ | ⟨o, S⟩
  · exact h.elim
  · cases o <;> exact ⟨_, rfl, h⟩
theorem resOf_of {m : Option Out} {o : Out} (hm : m = some o) {K : SV → St → Prop} {Kp : AV → St → Prop} (h : outTo o K Kp) : (resOf m).wp K Kp := by
  subst hm
  obtain ⟨o, S⟩ := o
  cases o <;> exact h
/-- a function's begin, taken for another leaf -/
theorem jumps_swap {W W' : Orc} {f f' : FuncId} {Q Q' : Out → Prop} {n0 m0 : Nat} {leaf leaf' : Nat → List AV → Tree} {fr : Fr} {S : St} (k : ∀ i vals, (leaf i vals).wp W f Q → (leaf' i vals).wp W' f' Q') :
    ∀ {cs : List (Nat × Cut)}, (jumpsK n0 m0 leaf fr S cs).wp W f Q → (jumpsK n0 m0 leaf' fr S cs).wp W' f' Q'
  | [], h => h.elim
  | (i, c) :: r, h => by
    simp only [jumpsK] at h ⊢
    split at h
    · exact jumpK_swap h (k i)
    · exact jumps_swap k h
theorem jumps_w {W : Orc} {f : FuncId} {Q : Out → Prop} {c : Ctx} {n0 m0 : Nat} {leaf : Nat → List AV → Tree} {fr : Fr} {S : St} :
    ∀ {cs : List (Nat × Cut)}, (jumpsK n0 m0 leaf fr S cs).wp W f Q → ∃ i cut, (i, cut) ∈ cs ∧ ∃ vals, Wkn c n0 m0 fr S (cut.sh.fr vals) (cut.sh.st vals) ∧ (leaf i vals).wp W f Q
  | [], h => h.elim
  | (i, c1) :: r, h => by
    simp only [jumpsK] at h
    split at h
    · obtain ⟨vals, h1, h2⟩ := jumpK_w (c := c) h
      exact ⟨i, c1, List.mem_cons_self .., vals, h1, h2⟩
    · obtain ⟨j, cut, h1, h2⟩ := jumps_w h
      exact ⟨j, cut, List.mem_cons_of_mem _ h1, h2⟩
/-- the calls' trees are right -/
theorem Lay.ct_ok (L : Lay) {W : Orc} {f : FuncId} {Q : Out → Prop} : CTOk W f Q L.ct (L.tab W) := by
  intro k args S K Kp h
  unfold Lay.ct at h
  unfold Lay.tab
  split at h
  · rename_i sp he
    refine ⟨sp, rfl, ?_⟩
    exact callT_w (sp := sp) (fun args S K Kp h => Res.toT_w h) h
  · rename_i he
    split at h
    · rename_i d hd
      refine ⟨Lay.specOf W k d, rfl, ?_⟩
      refine callT_w (sp := Lay.specOf W k d) (fun args S K Kp h => ?_) h
      have h2 : (d.begin .jump args S).wp W k fun o => outTo o (fun v S => (K v S).wp W f Q) (fun v S => (Kp v S).wp W f Q) := by
        refine jumps_swap (fun i vals hl => ?_) h
        obtain ⟨o, h1, h2⟩ := hl
        refine ⟨o, h1, ?_⟩
        have h3 := outsT_w h2
        obtain ⟨o1, S1⟩ := o
        cases o1 <;> exact h3
      obtain ⟨o, h3, h4⟩ := Tree.wp_run.1 h2
      exact resOf_of h3 h4
    · exact h.elim

/-- the table fits the program -/
structure Lay.Fits (L : Lay) : Prop where
  hm : L.c.P.follows .mixedOrders = true
  hname : ∀ (f : FuncId) (fn : Func), L.c.P.funcs[f]? = some fn → (fn.name == "runtime.NumGoroutine") = false
  fns : ∀ f d, L.fns f = some d → L.c.P.funcs[f]? = some d.fn ∧ d.fn.body = some d.code
  ext : ∀ f sp, L.ext f = some sp → SpecSound L.c f sp
theorem findCuts_at : ∀ {cs : List Cut} {i n0 m0 : Nat} {p : List Nat} {j : Nat} {cut : Cut}, (j, cut) ∈ findCuts cs i n0 m0 p → i ≤ j ∧ cs[j - i]? = some cut ∧ cut.path = p ∧ cut.n0 = n0 ∧ cut.m0 = m0
  | [], _, _, _, _, _, _, h => by cases h
  | c :: r, i, n0, m0, p, j, cut, h => by
    have step : (j, cut) ∈ findCuts r (i + 1) n0 m0 p → i ≤ j ∧ (c :: r)[j - i]? = some cut ∧ cut.path = p ∧ cut.n0 = n0 ∧ cut.m0 = m0 := by
      intro h
      obtain ⟨h1, h2, h3⟩ := findCuts_at h
      refine ⟨by omega, ?_, h3⟩
      rw [show j - i = (j - (i + 1)) + 1 by omega]
      simpa using h2
    simp only [findCuts] at h
    split at h
    · rename_i e
      rcases List.mem_cons.1 h with h | h
      · cases h
        simp only [Bool.and_eq_true] at e
        exact ⟨Nat.le_refl _, by simp, eq_of_beq e.1.1, Nat.eq_of_beq_eq_true e.1.2, Nat.eq_of_beq_eq_true e.2⟩
      · exact step h
    · exact step h
section
variable {L : Lay}
/-- what a piece comes to, the machine comes to -/
def PieceOk (L : Lay) (n : Nat) : Prop := ∀ f d, L.fns f = some d → ∀ k cut, d.cuts[k]? = some cut → ∀ vals (Q : Out → Prop), (∃ o, L.evalN n f k vals = some o ∧ Q o) →
  AtH L.c cut.n0 cut.m0 d.code (fun ex fr S => ∃ p, EndsT L.c L.pre d.fn cut.n0 cut.m0 p ex fr S ∧ Q p) n cut.path (cut.sh.fr vals) (cut.sh.st vals)
theorem spec_ok (hL : L.Fits) {n : Nat} (hp : PieceOk L n) {f : FuncId} {d : FnD} (hd : L.fns f = some d) : SpecSound L.c f (Lay.specOf (L.evalN n) f d) := by
  obtain ⟨h1, h2⟩ := hL.fns f d hd
  refine fn_soundT (pre := L.pre) hL.hm hL.hname h1 h2 fun args S K Kp h => ?_
  obtain ⟨o, h6, h7⟩ := resOf_wp h
  have h8 := (Tree.wp_run (K := fun o => outTo o K Kp)).2 ⟨o, h6, h7⟩
  obtain ⟨i, cut, hin, vals, hw, hl⟩ := jumps_w (c := L.c) h8
  obtain ⟨_, hc, h4, e1, e2⟩ := findCuts_at hin
  have hAt := hp f d hd i cut hc vals (fun o => outTo o K Kp) hl
  rw [e1, e2] at hAt
  have := (AtH.wkn hw hAt).code
  rw [h4] at this
  exact this
theorem tab_ok (hL : L.Fits) {n : Nat} (hp : PieceOk L n) : TabSound L.c (L.tab (L.evalN n)) := by
  intro f sp h
  unfold Lay.tab at h
  split at h
  · rename_i s he; cases h; exact hL.ext f _ he
  · split at h
    · rename_i d hd; cases h; exact spec_ok hL hp hd
    · cases h
theorem piece_ok (hL : L.Fits) : ∀ n, PieceOk L n
  | 0 => fun f d hd k cut hc vals Q h => by
    obtain ⟨o, h, _⟩ := h
    cases h
  | n + 1 => fun f d hd k cut hc vals Q h => by
    have ih := piece_ok hL n
    have ht := tab_ok hL ih
    obtain ⟨o, ho, hQ⟩ := h
    simp only [Lay.evalN, hd] at ho
    have hw := Tree.wp_run.2 ⟨o, ho, hQ⟩
    unfold Lay.tree at hw
    rw [hc] at hw
    simp only at hw
    have hfin : ∀ ex fr S, (endT L.c L.pre (callOf (L.tab (L.evalN n))) L.ct d.lv d.fn cut.n0 cut.m0 ex fr S).wp (L.evalN n) f Q → ∃ p, EndsT L.c L.pre d.fn cut.n0 cut.m0 p ex fr S ∧ Q p := by
      intro ex fr S h
      obtain ⟨p, h1, h2⟩ := endT_ends rfl L.ct_ok h
      exact ⟨p, ⟨_, ht, h1⟩, h2⟩
    have hj : ∀ p J, d.jump cut.n0 cut.m0 p = some J → ∀ fr S, (J fr S).wp (L.evalN n) f Q → AtH L.c cut.n0 cut.m0 d.code (fun ex fr S => ∃ p, EndsT L.c L.pre d.fn cut.n0 cut.m0 p ex fr S ∧ Q p) n p fr S := by
      intro p J hJ fr S h
      unfold FnD.jump at hJ
      split at hJ
      · cases hJ
      · cases hJ
        obtain ⟨i, c1, hin, vals', hwk, hl⟩ := jumps_w (c := L.c) h
        obtain ⟨_, g2, g3, g4, g5⟩ := findCuts_at hin
        have := ih f d hd i c1 g2 vals' Q hl
        rw [g3, g4, g5] at this
        exact AtH.wkn hwk this
    have hcont := contT_sound (c := L.c) (n0 := cut.n0) (m0 := cut.m0) (e := L.env (callOf (L.tab (L.evalN n))) f cut.n0 cut.m0) (g := ⟨L.ct, d.jump cut.n0 cut.m0⟩) rfl rfl rfl (L.ct_ok) hL.hm ht (root := d.code) (Qf := fun ex fr S => ∃ p, EndsT L.c L.pre d.fn cut.n0 cut.m0 p ex fr S ∧ Q p) (N := n) hj hfin
    have hU := codeU_sound (c := L.c) (n0 := cut.n0) (m0 := cut.m0) (e := L.env (callOf (L.tab (L.evalN n))) f cut.n0 cut.m0) (g := ⟨L.ct, d.jump cut.n0 cut.m0⟩) rfl rfl rfl (L.ct_ok) hL.hm ht (fin := endT L.c L.pre (callOf (L.tab (L.evalN n))) L.ct d.lv d.fn cut.n0 cut.m0) hj
    generalize L.env (callOf (L.tab (L.evalN n))) f cut.n0 cut.m0 = e at hw hcont hU
    generalize endT L.c L.pre (callOf (L.tab (L.evalN n))) L.ct d.lv d.fn cut.n0 cut.m0 = fin at hw hcont hU
    generalize (fun ex fr S => ∃ p, EndsT L.c L.pre d.fn cut.n0 cut.m0 p ex fr S ∧ Q p) = Qf at hj hcont hU ⊢
    unfold AtH
    split
    · rename_i body hs
      rw [hs] at hw
      -- one round, then the loop again
      have e0 : e.contT ⟨L.ct, d.jump cut.n0 cut.m0⟩ d.code fin (0 :: cut.path) = fun ex fr S => match ex with
          | .normal => match d.jump cut.n0 cut.m0 cut.path with
            | some J => J fr S
            | none => .fail
          | ex => e.contT ⟨L.ct, d.jump cut.n0 cut.m0⟩ d.code fin cut.path ex fr S := by simp only [Env0.contT, hs] <;> rfl
      have k0 : contH L.c cut.n0 cut.m0 d.code Qf n (0 :: cut.path) = fun ex fr S => match ex with
          | .normal => RoundsH L.c cut.n0 cut.m0 body n fr S (contH L.c cut.n0 cut.m0 d.code Qf n cut.path)
          | ex => contH L.c cut.n0 cut.m0 d.code Qf n cut.path ex fr S := by simp only [contH, hs] <;> rfl
      have hb : CodeH L.c cut.n0 cut.m0 body (cut.sh.fr vals) (cut.sh.st vals) (contH L.c cut.n0 cut.m0 d.code Qf n (0 :: cut.path)) := by
        have hw2 : (GenT.hk ⟨L.ct, d.jump cut.n0 cut.m0⟩ (0 :: cut.path) (e.codeU ⟨L.ct, d.jump cut.n0 cut.m0⟩ (0 :: cut.path) body) (cut.sh.fr vals) (cut.sh.st vals)
            (e.contT ⟨L.ct, d.jump cut.n0 cut.m0⟩ d.code fin (0 :: cut.path))).wp (L.evalN n) f Q := by
          rw [e0]; exact hw
        unfold GenT.hk at hw2
        split at hw2
        · rename_i J hJ
          have := (hj (0 :: cut.path) J hJ _ _ hw2).code
          simpa [subR, hs] using this
        · exact hU body (0 :: cut.path) (by simp [subR, hs]) (hcont (0 :: cut.path)) _ _ hw2
      rw [k0] at hb
      exact RoundsH.mono (Nat.le_refl _) (RoundsH.succ hb) (contH_more cut.path)
    · exact (hU _ cut.path rfl (hcont cut.path) _ _ hw).mono (contH_more cut.path)
/-- WHAT A FUNCTION COMES TO, as a contract -/
theorem spec_sound (hL : L.Fits) {f : FuncId} {d : FnD} (hd : L.fns f = some d) (n : Nat) : SpecSound L.c f (Lay.specOf (L.evalN n) f d) := spec_ok hL (piece_ok hL n) hd
/-- a run of a function, out of the law's part -/
theorem run_spec {f : FuncId} {d : FnD} {args : List SV} {S : St} {o : Out} (h : (d.begin .jump args S).wp L.ev f (fun o' => o' = o)) : ∃ n, ((Lay.specOf (L.evalN n) f d).res args S).is o := by
  obtain ⟨o', h1, rfl⟩ := Tree.wp_run.1 h
  obtain ⟨N, hN⟩ := Tree.run_lim (V := L.evalN) (fun f k vs o h => Lay.ev_some h) h1
  refine ⟨N, resOf_of (hN N (Nat.le_refl _)) ?_⟩
  unfold outTo
  obtain ⟨o, S'⟩ := o'
  cases o <;> rfl
end
end Go.Ab
end
section
/- THE LAW's PART: what trees come to, in plain words. -/
namespace Go.Ab
section
variable {L : Lay} {f : FuncId} {K : Out → Prop}
theorem tw_done {o : Out} : (Tree.done o).wp L.ev f K ↔ K o := Iff.rfl
theorem tw_jump {k : Nat} {vs : List AV} : (Tree.jump k vs).wp L.ev f K ↔ L.Wp f k vs K := Iff.rfl
theorem tw_need {p : Prop} {t : Tree} : (Tree.need p t).wp L.ev f K ↔ p ∧ t.wp L.ev f K := Iff.rfl
theorem tw_needR {α : Type} {x : α} {t : Tree} : (Tree.need (x = x) t).wp L.ev f K ↔ t.wp L.ev f K := ⟨fun h => h.2, fun h => ⟨rfl, h⟩⟩
theorem tw_bindS {α : Type} {x : α} {k : α → Tree} : (Tree.bind (some x) k).wp L.ev f K ↔ (k x).wp L.ev f K :=
  ⟨fun ⟨_, h1, h2⟩ => by cases h1; exact h2, fun h => ⟨x, rfl, h⟩⟩
theorem tw_nm {α : Type} {e : α} {k : α → Tree} : (Tree.nm e k).wp L.ev f K ↔ (k e).wp L.ev f K := tw_bindS
theorem tw_ite {b : Bool} {A B : Tree} : (Tree.ite b A B).wp L.ev f K ↔ if b = true then A.wp L.ev f K else B.wp L.ev f K := by
  cases b <;> exact Iff.rfl
theorem tw_iteT {A B : Tree} : (Tree.ite true A B).wp L.ev f K ↔ A.wp L.ev f K := Iff.rfl
theorem tw_iteF {A B : Tree} : (Tree.ite false A B).wp L.ev f K ↔ B.wp L.ev f K := Iff.rfl
theorem tw_callT {g : FuncId} {i : Nat} {vs : List AV} {k : Out → Tree} : (Tree.call g i vs k).wp L.ev f K ↔ L.Wp g i vs fun o => (k o).wp L.ev f K := Iff.rfl
theorem tw_opnS {ks : List TyK} {vs : List AV} {g : Cur ks} : (Tree.opn ks (some vs) g).wp L.ev f K ↔ (openC ks vs g).wp L.ev f K := tw_bindS
end
theorem openC_nil {g : Cur []} : openC [] [] g = g := rfl
theorem openC_int {k : IntKind} {r : List TyK} {n : Int} {vs : List AV} {g : Cur (.int k :: r)} : openC (.int k :: r) (.int k n :: vs) g = openC r vs (g n) := by
  simp [openC, getI, optT]
theorem openC_bool {r : List TyK} {n : Bool} {vs : List AV} {g : Cur (.bool :: r)} : openC (.bool :: r) (.bool n :: vs) g = openC r vs (g n) := rfl
/-- a byte of a text -/
theorem byteAt_nat {s : List UInt8} {n : Nat} (h : n < s.length) : byteAt s (n : Int) = some ((s[n].toNat : Nat) : Int) := by
  unfold byteAt
  rw [if_pos (by omega), Int.toNat_natCast, List.getElem?_eq_getElem h]; rfl
theorem wrap64 {x : Int} (h1 : -9223372036854775808 ≤ x) (h2 : x ≤ 9223372036854775807) : IntKind.wrap .i64 x = x := by
  rw [IntKind.wrap_i64]; omega
theorem byteAt_app (pre : List UInt8) (b : UInt8) (r : List UInt8) : byteAt (pre ++ b :: r) ((pre.length : Nat) : Int) = some ((b.toNat : Nat) : Int) := by
  rw [byteAt_nat (by simp)]; simp
/-- a byte is this one -/
theorem byteEq {b : UInt8} (c : UInt8) {k : Int} (h : ((c.toNat : Nat) : Int) = k) : ((((b.toNat : Nat) : Int) == k) = true) ↔ b = c := by
  rw [beq_iff_eq, ← h]
  constructor
  · intro e; apply UInt8.toNat_inj.1; omega
  · intro e; rw [e]
end Go.Ab
end
section
/- FROM A FUNCTION's TREE TO THE ROW's WALK. -/
namespace Go.Ab
open Go.RowKit
/-- a table of functions -/
def fnsL : List (FuncId × FnD) → FuncId → Option FnD
  | [], _ => none
  | (g, d) :: r, f => match Nat.beq g f with
    | true => some d
    | false => fnsL r f
theorem fnsL_mem : ∀ {l : List (FuncId × FnD)} {f : FuncId} {d : FnD}, fnsL l f = some d → (f, d) ∈ l
  | (g, e) :: r, f, d, h => by
    simp only [fnsL] at h
    split at h
    · rename_i e2
      rw [Nat.eq_of_beq_eq_true e2] at *
      cases h
      exact List.mem_cons_self ..
    · exact List.mem_cons_of_mem _ (fnsL_mem h)
def extL : List (FuncId × Go.Ab.Spec) → FuncId → Option Go.Ab.Spec
  | [], _ => none
  | (g, d) :: r, f => match Nat.beq g f with
    | true => some d
    | false => extL r f
theorem extL_mem : ∀ {l : List (FuncId × Go.Ab.Spec)} {f : FuncId} {d : Go.Ab.Spec}, extL l f = some d → (f, d) ∈ l
  | (g, e) :: r, f, d, h => by
    simp only [extL] at h
    split at h
    · rename_i e2
      rw [Nat.eq_of_beq_eq_true e2] at *
      cases h
      exact List.mem_cons_self ..
    · exact List.mem_cons_of_mem _ (extL_mem h)
/-- the table fits, function by function -/
inductive FnsOk (P : Program) : List (FuncId × FnD) → Prop
  | nil : FnsOk P []
  | cons {f : FuncId} {d : FnD} {l : List (FuncId × FnD)} (h1 : P.funcs[f]? = some d.fn) (h2 : d.fn.body = some d.code) (h : FnsOk P l) : FnsOk P ((f, d) :: l)
theorem FnsOk.mem {P : Program} {l : List (FuncId × FnD)} (h : FnsOk P l) : ∀ {f : FuncId} {d : FnD}, (f, d) ∈ l → P.funcs[f]? = some d.fn ∧ d.fn.body = some d.code := by
  induction h with
  | nil => intro f d h; cases h
  | cons h1 h2 _ ih =>
    intro f d h
    rcases List.mem_cons.1 h with h | h
    · cases h; exact ⟨h1, h2⟩
    · exact ih h
inductive ExtsOk (c : Ctx) : List (FuncId × Go.Ab.Spec) → Prop
  | nil : ExtsOk c []
  | cons {f : FuncId} {d : Go.Ab.Spec} {l : List (FuncId × Go.Ab.Spec)} (h1 : SpecSound c f d) (h : ExtsOk c l) : ExtsOk c ((f, d) :: l)
theorem ExtsOk.mem {c : Ctx} {l : List (FuncId × Go.Ab.Spec)} (h : ExtsOk c l) : ∀ {f : FuncId} {d : Go.Ab.Spec}, (f, d) ∈ l → SpecSound c f d := by
  induction h with
  | nil => intro f d h; cases h
  | cons h1 _ ih =>
    intro f d h
    rcases List.mem_cons.1 h with h | h
    · cases h; exact h1
    · exact ih h
theorem walk_of_spec {c : Ctx} {f : FuncId} {sp : Spec} (hs : SpecSound c f sp) {args : List SV} {tg : Tag} {S' : St} (h : (sp.res args ⟨[], []⟩).is (.ret (.bool true, tg), S')) {fn : Func} {k : Code} (hf : c.P.funcs[f]? = some fn) (hb : fn.body = some k)
    (hn : (fn.name == "runtime.NumGoroutine") = false) (vs : Array Value) (W : World) (hg : GlobOk c W ∧ KnowOk c W) (ha : RArgs (ghost0 W) [] args vs) : Calls c.P f vs W fun e w' => e = .returned (.bool true) ∧ Below W.heap.size W w' := by
  rcases hs args _ _ h ⟨(· < W.heap.size), (ghost0 W).I⟩ W (ghost0 W) W vs (inv0 hg) ha with ⟨_, hc⟩ | ⟨v, w', hr, _⟩
  · refine hc.mono fun e w' ⟨G', i', _, ho⟩ => ?_
    cases e with
    | returned v =>
      have h1 : R G' (.bool true) v := ho.1
      cases h1
      exact ⟨rfl, i'.below.os, i'.below.tape, i'.below.output, i'.below.size, i'.below.block⟩
    | panicked => exact ho.elim
    | outgrown => exact ho.elim
  · rw [enter_run hf hn hb] at hr; cases hr
theorem walk_of_tree {L : Lay} (hL : L.Fits) {f : FuncId} {d : FnD} (hd : L.fns f = some d) {args : List SV} {tg : Tag} {S' : St} (h : (d.begin .jump args ⟨[], []⟩).wp L.ev f (fun o' => o' = (.ret (.bool true, tg), S')))
    (vs : Array Value) (W : World) (hg : GlobOk L.c W ∧ KnowOk L.c W) (ha : RArgs (ghost0 W) [] args vs) : Calls L.c.P f vs W fun e w' => e = .returned (.bool true) ∧ Below W.heap.size W w' := by
  obtain ⟨n, hn⟩ := run_spec h
  obtain ⟨h1, h2⟩ := hL.fns f d hd
  exact walk_of_spec (spec_sound hL hd n) hn h1 h2 (hL.hname f _ h1) vs W hg ha
/-- a function of nothing that answers true -/
def specTrue : Go.Ab.Spec := ⟨KT.no, fun args S => match args, S with
  | [], ⟨[], []⟩ => .ret (.bool true, .no) ⟨[], []⟩
  | _, _ => .fail⟩
theorem specTrue_sound {c : Ctx} {call : CallFn} (hs : CallSound c call) {f : FuncId} (h : call f [] ⟨[], []⟩ = some (.ret (.bool true, .no), ⟨[], []⟩)) : SpecSound c f specTrue := by
  intro args S p hp B w0 G w vs inv ha
  unfold specTrue at hp
  simp only at hp
  split at hp
  · cases hp
    exact hs f [] _ _ _ h B w0 G w vs inv ha
  · exact hp.elim
end Go.Ab
end
section
/- alias=Try -/
open Go Go.Ab
namespace Go.Proofs.Ytdiphholophdcaa.T
def dropT : Nat → List (List Nat)
  | 2 => [[0]]
  | 3 => [[2], [8, 9, 10, 11, 12], [], [13], [15, 16], [17, 18, 19, 20, 21, 22], [6, 7, 23, 24, 25, 26, 27, 28, 29, 30, 31, 32], [], [34]]
  | 4 => [[0, 1, 2, 6], [5, 17, 18, 19, 20], [21, 22, 23, 24], [4, 25, 26, 27, 28, 29, 30, 31, 32, 33], [], [34], [36, 37], [38, 39], [16, 40, 41, 42, 43, 44, 45, 46, 47, 48, 49, 50, 51, 52, 53, 54, 55, 56, 57, 58, 59, 60, 61, 62, 63, 64, 65, 66, 67, 68, 69, 70, 71, 72, 73, 74, 75, 76, 77, 78, 79, 80, 81, 82, 83, 84, 85, 86, 87], [], [89, 90], [92, 93], [3, 11, 13, 94, 95, 96, 97, 98, 99, 100, 101, 102, 103, 104, 105, 106, 107, 108, 109, 110, 111, 112, 113]]
  | 5 => [[0, 6], [11, 12], [13, 14], [16, 17], [2, 18, 19, 20, 21, 22, 23, 24, 25, 26, 27, 28, 29], [1, 3, 7, 8, 9, 10, 30, 31, 32, 33, 34, 35, 36, 37, 38, 39, 40, 41, 42, 43, 44, 45, 46, 47, 48, 49, 50, 51, 52, 53, 54]]
  | 6 => [[3], [0, 4, 5, 6, 7]]
  | 7 => [[4, 5], [9, 10, 11, 12, 13, 14, 15, 16, 17, 18, 19, 20, 21, 22, 23, 24, 25, 26], [0], [29], [6, 7, 30, 31, 32, 33], [35], [8, 36], [38], [6, 7, 8, 39, 40, 41, 42, 43, 44, 45], [47], [6, 48], [50], [7, 51], [53], [1, 54, 55, 56, 57, 58, 59, 60, 61, 62, 63], [65], [1, 66, 67, 68, 69, 70, 71], [73], [1, 6, 7, 8, 74, 75, 76, 77, 78, 79, 80, 81, 82, 83, 84, 85, 86, 87, 88, 89, 90, 91], [93], [1, 94, 95, 96, 97, 98, 99], [101], [1, 102, 103, 104, 105, 106, 107], [109], [1, 110, 111, 112, 113, 114, 115], [27, 117], [1, 8, 118, 119, 120, 121, 122, 123, 124, 125, 126, 127, 128, 129, 130, 131, 132, 133, 134], []]
  | 8 => [[0, 4], [1, 2, 5, 6, 7]]
  | 9 => [[0], [4, 5, 6, 7, 8], [1, 2, 3, 9, 10, 11, 12, 13, 14, 15, 16, 17, 18, 19, 20, 21, 22, 23, 24, 25, 26, 27, 28]]
  | 10 => [[0], [5], [], [6], [8, 9], [10, 11, 12, 13, 14, 15, 16, 17, 18, 19, 20, 21], [3, 22]]
  | 11 => [[0], [1, 2, 3, 7, 8, 9, 10]]
  | 12 => [[0], [1, 3, 4]]
  | 13 => [[0, 1], [2, 3, 5, 6, 7]]
  | 14 => [[0, 2], [], [1], [], [9], [5, 10, 11, 12, 13], [14], [3, 15]]
  | 15 => [[0, 2], [], [5], [6, 7], [9], [10, 11], [], [], [14], [15, 16, 17, 18], [20, 21, 22], [24], [4, 25, 26, 27], [28], [29], [3, 30]]
  | 16 => [[5, 6], [13, 14, 15, 16, 17, 18, 19, 20, 21, 22, 23, 24, 25], [27], [0, 1, 28, 29, 30, 31, 32], [33, 34], [], [36, 37, 38, 39, 40, 41, 42], [], [], [10, 43, 44, 45, 46, 47], [], [49, 50, 51, 52, 53], [54], [12, 56, 57], [11, 58, 59, 60], [8], [62, 63], [7, 9, 64, 65, 66, 67, 68, 69]]
  | 17 => [[0, 2], [7, 8, 9], [1, 10, 11, 12], [], [14, 15, 16], [], [17], [19, 20], [21, 22, 23, 24, 25], [27, 28, 29, 30, 31, 32, 33, 34, 35, 36, 37, 38, 39, 40, 41, 42, 43], [45, 46, 47], [48, 49, 50, 51, 52], [4, 53, 54, 55, 56]]
  | 18 => [[3], [], [0, 7, 8], [], [9, 10, 11], [13, 14], [15, 16, 17, 18, 19, 20, 21, 22, 23], [4, 5, 24, 25, 26]]
  | 19 => [[0, 4], [1, 2, 5, 6, 7, 8, 9, 10, 11, 12, 13]]
  | 20 => [[0], [1, 8, 9], [10, 11, 12], [14, 15], [16, 17, 18, 19, 20, 21, 22, 23, 24], [3, 25]]
  | 21 => [[0], [], [], [6], [3, 7, 8, 9, 10, 11, 12], [13], [1, 14]]
  | 22 => [[0, 1], [], [], [8], [5, 9, 10, 11, 12, 13, 14, 15, 16], [17], [2, 18]]
  | 23 => [[2], [3, 4, 5, 6, 7, 8], [9, 10, 11, 12, 13, 14], [15, 16, 17, 18, 19], [20, 21, 22, 23], [24, 25, 26, 27], [28, 29, 30, 31], [0, 32, 33, 34]]
  | 24 => [[4], [5, 6], [0, 1, 7, 8, 9, 10, 11, 12, 13, 14, 15, 16], []]
  | 25 => [[4], [0, 1, 5, 6, 7]]
  | 26 => [[2], [0, 3, 4, 5, 6, 7, 8, 9, 10, 11, 12, 13]]
  | 27 => [[4], [0, 1, 5, 6, 7, 8, 9, 10, 11, 12, 13, 14, 15]]
  | 28 => [[3], [11], [5, 13, 14, 15, 16, 17, 18, 19, 20, 21, 22, 23, 24, 25, 26, 27], [6, 28], [30], [0, 31, 32, 33, 34, 35, 36, 37, 38, 39, 40], [4, 41, 42, 43, 44, 45], [6, 46], [48], [7, 49], [50, 51, 52, 53, 54], [9, 55], [57], [58], [59, 60, 61, 62, 63, 64, 65, 66, 67, 68, 69], [71, 72, 73, 74, 75, 76, 77], [0, 78, 79, 80, 81, 82], [9, 83], [85], [86, 87], [89], [8, 10, 90, 91, 92, 93]]
  | 29 => [[2], [0], [5], [], [7], [], [9], [], [11], [], [13], [], [15], [], [17], [], [19], [], [21], [], [23], [], [25], [], [3, 27], [], []]
  | 30 => [[], [0, 7, 8, 9, 10, 11, 12, 13], []]
  | 31 => [[4], [0, 1, 5, 6, 7]]
  | 32 => [[4], [0, 1, 5, 6, 7]]
  | 33 => [[4, 5, 6], [0, 1, 7, 8, 9, 10, 11, 12]]
  | 34 => [[2, 3], [5], [7, 8, 9, 10, 11, 12, 13], [14, 15, 16, 17, 18, 19, 20, 21, 22], [], [24, 25, 26, 27, 28, 29, 30], [0, 31, 32, 33, 34, 35, 36, 37, 38, 39, 40], [], [4, 42], [44], [], [41, 46], [], [47, 48, 49, 50, 51, 52, 53, 54, 55], [], [57, 58, 59, 60, 61, 62, 63], [0, 64, 65, 66, 67, 68, 69, 70, 71, 72, 73]]
  | 37 => [[4], [0, 1, 5, 6, 7, 8, 9, 10, 11, 12, 13, 14, 15, 16, 17]]
  | 38 => [[4, 5, 6], [8, 9, 10], [11], [0, 1, 7, 13, 14, 15, 16, 17, 18, 19, 20, 21], [0, 22]]
  | 39 => [[4], [14, 15], [17, 18, 19, 20, 21, 22, 23], [], [25, 26], [0, 1, 27, 28, 29, 30], [32, 33, 34, 35], [], [37, 38, 39, 40, 41, 42, 43, 44], [0, 1, 45, 46, 47], [48, 49], [50, 51], [], [52, 53, 54, 55, 56], [], [57, 58], [60, 61, 62, 63], [65, 66, 67, 68, 69, 70, 71], [72], [], [11, 74, 75, 76, 77], [78, 79, 80, 81, 82, 83, 84, 85, 86, 87, 88, 89, 90, 91, 92], [8, 94], [95, 96], [97, 98], [99, 100, 101, 102, 103, 104, 105, 106], [0, 1, 108, 109, 110, 111, 112], [113], [8, 12, 115, 116, 117], [], [118, 119, 120, 121, 122, 123, 124, 125, 126, 127, 128, 129, 130, 131], [0, 1, 133, 134, 135, 136, 137], [138], [], [8, 13, 140, 141, 142], []]
  | 41 => [[2], [0, 3, 4, 5]]
  | 42 => [[4], [11, 12, 13, 14, 15], [16, 17], [], [], [18, 19], [21, 22], [23, 24, 25, 26, 27, 28, 29], [30, 31, 32, 33, 34, 35, 36, 37, 38], [], [40], [41, 42, 43], [45, 46], [47, 48, 49, 50, 51, 52], [53, 54, 55, 56, 57, 58, 59, 60, 61, 62], [63, 64], [65, 66, 67, 68, 69, 70, 71, 72, 73, 74, 75, 76], [7, 10, 78, 79, 80], []]
  | 43 => [[2, 3], [], [], [9, 10, 11], [13, 14], [15, 16, 17, 18, 19, 20, 21], [], [0, 22, 23], [24], [26, 27], [28, 29], [31, 32, 33], [34, 35, 36], [4, 6, 37, 38]]
  | _ => []
def drop (f id : Nat) : List Nat := (dropT f).getD id []
/-- of a Builder's type: the byte's -/
def bty : TypeId → Option TypeId
  | 51 => some 5
  | _ => none
/-- types whose fields grow -/
def pre : TypeId → Bool
  | _ => false
noncomputable def cx : Ctx := { P := Try.prog, glob := fun _ => none, drop := drop, bty := bty }
def bodyOf (fn : Func) : Code := fn.body.getD .skip
theorem hm : cx.P.follows .mixedOrders = true := by kernel_rfl
theorem names_ok : Try.prog.funcs.all (fun fn => !(fn.name == "runtime.NumGoroutine")) = true := by kernel_rfl
theorem hname (f : FuncId) (fn : Func) (h : cx.P.funcs[f]? = some fn) : (fn.name == "runtime.NumGoroutine") = false := by
  have h1 := Array.all_eq_true'.1 names_ok fn (Array.mem_of_getElem? h)
  simpa using h1
end Go.Proofs.Ytdiphholophdcaa.T
end
section
/- CONTRACTS THAT ARE NOT OF THE RUN: functions without a body, and strings.Builder's copyCheck. -/
namespace Go.Ab
open Go.RowKit

/-- (*strings.Builder).copyCheck: nothing that the abstract run knows of turns -/
def specCopyCheck (tB u : TypeId) : Go.Ab.Spec := ⟨KT.no, fun args S => match args, S with
  | [(.ptr 0 0, .no)], ⟨[[(.bself t 0, .no), (.buf u' s, .tok 0)]], [n]⟩ => .need (t = tB ∧ u' = u) (.ret (.tup [], .no) ⟨[[(.bself t 0, .no), (.buf u' s, .tok 0)]], [n]⟩)
  | _, _ => .fail⟩

section
variable {c : Ctx}
theorem copyCheck_sound {f : FuncId} {tB u : TypeId}
    (enter : ∀ vs w, (callFunc f vs).run c.P w = .ok (.enter f vs) w)
    (fresh : ∀ (b : Nat) (w : World), w.cell? ⟨b, 0, none⟩ = some (.pointer none) → w.shape? b = some (tB, 2) → w.frozen? ⟨b, 0, none⟩ = false →
      Calls c.P f #[.pointer (some ⟨b, 0, none⟩)] w fun e w' => e = .returned (.tuple #[]) ∧ w' = w.setCell ⟨b, 0, none⟩ (.pointer (some ⟨b, 0, none⟩)))
    (used : ∀ (b : Nat) (w : World), w.cell? ⟨b, 0, none⟩ = some (.pointer (some ⟨b, 0, none⟩)) →
      Calls c.P f #[.pointer (some ⟨b, 0, none⟩)] w fun e w' => e = .returned (.tuple #[]) ∧ w' = w) : SpecSound c f (specCopyCheck tB u) := by
  intro args S p hp B w0 G w vs inv ha
  unfold specCopyCheck at hp
  simp only at hp
  split at hp
  · rename_i t u' s n
    obtain ⟨⟨rfl, rfl⟩, hp⟩ := hp
    cases hp
    obtain ⟨hl, hr⟩ := ha
    have h0 := hr 0 (by simp) (by rw [← hl]; simp)
    have hvs : vs = #[vs[0]'(by rw [← hl]; simp)] := by
      apply Array.ext
      · exact hl.symm
      · intro i h1 h2
        have : i = 0 := by simpa using h2
        subst this; rfl
    have h1 := h0.1
    simp only [List.getElem_cons_zero] at h1
    rw [hvs]
    generalize vs[0]'(by rw [← hl]; simp) = v0 at h1
    cases h1 with
    | ptr _ _ d hφ =>
      obtain ⟨hB, us, tt, fr, hu, hus, hfr, hR⟩ := inv.blk 0 d _ rfl hφ
      have hus2 : 2 ≤ us.size := by simpa using hus
      have hc0 := hR 0 (by simp) (by omega)
      have hb0 := hc0.1
      simp only [List.getElem_cons_zero] at hb0
      have hty : G.ty d = some (t, 2) := by
        generalize us[0]'(by omega) = v1 at hb0
        cases hb0 with
        | bself0 _ _ d' h1 h2 => rw [hφ] at h1; cases h1; exact h2
        | bself _ _ d' h1 h2 => rw [hφ] at h1; cases h1; exact h2
      obtain ⟨us', fr', q1, q2, _⟩ := inv.ty d t 2 hty
      rw [hu] at q1
      cases q1
      have hcell : w.cell? ⟨d, 0, none⟩ = some (us[0]'(by omega)) := by rw [cell_of_heap hu, Array.getElem?_eq_getElem (by omega)]
      refine .inl ⟨enter _ _, ?_⟩
      generalize hv1 : us[0]'(by omega) = v1 at hb0 hcell
      cases hb0 with
      | bself0 =>
        refine (fresh d w hcell (by simp [World.shape?, hu, q2]) (frozen_of hu (hfr 0 (by simp)))).mono ?_
        rintro e w' ⟨rfl, rfl⟩
        have hw := setCells_spec d t fr [.pointer (some ⟨d, 0, none⟩)] 0 w us hu
        have e1 : w.setCells d 0 [.pointer (some ⟨d, 0, none⟩)] = w.setCell ⟨d, 0, none⟩ (.pointer (some ⟨d, 0, none⟩)) := rfl
        rw [e1] at hw
        refine ⟨G, ?_, .refl _ _, RS.no (.tup [] #[] rfl (fun i h => absurd h (by simp)))⟩
        have := inv.blkSet (b := 0) (cells' := [(.bself t 0, .no), (.buf u' s, .tok 0)]) rfl hφ hu hw (putRow_size _ _ _) rfl (inv.low 0 _ rfl) (inv.tag 0 _ rfl) (fun i h h' => by
          have e2 := putRow_get us 0 #[.pointer (some ⟨d, 0, none⟩)] i
          rw [Array.getElem?_eq_getElem h'] at e2
          match i, h, h', e2 with
          | 0, h, h', e2 =>
            rw [if_pos (by simp; omega)] at e2
            have e3 := Option.some.inj e2
            rw [e3]
            exact RS.no (.bself t 0 d hφ hty)
          | 1, h, h', e2 =>
            rw [if_neg (by simp), Array.getElem?_eq_getElem (by omega)] at e2
            rw [Option.some.inj e2]
            exact hR 1 h (by omega))
        simpa using this
      | bself _ _ d' h1 h2 =>
        rw [hφ] at h1
        cases h1
        refine (used d w hcell).mono ?_
        rintro e w' ⟨rfl, rfl⟩
        exact ⟨G, inv, .refl _ _, RS.no (.tup [] #[] rfl (fun i h => absurd h (by simp)))⟩
  · exact hp.elim

/-- internal/bytealg.IndexByteString -/
def specIndexByteString : Go.Ab.Spec := ⟨KT.no, fun args S => match args, S with
  | [(.str s, .no), (.int .u8 c, .no)], ⟨[], []⟩ => .name (Lib.indexByte s c.toNat.toUInt8) fun r => .ret (.int .i64 r, .no) ⟨[], []⟩
  | _, _ => .fail⟩
theorem indexByteString_sound {f : FuncId} {fn : Func} (hf : c.P.funcs[f]? = some fn) (hname : (fn.name == "runtime.NumGoroutine") = false) (hb : fn.body.isNone = true) (hn : Extern.findNext fn = none)
    (he : Extern.find fn = some Extern.BytealgIndexByte.indexByte) : SpecSound c f specIndexByteString := by
  intro args S p hp B w0 G w vs inv ha
  unfold specIndexByteString at hp
  simp only at hp
  split at hp
  · rename_i s n
    have hp := hp _ rfl
    cases hp
    obtain ⟨hl, hr⟩ := ha
    have h0 := (hr 0 (by simp) (by rw [← hl]; simp)).1
    have h1 := (hr 1 (by simp) (by rw [← hl]; simp)).1
    have hvs : vs = #[vs[0]'(by rw [← hl]; simp), vs[1]'(by rw [← hl]; simp)] := by
      apply Array.ext
      · exact hl.symm
      · intro i a b
        have : i = 0 ∨ i = 1 := by
          have : i < 2 := by simpa using b
          omega
        rcases this with rfl | rfl <;> rfl
    simp only [List.getElem_cons_zero, List.getElem_cons_succ] at h0 h1
    rw [hvs]
    generalize vs[0]'(by rw [← hl]; simp) = v0 at h0
    generalize vs[1]'(by rw [← hl]; simp) = v1 at h1
    cases h0
    cases h1
    refine .inr ⟨.int .i64 (Lib.indexByte s n.toNat.toUInt8), w, ?_, G, inv, .refl _ _, RS.no (.int _ _)⟩
    rw [run_callFunc_extern hf hname hb hn he, Lib.run_indexByteString]
    rfl
  · exact hp.elim
end
end Go.Ab
end
section
open Go Go.Ab
namespace Go.Proofs.Ytdiphholophdcaa.T
/-- of a function that is not reached nothing is said -/
def specFail : Go.Ab.Spec := ⟨KT.no, fun _ _ => .fail⟩
theorem specFail_sound {c : Ctx} {f : FuncId} : SpecSound c f specFail := fun _ _ _ h => h.elim
end Go.Proofs.Ytdiphholophdcaa.T
end
section
set_option maxRecDepth 20000
open Go Go.Ab
namespace Go.Proofs.Ytdiphholophdcaa.T
noncomputable def c5_0 : Cut := ⟨[], 0, 0, [], ⟨spr 55 0 [(0, .agg [.int .u64, .int .u64, .int .u64, .int .u64] .no), (1, .c .str .no), (2, .c .str .no)], [], [], []⟩⟩
noncomputable def o5x0 : OSh := ⟨.rets [.c .bool .no], [], []⟩
noncomputable def d5 : FnD := ⟨Try.f5, bodyOf Try.f5, .no, .plain, [c5_0], [o5x0]⟩
noncomputable def c10_0 : Cut := ⟨[], 0, 0, [], ⟨spr 23 0 [(0, .agg [.int .u64, .int .u64, .int .u64, .int .u64] .no)], [], [], []⟩⟩
noncomputable def c10_1 : Cut := ⟨[0, 1, 0, 1, 1], 0, 0, [], ⟨spr 23 0 [(1, .c (.fix (.ptr 0 0)) .no), (2, .c (.fix (.ptr 1 0)) .no), (3, .c (.fix (.ptr 2 0)) .no), (4, .c (.int .i64) .no)], [], [.cells [.c (.int .u64) .no, .c (.int .u64) .no, .c (.int .u64) .no, .c (.int .u64) .no], .row, .row], []⟩⟩
noncomputable def o10x0 : OSh := ⟨.rets [.c .any .no], [], []⟩
noncomputable def d10 : FnD := ⟨Try.f10, bodyOf Try.f10, .big, .great, [c10_0, c10_1], [o10x0]⟩
noncomputable def c15_0 : Cut := ⟨[], 0, 0, [], ⟨spr 31 0 [(0, .agg [.int .u64, .int .u64, .int .u64, .int .u64] .no)], [], [], []⟩⟩
noncomputable def c15_1 : Cut := ⟨[0, 1, 0, 1, 1, 1, 1], 0, 0, [], ⟨spr 31 0 [(1, .c (.fix (.ptr 0 0)) .no), (3, .c (.fix (.ptr 1 0)) .no), (8, .c .bool .no), (12, .c (.int .i64) .no)], [], [.cells [.c (.int .u64) .no, .c (.int .u64) .no, .c (.int .u64) .no, .c (.int .u64) .no], .cells [.c (.fix (.bself 51 1)) .no, .c (.buf 5) (.tok 0)]], [.len 6]⟩⟩
noncomputable def o15x0 : OSh := ⟨.rets [.c .str .no], [], []⟩
noncomputable def d15 : FnD := ⟨Try.f15, bodyOf Try.f15, .no, .plain, [c15_0, c15_1], [o15x0]⟩
noncomputable def c16_0 : Cut := ⟨[], 0, 0, [], ⟨spr 70 0 [(0, .c .str .no), (1, .c (.int .i64) .no)], [], [], []⟩⟩
noncomputable def c16_1 : Cut := ⟨[0, 1, 0, 1, 1, 1, 1, 1, 1], 0, 0, [], ⟨spr 70 0 [(4, .c (.fix (.ptr 0 0)) .no), (7, .c (.fix (.ptr 1 0)) .no), (8, .c .bool .no), (9, .c (.fix (.ptr 2 0)) .no), (10, .c .bool .no), (26, .c .bool .no), (35, .c .bool .no)], [], [.cells [.c (.int .u64) .no, .c (.int .u64) .no, .c (.int .u64) .no, .c (.int .u64) .no], .cells [.c .str .no, .c (.int .i64) .no], .cells [.c (.int .u64) .no, .c (.int .u64) .no, .c (.int .u64) .no, .c (.int .u64) .no]], []⟩⟩
noncomputable def o16x0 : OSh := ⟨.rets [.agg [.int .u64, .int .u64, .int .u64, .int .u64] .no, .c (.int .i64) .no, .c (.int .i64) .no], [], []⟩
noncomputable def d16 : FnD := ⟨Try.f16, bodyOf Try.f16, .no, .plain, [c16_0, c16_1], [o16x0]⟩
noncomputable def c17_0 : Cut := ⟨[], 0, 0, [], ⟨spr 57 0 [(0, .agg [.int .u64, .int .u64, .int .u64, .int .u64] .no)], [], [], []⟩⟩
noncomputable def c17_1 : Cut := ⟨[1, 1, 1, 1], 0, 0, [4], ⟨spr 57 0 [(3, .c (.fix (.ptr 1 0)) .no), (4, .c .sl (.tok 0)), (5, .c .bool .no), (13, .c .bool .no)], [], [.cells [.c (.int .u64) .no, .c (.int .u64) .no, .c (.int .u64) .no, .c (.int .u64) .no], .row], [.len 0]⟩⟩
noncomputable def c17_2 : Cut := ⟨[0, 1, 0, 1, 1, 1, 1], 0, 0, [], ⟨spr 57 0 [(3, .c (.fix (.ptr 1 0)) .no), (4, .c .sl (.tok 0)), (5, .c .bool .no), (6, .c (.int .i64) .no), (13, .c .bool .no)], [], [.cells [.c (.int .u64) .no, .c (.int .u64) .no, .c (.int .u64) .no, .c (.int .u64) .no], .row], [.len 0]⟩⟩
noncomputable def c17_3 : Cut := ⟨[0, 1, 0, 0, 1, 0, 0, 1, 0, 1, 1, 1, 1], 0, 0, [], ⟨spr 57 0 [(3, .c (.fix (.ptr 1 0)) .no), (4, .c .sl (.tok 0)), (5, .c .bool .no), (6, .c (.int .i64) .no), (13, .c .bool .no), (18, .c .bool .no), (26, .c .bool .no)], [], [.cells [.c (.int .u64) .no, .c (.int .u64) .no, .c (.int .u64) .no, .c (.int .u64) .no], .row], [.len 0]⟩⟩
noncomputable def c17_4 : Cut := ⟨[1, 1, 0, 0, 1, 0, 1, 1, 1, 1], 0, 0, [], ⟨spr 57 0 [(3, .c (.fix (.ptr 1 0)) .no), (4, .c .sl (.tok 0)), (5, .c .bool .no), (6, .c (.int .i64) .no), (13, .c .bool .no), (18, .c .bool .no), (26, .c .bool .no)], [], [.cells [.c (.int .u64) .no, .c (.int .u64) .no, .c (.int .u64) .no, .c (.int .u64) .no], .row], [.len 0]⟩⟩
noncomputable def c17_5 : Cut := ⟨[0, 1, 0, 0, 1, 0, 0, 1, 0, 0, 1, 0, 1, 1, 1, 1], 0, 0, [], ⟨spr 57 0 [(3, .c (.fix (.ptr 1 0)) .no), (4, .c .sl (.tok 0)), (5, .c .bool .no), (6, .c (.int .i64) .no), (13, .c .bool .no), (18, .c .bool .no), (26, .c .bool .no), (44, .c .bool .no)], [], [.cells [.c (.int .u64) .no, .c (.int .u64) .no, .c (.int .u64) .no, .c (.int .u64) .no], .row], [.len 0]⟩⟩
noncomputable def c17_6 : Cut := ⟨[1, 0, 1, 0, 0, 1, 0, 0, 1, 0, 1, 1, 1, 1], 0, 0, [], ⟨spr 57 0 [(3, .c (.fix (.ptr 1 0)) .no), (4, .c .sl (.tok 0)), (5, .c .bool .no), (6, .c (.int .i64) .no), (13, .c .bool .no), (18, .c .bool .no), (26, .c .bool .no), (44, .c .bool .no)], [], [.cells [.c (.int .u64) .no, .c (.int .u64) .no, .c (.int .u64) .no, .c (.int .u64) .no], .row], [.len 0]⟩⟩
noncomputable def o17x0 : OSh := ⟨.rets [.c .str .no], [], []⟩
noncomputable def d17 : FnD := ⟨Try.f17, bodyOf Try.f17, .no, .plain, [c17_0, c17_1, c17_2, c17_3, c17_4, c17_5, c17_6], [o17x0]⟩
noncomputable def c19_0 : Cut := ⟨[], 0, 0, [], ⟨spr 14 0 [(0, .agg [.int .u64, .int .u64, .int .u64, .int .u64] .no), (1, .c (.int .u8) .no)], [], [], []⟩⟩
noncomputable def o19x0 : OSh := ⟨.rets [.c .bool .no], [], []⟩
noncomputable def d19 : FnD := ⟨Try.f19, bodyOf Try.f19, .no, .plain, [c19_0], [o19x0]⟩
noncomputable def c20_0 : Cut := ⟨[], 0, 0, [], ⟨spr 26 0 [(0, .agg [.int .u64, .int .u64, .int .u64, .int .u64] .no), (1, .c (.int .u8) .no), (2, .c (.int .u8) .no)], [], [], []⟩⟩
noncomputable def c20_1 : Cut := ⟨[0, 1, 0, 1], 0, 0, [], ⟨spr 26 0 [(2, .c (.int .u8) .no), (3, .c (.fix (.ptr 0 0)) .no), (6, .c (.fix (.ptr 1 0)) .no), (7, .c (.int .i64) .no)], [], [.cells [.c (.int .u64) .no, .c (.int .u64) .no, .c (.int .u64) .no, .c (.int .u64) .no], .cells [.c (.int .u64) .no, .c (.int .u64) .no, .c (.int .u64) .no, .c (.int .u64) .no]], []⟩⟩
noncomputable def o20x0 : OSh := ⟨.rets [.agg [.int .u64, .int .u64, .int .u64, .int .u64] .no], [], []⟩
noncomputable def d20 : FnD := ⟨Try.f20, bodyOf Try.f20, .no, .plain, [c20_0, c20_1], [o20x0]⟩
noncomputable def c21_0 : Cut := ⟨[], 0, 0, [], ⟨spr 15 0 [(0, .agg [.int .u64, .int .u64, .int .u64, .int .u64] .no)], [], [], []⟩⟩
noncomputable def c21_1 : Cut := ⟨[0, 1, 0, 1], 0, 0, [], ⟨spr 15 0 [(1, .c (.fix (.ptr 0 0)) .no), (2, .c (.fix (.ptr 1 0)) .no), (4, .c (.int .i64) .no)], [], [.cells [.c (.int .u64) .no, .c (.int .u64) .no, .c (.int .u64) .no, .c (.int .u64) .no], .cells [.c (.int .u64) .no, .c (.int .u64) .no, .c (.int .u64) .no, .c (.int .u64) .no]], []⟩⟩
noncomputable def o21x0 : OSh := ⟨.rets [.agg [.int .u64, .int .u64, .int .u64, .int .u64] .no], [], []⟩
noncomputable def d21 : FnD := ⟨Try.f21, bodyOf Try.f21, .no, .plain, [c21_0, c21_1], [o21x0]⟩
noncomputable def c22_0 : Cut := ⟨[], 0, 0, [], ⟨spr 19 0 [(0, .agg [.int .u64, .int .u64, .int .u64, .int .u64] .no), (1, .agg [.int .u64, .int .u64, .int .u64, .int .u64] .no)], [], [], []⟩⟩
noncomputable def c22_1 : Cut := ⟨[0, 1, 0, 1], 0, 0, [], ⟨spr 19 0 [(2, .c (.fix (.ptr 0 0)) .no), (3, .c (.fix (.ptr 1 0)) .no), (4, .c (.fix (.ptr 2 0)) .no), (6, .c (.int .i64) .no)], [], [.cells [.c (.int .u64) .no, .c (.int .u64) .no, .c (.int .u64) .no, .c (.int .u64) .no], .cells [.c (.int .u64) .no, .c (.int .u64) .no, .c (.int .u64) .no, .c (.int .u64) .no], .cells [.c (.int .u64) .no, .c (.int .u64) .no, .c (.int .u64) .no, .c (.int .u64) .no]], []⟩⟩
noncomputable def o22x0 : OSh := ⟨.rets [.agg [.int .u64, .int .u64, .int .u64, .int .u64] .no], [], []⟩
noncomputable def d22 : FnD := ⟨Try.f22, bodyOf Try.f22, .no, .plain, [c22_0, c22_1], [o22x0]⟩
noncomputable def c24_0 : Cut := ⟨[], 1, 1, [], ⟨spr 17 0 [(0, .c (.fix (.ptr 0 0)) .no), (1, .c (.int .u8) .no)], [], [.cells [.c (.fix (.bself 51 0)) .no, .c (.buf 5) (.tok 0)]], [.len 1]⟩⟩
noncomputable def o24x0 : OSh := ⟨.rets [.c (.fix .nili) .no], [.cells [.c (.fix (.bself 51 0)) .no, .c (.buf 5) (.tok 0)]], [.len 0]⟩
noncomputable def d24 : FnD := ⟨Try.f24, bodyOf Try.f24, .no, .plain, [c24_0], [o24x0]⟩
noncomputable def c25_0 : Cut := ⟨[], 0, 0, [], ⟨spr 8 0 [(0, .c .str .no), (1, .c (.int .u8) .no)], [], [], []⟩⟩
noncomputable def o25x0 : OSh := ⟨.rets [.c (.int .i64) .no], [], []⟩
noncomputable def d25 : FnD := ⟨Try.f25, bodyOf Try.f25, .no, .plain, [c25_0], [o25x0]⟩
noncomputable def c26_0 : Cut := ⟨[], 1, 1, [], ⟨spr 14 0 [(0, .c (.fix (.ptr 0 0)) .no)], [], [.cells [.c (.fix (.bself 51 0)) .no, .c (.buf 5) (.tok 0)]], [.len 0]⟩⟩
noncomputable def o26x0 : OSh := ⟨.rets [.c .str .no], [.cells [.c (.fix (.bself 51 0)) .no, .c (.buf 5) (.tok 0)]], [.len 1]⟩
noncomputable def d26 : FnD := ⟨Try.f26, bodyOf Try.f26, .no, .plain, [c26_0], [o26x0]⟩
noncomputable def c27_0 : Cut := ⟨[], 1, 0, [], ⟨spr 16 0 [(0, .c (.fix (.ptr 0 0)) .no), (1, .c .str .no)], [], [.cells [.c .str .no, .c (.int .i64) .no]], []⟩⟩
noncomputable def o27x0 : OSh := ⟨.rets [.c .bool .no], [.cells [.c .str .no, .c (.int .i64) .no]], []⟩
noncomputable def d27 : FnD := ⟨Try.f27, bodyOf Try.f27, .no, .plain, [c27_0], [o27x0]⟩
noncomputable def c28_0 : Cut := ⟨[], 1, 0, [], ⟨spr 94 0 [(0, .c (.fix (.ptr 0 0)) .no)], [], [.cells [.c .str .no, .c (.int .i64) .no]], []⟩⟩
noncomputable def o28x0 : OSh := ⟨.rets [.agg [.int .u64, .int .u64, .int .u64, .int .u64] .no, .c (.int .i64) .no], [.cells [.c .str .no, .c (.int .i64) .no]], []⟩
noncomputable def d28 : FnD := ⟨Try.f28, bodyOf Try.f28, .no, .plain, [c28_0], [o28x0]⟩
noncomputable def c31_0 : Cut := ⟨[], 0, 0, [], ⟨spr 8 0 [(0, .c .str .no), (1, .c (.int .u8) .no)], [], [], []⟩⟩
noncomputable def o31x0 : OSh := ⟨.rets [.c (.int .i64) .no], [], []⟩
noncomputable def d31 : FnD := ⟨Try.f31, bodyOf Try.f31, .no, .plain, [c31_0], [o31x0]⟩
noncomputable def c32_0 : Cut := ⟨[], 0, 0, [], ⟨spr 8 0 [(0, .c .str .no), (1, .c .str .no)], [], [], []⟩⟩
noncomputable def o32x0 : OSh := ⟨.rets [.c .bool .no], [], []⟩
noncomputable def d32 : FnD := ⟨Try.f32, bodyOf Try.f32, .no, .plain, [c32_0], [o32x0]⟩
noncomputable def c34_0 : Cut := ⟨[], 1, 0, [], ⟨spr 74 0 [(0, .c (.fix (.ptr 0 0)) .no)], [], [.cells [.c .str .no, .c (.int .i64) .no]], []⟩⟩
noncomputable def o34x0 : OSh := ⟨.rets [.c (.int .u8) .no, .c .bool .no], [.cells [.c .str .no, .c (.int .i64) .no]], []⟩
noncomputable def d34 : FnD := ⟨Try.f34, bodyOf Try.f34, .no, .plain, [c34_0], [o34x0]⟩
noncomputable def c37_0 : Cut := ⟨[], 0, 0, [], ⟨spr 18 0 [(0, .c .str .no), (1, .c .str .no)], [], [], []⟩⟩
noncomputable def o37x0 : OSh := ⟨.rets [.c .bool .no], [], []⟩
noncomputable def d37 : FnD := ⟨Try.f37, bodyOf Try.f37, .no, .plain, [c37_0], [o37x0]⟩
/-- the functions, and their data -/
noncomputable def fns : FuncId → Option FnD := fnsL [(5, d5), (10, d10), (15, d15), (16, d16), (17, d17), (19, d19), (20, d20), (21, d21), (22, d22), (24, d24), (25, d25), (26, d26), (27, d27), (28, d28), (31, d31), (32, d32), (34, d34), (37, d37)]
noncomputable def ext : FuncId → Option Go.Ab.Spec := extL [(9, specTrue), (30, specCopyCheck 51 5), (33, specFail), (36, specIndexByteString)]
noncomputable def lay : Lay := ⟨cx, pre, fns, ext⟩
theorem h5 : lay.fns 5 = some d5 := by kernel_rfl
theorem h10 : lay.fns 10 = some d10 := by kernel_rfl
theorem h15 : lay.fns 15 = some d15 := by kernel_rfl
theorem h16 : lay.fns 16 = some d16 := by kernel_rfl
theorem h17 : lay.fns 17 = some d17 := by kernel_rfl
theorem h19 : lay.fns 19 = some d19 := by kernel_rfl
theorem h20 : lay.fns 20 = some d20 := by kernel_rfl
theorem h21 : lay.fns 21 = some d21 := by kernel_rfl
theorem h22 : lay.fns 22 = some d22 := by kernel_rfl
theorem h24 : lay.fns 24 = some d24 := by kernel_rfl
theorem h25 : lay.fns 25 = some d25 := by kernel_rfl
theorem h26 : lay.fns 26 = some d26 := by kernel_rfl
theorem h27 : lay.fns 27 = some d27 := by kernel_rfl
theorem h28 : lay.fns 28 = some d28 := by kernel_rfl
theorem h31 : lay.fns 31 = some d31 := by kernel_rfl
theorem h32 : lay.fns 32 = some d32 := by kernel_rfl
theorem h34 : lay.fns 34 = some d34 := by kernel_rfl
theorem h37 : lay.fns 37 = some d37 := by kernel_rfl
end Go.Proofs.Ytdiphholophdcaa.T
end
