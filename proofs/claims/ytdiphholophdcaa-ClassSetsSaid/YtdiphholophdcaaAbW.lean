import Derived.Test.YtdiphholophdcaaAbF2
set_option linter.unusedVariables false
set_option linter.unusedSimpArgs false
/- CONDITIONS: what must hold that code comes to Q; every part of the state that the text makes lies open. -/
namespace Go.Ab
open Go.RowKit

def optP {α : Type} (x : Option α) (K : α → Prop) : Prop := match x with
  | some v => K v
  | none => False
theorem optP_iff {α : Type} {x : Option α} {K : α → Prop} : optP x K ↔ ∃ v, x = some v ∧ K v := by
  cases x <;> simp [optP]

/-- a condition that the code alone decides -/
def onlyIf (b : Bool) (p : Prop) : Prop := match b with
  | true => p
  | false => False
theorem onlyIf_iff {b : Bool} {p : Prop} (h : onlyIf b p) : b = true ∧ p := by
  cases b with
  | true => exact ⟨rfl, h⟩
  | false => exact h.elim

/-- a value under a new name -/
def named (x : SV) (K : SV → Prop) : Prop := match x with
  | (.int k e, tg) => ∀ r, r = e → K (.int k r, tg)
  | (.bool e, tg) => ∀ r, r = e → K (.bool r, tg)
  | (.str e, tg) => ∀ r, r = e → K (.str r, tg)
  | x => K x
theorem named_iff {x : SV} {K : SV → Prop} (h : named x K) : K x := by
  unfold named at h
  split at h
  · exact h _ rfl
  · exact h _ rfl
  · exact h _ rfl
  · exact h

def andI (k : IntKind) (x y : Int) : Int := k.wrap (BitVec.ofInt k.bits x &&& BitVec.ofInt k.bits y).toNat
def orI (k : IntKind) (x y : Int) : Int := k.wrap (BitVec.ofInt k.bits x ||| BitVec.ofInt k.bits y).toNat
def xorI (k : IntKind) (x y : Int) : Int := k.wrap (BitVec.ofInt k.bits x ^^^ BitVec.ofInt k.bits y).toNat
/-- bounds, under names (a number's kind stays clear where the condition is printed) -/
def inR (n : Int) (m : Nat) : Prop := 0 ≤ n ∧ n < m
def inLo (l : Int) (m : Nat) : Prop := 0 ≤ l ∧ l ≤ m
def inLoHi (l h : Int) (m : Nat) : Prop := 0 ≤ l ∧ l ≤ h ∧ h ≤ m
def nonneg (b : Int) : Prop := 0 ≤ b
def nonzero (b : Int) : Prop := b ≠ 0
/-- a binary operation's condition -/
def binP (c : Ctx) (op : BinOp) (t : TypeId) (x y : AV) (K : SV → Prop) : Prop :=
  match op, x, y with
  | .quo, .int k a, .int k' b => nonzero b ∧ onlyIf (decide (k = k')) (named (.int k (k.wrap (a.tdiv b)), .no) K)
  | .rem, .int k a, .int k' b => nonzero b ∧ onlyIf (decide (k = k')) (named (.int k (a.tmod b), .no) K)
  | .shl, .int k a, .int _ b => nonneg b ∧ named (.int k (k.wrap (a * 2 ^ (min b.toNat k.bits))), .no) K
  | .shr, .int k a, .int _ b => nonneg b ∧ named (.int k (a.fdiv (2 ^ (min b.toNat k.bits))), .no) K
  | .add, .str a, .str b => a.length + b.length ≤ maxStr ∧ named (.str (a ++ b), .no) K
  | .and, .int k a, .int k' b => onlyIf (decide (k = k')) (∀ r, r = andI k a b → K (.int k r, .no))
  | .or, .int k a, .int k' b => onlyIf (decide (k = k')) (∀ r, r = orI k a b → K (.int k r, .no))
  | .xor, .int k a, .int k' b => onlyIf (decide (k = k')) (∀ r, r = xorI k a b → K (.int k r, .no))
  | .sub, .int k a, .int k' b => onlyIf (decide (k = k')) (∀ r, r = k.wrap (a - b) → K (.int k r, .no))
  | .mul, .int k a, .int k' b => onlyIf (decide (k = k')) (∀ r, r = k.wrap (a * b) → K (.int k r, .no))
  | .add, .int k a, .int k' b => onlyIf (decide (k = k')) (∀ r, r = k.wrap (a + b) → K (.int k r, .no))
  | .eql, .int k a, .int k' b => onlyIf (decide (k = k')) (∀ r : Bool, r = (a == b) → K (.bool r, .no))
  | .neq, .int k a, .int k' b => onlyIf (decide (k = k')) (∀ r : Bool, r = (a != b) → K (.bool r, .no))
  | .lss, .int k a, .int k' b => onlyIf (decide (k = k')) (∀ r : Bool, r = decide (a < b) → K (.bool r, .no))
  | .leq, .int k a, .int k' b => onlyIf (decide (k = k')) (∀ r : Bool, r = decide (a ≤ b) → K (.bool r, .no))
  | .gtr, .int k a, .int k' b => onlyIf (decide (k = k')) (∀ r : Bool, r = decide (a > b) → K (.bool r, .no))
  | .geq, .int k a, .int k' b => onlyIf (decide (k = k')) (∀ r : Bool, r = decide (a ≥ b) → K (.bool r, .no))
  | .eql, .str a, .str b => ∀ r : Bool, r = (a == b) → K (.bool r, .no)
  | .neq, .str a, .str b => ∀ r : Bool, r = (!(a == b)) → K (.bool r, .no)
  | op, x, y => optP (aBin c op t x y) fun v => named (v, .no) K
theorem binP_sound {c : Ctx} {op : BinOp} {t : TypeId} {x y : AV} {K : SV → Prop} (h : binP c op t x y K) : ∃ v, aBin c op t x y = some v ∧ K (v, .no) := by
  unfold binP at h
  split at h
  · obtain ⟨h1, h3⟩ := h
    obtain ⟨hk, h2⟩ := onlyIf_iff h3
    obtain rfl := of_decide_eq_true hk
    exact ⟨_, by unfold nonzero at h1; simp [aBin, aInt, h1], named_iff h2⟩
  · obtain ⟨h1, h3⟩ := h
    obtain ⟨hk, h2⟩ := onlyIf_iff h3
    obtain rfl := of_decide_eq_true hk
    exact ⟨_, by unfold nonzero at h1; simp [aBin, aInt, h1], named_iff h2⟩
  · obtain ⟨h1, h2⟩ := h
    exact ⟨_, by simp only [aBin, aShift]; rw [if_neg (by unfold nonneg at h1; omega)], named_iff h2⟩
  · obtain ⟨h1, h2⟩ := h
    exact ⟨_, by simp only [aBin, aShift]; rw [if_neg (by unfold nonneg at h1; omega)], named_iff h2⟩
  · obtain ⟨h1, h2⟩ := h
    exact ⟨_, by simp only [aBin, aStr]; rw [if_pos h1], named_iff h2⟩
  iterate 12
    · obtain ⟨hk, h2⟩ := onlyIf_iff h
      obtain rfl := of_decide_eq_true hk
      exact ⟨_, by simp [aBin, aInt, aBits, aCmp, andI, orI, xorI], h2 _ rfl⟩
  · exact ⟨_, rfl, h _ rfl⟩
  · exact ⟨_, rfl, h _ rfl⟩
  · obtain ⟨v, h1, h2⟩ := optP_iff.1 h
    exact ⟨v, h1, named_iff h2⟩

/-- the part of a text or a list that a slice operation takes -/
def boundsP (len : Nat) (lo hi : Option SV) (K : Nat → Nat → Prop) : Prop :=
  match lo, hi with
  | none, none => K 0 len
  | some (.int _ l, _), none => inLo l len ∧ K l.toNat len
  | none, some (.int _ h, _) => inLo h len ∧ K 0 h.toNat
  | some (.int _ l, _), some (.int _ h, _) => inLoHi l h len ∧ K l.toNat h.toNat
  | _, _ => False
theorem boundsP_sound {len : Nat} {lo hi : Option SV} {K : Nat → Nat → Prop} (h : boundsP len lo hi K) : ∃ a b, bounds len lo hi = some (a, b) ∧ K a b := by
  unfold boundsP at h
  split at h
  · exact ⟨0, len, rfl, h⟩
  · obtain ⟨⟨h1, h2⟩, h3⟩ := h
    exact ⟨_, _, by simp only [bounds, Option.bind_some]; rw [if_pos ⟨h1, h2⟩], h3⟩
  · obtain ⟨⟨h1, h2⟩, h3⟩ := h
    exact ⟨_, _, by simp only [bounds]; rw [if_pos ⟨h1, h2⟩]; rfl, h3⟩
  · obtain ⟨⟨h1, h2, h4⟩, h3⟩ := h
    refine ⟨_, _, ?_, h3⟩
    simp only [bounds]
    rw [if_pos ⟨by omega, h4⟩]
    simp only [Option.bind_some]
    rw [if_pos ⟨h1, by omega⟩]
  · exact h.elim


/-! ### values of a known type -/
inductive CK where
  | int (k : IntKind)
  | bool
  | str
  | sl
  | other
def kindsL (f : TypeId → List CK) : List (Nat × TypeId) → List CK
  | [] => []
  | x :: xs => f x.2 ++ kindsL f xs
def kinds (P : Program) : Nat → TypeId → List CK
  | 0, _ => []
  | d + 1, t => match tk P t with
    | .int k => [.int k]
    | .bool => [.bool]
    | .string => [.str]
    | .slice _ => [.sl]
    | .struct fs => kindsL (kinds P d) fs
    | .array n e => (List.replicate n e).flatMap (kinds P d)
    | _ => [.other]
/-- cells, opened by their kinds -/
def openW : List CK → List AV → List AV → (List AV → Prop) → Prop
  | [], acc, cs, K => cs = acc.reverse ∧ K acc.reverse
  | .int k :: r, acc, cs, K => ∃ n : Int, openW r (.int k n :: acc) cs K
  | .bool :: r, acc, cs, K => ∃ b : Bool, openW r (.bool b :: acc) cs K
  | .str :: r, acc, cs, K => ∃ s : List UInt8, openW r (.str s :: acc) cs K
  | .sl :: r, acc, cs, K => ∃ xs : List AV, openW r (.sl xs :: acc) cs K
  | .other :: r, acc, cs, K => ∃ v : AV, openW r (v :: acc) cs K
theorem openW_sound : ∀ (ks : List CK) (acc cs : List AV) (K : List AV → Prop), openW ks acc cs K → K cs := by
  intro ks
  induction ks with
  | nil => intro acc cs K h; obtain ⟨h1, h2⟩ := h; rw [h1]; exact h2
  | cons k r ih =>
    intro acc cs K h
    cases k with
    | int k => obtain ⟨n, h⟩ := h; exact ih _ _ _ h
    | bool => obtain ⟨n, h⟩ := h; exact ih _ _ _ h
    | str => obtain ⟨n, h⟩ := h; exact ih _ _ _ h
    | sl => obtain ⟨n, h⟩ := h; exact ih _ _ _ h
    | other => obtain ⟨n, h⟩ := h; exact ih _ _ _ h

/-- a part of cells, whose place is not a number in the text -/
def loadSym (c : Ctx) (t : TypeId) (cells : List SV) (o : Nat) (K : SV → Prop) : Prop :=
  match tk c.P t with
  | .int k => ∃ r : Int, cells[o]? = some (.int k r, .no) ∧ K (.int k r, .no)
  | .bool => ∃ r : Bool, cells[o]? = some (.bool r, .no) ∧ K (.bool r, .no)
  | .string => ∃ r : List UInt8, cells[o]? = some (.str r, .no) ∧ K (.str r, .no)
  | .struct _ | .array _ _ => o + tsz c.P t ≤ cells.length ∧ openW (kinds c.P 6 t) [] (((cells.drop o).take (tsz c.P t)).map (·.1)) fun cs => ((cells.drop o).take (tsz c.P t)) = cs.map (·, Tag.no) ∧ K (.agg cs, .agg (cs.map fun _ => .no))
  | .other => False
  | _ => ∃ v, cells[o]? = some v ∧ K v
theorem loadSym_sound {c : Ctx} {t : TypeId} {cells : List SV} {o : Nat} {K : SV → Prop} (h : loadSym c t cells o K) : ∃ v, c.part t cells o = some v ∧ K v := by
  unfold loadSym at h
  unfold Ctx.part
  split at h
  · rename_i k hk; obtain ⟨r, h1, h2⟩ := h; exact ⟨_, by rw [hk]; exact h1, h2⟩
  · rename_i hk; obtain ⟨r, h1, h2⟩ := h; exact ⟨_, by rw [hk]; exact h1, h2⟩
  · rename_i hk; obtain ⟨r, h1, h2⟩ := h; exact ⟨_, by rw [hk]; exact h1, h2⟩
  · rename_i hk
    obtain ⟨h3, h4⟩ := openW_sound _ _ _ _ h.2
    refine ⟨_, by rw [hk]; simp only; rw [if_pos h.1], ?_⟩
    unfold collect
    rw [h3] at h4 ⊢
    simpa [Function.comp_def] using h4
  · rename_i hk
    obtain ⟨h3, h4⟩ := openW_sound _ _ _ _ h.2
    refine ⟨_, by rw [hk]; simp only; rw [if_pos h.1], ?_⟩
    unfold collect
    rw [h3] at h4 ⊢
    simpa [Function.comp_def] using h4
  · exact h.elim
  · rename_i h1 h2 h3 h4 h5 h6
    obtain ⟨v, hv, hk⟩ := h
    refine ⟨v, ?_, hk⟩
    split
    · rename_i e; exact absurd e h6
    · rename_i e; exact absurd e (h4 _)
    · rename_i e; exact absurd e (h5 _ _)
    · exact hv
/-- a great array: its cells are not looked at one by one -/
def bigA (P : Program) (t : TypeId) : Bool := match tk P t with
  | .array _ _ => decide (16 < tsz P t)
  | _ => false
def loadW (c : Ctx) (t : TypeId) (tg : Tag) (cells : List SV) (o : Nat) (K : SV → Prop) : Prop :=
  match tg with
  | .no => match bigA c.P t with
    | true => o + tsz c.P t ≤ cells.length ∧ K (collect ((cells.drop o).take (tsz c.P t)))
    | false => optP (c.part t cells o) K
  | _ => loadSym c t cells o K
theorem loadW_sound {c : Ctx} {t : TypeId} {tg : Tag} {cells : List SV} {o : Nat} {K : SV → Prop} (h : loadW c t tg cells o K) : ∃ v, c.part t cells o = some v ∧ K v := by
  unfold loadW at h
  split at h
  · split at h
    · rename_i hb
      refine ⟨_, ?_, h.2⟩
      unfold bigA at hb
      unfold Ctx.part
      cases hk : tk c.P t with
      | array n e => simp only; rw [if_pos h.1]
      | _ => rw [hk] at hb; simp at hb
    · exact optP_iff.1 h
  · exact loadSym_sound h

/-- operations that hang on their operands alone -/
def pureW (c : Ctx) (op : Op) (ρ : Operand → SV) (K : SV → Prop) : Prop :=
  match op with
  | .binOp o t x y yt => match (ρ x).1 with
    | .int k a => binP c o t (.int k a) (ρ y).1 K
    | .str a => binP c o t (.str a) (ρ y).1 K
    | _ => optP (c.pure (.binOp o t x y yt) ρ) fun v => named v K
  | .unOp .xor _ x => match (ρ x).1 with
    | .int k n => ∀ r : Int, r = xorI k (if k.signed then -1 else k.max) n → K (.int k r, .no)
    | _ => False
  | .index t x i => match (ρ i).1, tk c.P t with
    | .int _ n, .string => match (ρ x).1 with
      | .str s => inR n s.length ∧ ∀ b, s[n.toNat]? = some b → ∀ r : Int, r = b.toNat → K (.int .u8 r, .no)
      | _ => False
    | .int _ n, .array m e => match (ρ x).1 with
      | .agg _ => inR n m ∧ loadW c e (symTag i (m * tsz c.P e)) (expand (ρ x)) (n.toNat * tsz c.P e) K
      | _ => False
    | _, _ => False
  | .indexAddr t x i => match (ρ i).1, tk c.P t with
    | .int _ n, .slice e => match (ρ x).1 with
      | .sl xs => onlyIf (decide (1 ≤ tsz c.P e)) (inR n xs.length ∧ ∀ v, xs[n.toNat]? = some v → openW (kinds c.P 6 e) [] v.cells fun cs => onlyIf (decide (cs.length = tsz c.P e)) (K (.iptr cs, .no)))
      | .slr b o m => onlyIf (decide (1 ≤ tsz c.P e)) (inR n m ∧ K (.ptr b (o + n.toNat * tsz c.P e), .agg []))
      | _ => False
    | .int _ n, .array m e => match (ρ x).1 with
      | .ptr b o => onlyIf (decide (1 ≤ tsz c.P e)) (inR n m ∧ K (.ptr b (o + n.toNat * tsz c.P e), symTag i (m * tsz c.P e)))
      | .iptr cs => onlyIf (decide (1 ≤ tsz c.P e)) (inR n m ∧ K (.iptr (cs.drop (n.toNat * tsz c.P e)), symTag i (m * tsz c.P e)))
      | _ => False
    | _, _ => False
  | .slice t x lo hi mx => match tk c.P t, (ρ x).1, mx with
    | .string, .str s, none => boundsP s.length (lo.map ρ) (hi.map ρ) fun l h => K (.str ((s.take h).drop l), .no)
    | .slice e, .sl xs, none => onlyIf (decide (1 ≤ tsz c.P e)) (szOk xs (tsz c.P e) = true ∧ boundsP xs.length (lo.map ρ) (hi.map ρ) fun l h => K (.sl ((xs.take h).drop l), .no))
    | _, _, _ => optP (c.pure (.slice t x lo hi mx) ρ) K
  | .move x => K (ρ x)
  | .assign x => K (ρ x)
  | .pick k a b => match (ρ k).1 with
    | .bool true => K (ρ a)
    | .bool false => K (ρ b)
    | _ => False
  | .load t x => match (ρ x) with
    | (.iptr cs, tg) => loadW c t tg (cs.map (·, .no)) 0 K
    | _ => False
  | op => optP (c.pure op ρ) fun v => named v K
theorem getElem?_of {α : Type} {l : List α} {n : Int} (h : 0 ≤ n ∧ n < l.length) : ∃ v, l[n.toNat]? = some v := ⟨l[n.toNat]'(by omega), List.getElem?_eq_getElem _⟩
theorem pureW_sound {c : Ctx} {op : Op} {ρ : Operand → SV} {K : SV → Prop} (h : pureW c op ρ K) : ∃ v, c.pure op ρ = some v ∧ K v := by
  unfold pureW at h
  split at h
  · rename_i o t x y yt
    split at h
    · rename_i k a hx
      obtain ⟨v, h1, h2⟩ := binP_sound h
      exact ⟨(v, .no), by simp [Ctx.pure, hx, h1], h2⟩
    · rename_i a hx
      obtain ⟨v, h1, h2⟩ := binP_sound h
      exact ⟨(v, .no), by simp [Ctx.pure, hx, h1], h2⟩
    · obtain ⟨v, h1, h2⟩ := optP_iff.1 h
      exact ⟨v, h1, named_iff h2⟩
  · rename_i t x
    split at h
    · rename_i k n hx
      exact ⟨_, by simp only [Ctx.pure, hx, aUn, aBits]; rfl, h _ rfl⟩
    · exact h.elim
  · rename_i t x i
    split at h
    · rename_i k n hi ht
      split at h
      · rename_i s hx
        obtain ⟨h1, h2⟩ := h
        obtain ⟨b, hb⟩ := getElem?_of h1
        exact ⟨_, by simp [Ctx.pure, hi, ht, hx, h1.1, hb], h2 b hb _ rfl⟩
      · exact h.elim
    · rename_i k n m e hi ht
      split at h
      · rename_i cs hx
        obtain ⟨h1, h2⟩ := h
        obtain ⟨v, h3, h4⟩ := loadW_sound h2
        exact ⟨v, by simp only [Ctx.pure, hi, ht, hx]; rw [if_pos (show 0 ≤ n ∧ n < m from h1)]; exact h3, h4⟩
      · exact h.elim
    · exact h.elim
  · rename_i t x i
    split at h
    · rename_i k n e hi ht
      split at h
      · rename_i xs hx
        obtain ⟨hk, h1, h2⟩ := onlyIf_iff h
        have h4 := of_decide_eq_true hk
        obtain ⟨b, hb⟩ := getElem?_of h1
        obtain ⟨h5, h6⟩ := onlyIf_iff (openW_sound _ _ _ _ (h2 b hb))
        refine ⟨_, ?_, h6⟩
        simp only [Ctx.pure, hi, ht, hx]
        rw [if_pos ⟨h1.1, h1.2, h4⟩, hb]
        simp only [Option.bind_some]
        rw [if_pos (of_decide_eq_true h5)]
      · rename_i b o m hx
        obtain ⟨hk, h1, h2⟩ := onlyIf_iff h
        have h4 := of_decide_eq_true hk
        exact ⟨_, by simp only [Ctx.pure, hi, ht, hx]; rw [if_pos ⟨h1.1, h1.2, h4⟩], h2⟩
      · exact h.elim
    · rename_i k n m e hi ht
      split at h
      · rename_i b o hx
        obtain ⟨hk, h1, h2⟩ := onlyIf_iff h
        have h4 := of_decide_eq_true hk
        exact ⟨_, by simp only [Ctx.pure, hi, ht, hx]; rw [if_pos ⟨h1.1, h1.2, h4⟩], h2⟩
      · rename_i cs hx
        obtain ⟨hk, h1, h2⟩ := onlyIf_iff h
        have h4 := of_decide_eq_true hk
        exact ⟨_, by simp only [Ctx.pure, hi, ht, hx]; rw [if_pos ⟨h1.1, h1.2, h4⟩], h2⟩
      · exact h.elim
    · exact h.elim
  · rename_i t x lo hi mx
    split at h
    · rename_i s ht hx
      obtain ⟨a, b, h1, h2⟩ := boundsP_sound h
      exact ⟨_, by simp [Ctx.pure, ht, hx, h1], h2⟩
    · rename_i e xs ht hx
      obtain ⟨hk, h5⟩ := onlyIf_iff h
      have h4 := of_decide_eq_true hk
      obtain ⟨a, b, h1, h2⟩ := boundsP_sound h5.2
      refine ⟨_, ?_, h2⟩
      simp only [Ctx.pure, ht, hx]
      rw [if_pos ⟨h4, h5.1⟩, h1]
      rfl
    · exact optP_iff.1 h
  · exact ⟨_, rfl, h⟩
  · exact ⟨_, rfl, h⟩
  · rename_i k a b
    split at h
    · rename_i hk; exact ⟨_, by simp only [Ctx.pure, hk, if_true], h⟩
    · rename_i hk; exact ⟨_, by simp only [Ctx.pure, hk, Bool.false_eq_true, if_false], h⟩
    · exact h.elim
  · rename_i t x
    split at h
    · rename_i cs tg hx
      obtain ⟨v, h1, h2⟩ := loadW_sound h
      exact ⟨v, by simp only [Ctx.pure, hx]; exact h1, h2⟩
    · exact h.elim
  · obtain ⟨v, h1, h2⟩ := optP_iff.1 h
    exact ⟨v, h1, named_iff h2⟩

def readW (c : Ctx) (op : Op) (ρ : Operand → SV) (S : St) (K : SV → Prop) : Prop :=
  match op with
  | .load t x => match (ρ x) with
    | (.ptr b o, tg) => match S.H[b]? with
      | some cells => loadW c t tg cells o K
      | none => False
    | _ => pureW c (.load t x) ρ K
  | .convert src dst x => match (ρ x).1 with
    | .slr b o n => match S.H[b]?, tk c.P dst, tk c.P src with
      | some cells, .string, .slice e => match tk c.P e with
        | .int .u8 => o + n ≤ cells.length ∧ ∃ s, bytesOf (((cells.drop o).take n).map (·.1)) = some s ∧ K (.str s, .no)
        | _ => False
      | _, _, _ => False
    | _ => pureW c (.convert src dst x) ρ K
  | op => pureW c op ρ K
def pureOrRead (c : Ctx) (op : Op) (ρ : Operand → SV) (S : St) : Option SV := match c.pure op ρ with
  | some v => some v
  | none => c.read op ρ S
theorem readW_sound {c : Ctx} {op : Op} {ρ : Operand → SV} {S : St} {K : SV → Prop} (h : readW c op ρ S K) : ∃ v, pureOrRead c op ρ S = some v ∧ K v := by
  have pure' : ∀ {op : Op}, pureW c op ρ K → ∃ v, pureOrRead c op ρ S = some v ∧ K v := fun h => by
    obtain ⟨v, h1, h2⟩ := pureW_sound h
    exact ⟨v, by simp [pureOrRead, h1], h2⟩
  unfold readW at h
  split at h
  · rename_i t x
    split at h
    · rename_i b o tg hx
      split at h
      · rename_i cells hb
        obtain ⟨v, h1, h2⟩ := loadW_sound h
        exact ⟨v, by simp [pureOrRead, Ctx.pure, Ctx.read, hx, hb, h1], h2⟩
      · exact h.elim
    · exact pure' h
  · rename_i src dst x
    split at h
    · rename_i b o n hx
      split at h
      · rename_i cells e hb hd hsrc
        split at h
        · rename_i he
          obtain ⟨hle, s, hs, h⟩ := h
          refine ⟨_, ?_, h⟩
          have e1 : c.pure (.convert src dst x) ρ = none := by simp [Ctx.pure, hx, hd]
          have e2 : c.read (.convert src dst x) ρ S = some (.str s, .no) := by
            simp only [Ctx.read, hx, hd, hsrc, he, hb]
            rw [if_pos hle, hs]; rfl
          simp only [pureOrRead, e1, e2]
        · exact h.elim
      · exact h.elim
    · exact pure' h
  · exact pure' h
end Go.Ab
