import Derived.Test.YtdiphholophdcaaDoorXSAbTrace
set_option linter.all false
section
/- CONDITIONS: what must hold that code comes to Q; every part of the state that the text makes lies open. -/
namespace Go.Ab
open Go.RowKit

def optP {α : Type} (x : Option α) (K : α → Prop) : Prop := match x with
  | some v => K v
  | none => False
theorem optP_iff {α : Type} {x : Option α} {K : α → Prop} : optP x K ↔ ∃ v, x = some v ∧ K v := by
  cases x <;> simp [optP]

/-- a condition that the code alone decides -/
def onlyIf (b : Bool) (p : Prop) : Prop := match b with
  | true => p
  | false => False
theorem onlyIf_iff {b : Bool} {p : Prop} (h : onlyIf b p) : b = true ∧ p := by
  cases b with
  | true => exact ⟨rfl, h⟩
  | false => exact h.elim

/-- a value under a new name -/
def named (x : SV) (K : SV → Prop) : Prop := match x with
  | (.int k e, tg) => ∀ r, r = e → K (.int k r, tg)
  | (.bool e, tg) => ∀ r, r = e → K (.bool r, tg)
  | (.str e, tg) => ∀ r, r = e → K (.str r, tg)
  | x => K x
theorem named_iff {x : SV} {K : SV → Prop} (h : named x K) : K x := by
  unfold named at h
  split at h
  · exact h _ rfl
  · exact h _ rfl
  · exact h _ rfl
  · exact h

def andI (k : IntKind) (x y : Int) : Int := k.wrap (BitVec.ofInt k.bits x &&& BitVec.ofInt k.bits y).toNat
def orI (k : IntKind) (x y : Int) : Int := k.wrap (BitVec.ofInt k.bits x ||| BitVec.ofInt k.bits y).toNat
def xorI (k : IntKind) (x y : Int) : Int := k.wrap (BitVec.ofInt k.bits x ^^^ BitVec.ofInt k.bits y).toNat
/-- bounds, under names (a number's kind stays clear where the condition is printed) -/
def inR (n : Int) (m : Nat) : Prop := 0 ≤ n ∧ n < m
def inLo (l : Int) (m : Nat) : Prop := 0 ≤ l ∧ l ≤ m
def inLoHi (l h : Int) (m : Nat) : Prop := 0 ≤ l ∧ l ≤ h ∧ h ≤ m
def nonneg (b : Int) : Prop := 0 ≤ b
def nonzero (b : Int) : Prop := b ≠ 0
/-- a binary operation's condition -/
def binP (c : Ctx) (op : BinOp) (t : TypeId) (x y : AV) (K : SV → Prop) : Prop :=
  match op, x, y with
  | .quo, .int k a, .int k' b => nonzero b ∧ onlyIf (decide (k = k')) (named (.int k (k.wrap (a.tdiv b)), .no) K)
  | .rem, .int k a, .int k' b => nonzero b ∧ onlyIf (decide (k = k')) (named (.int k (a.tmod b), .no) K)
  | .shl, .int k a, .int _ b => nonneg b ∧ named (.int k (k.wrap (a * 2 ^ (min b.toNat k.bits))), .no) K
  | .shr, .int k a, .int _ b => nonneg b ∧ named (.int k (a.fdiv (2 ^ (min b.toNat k.bits))), .no) K
  | .add, .str a, .str b => a.length + b.length ≤ maxStr ∧ named (.str (a ++ b), .no) K
  | .and, .int k a, .int k' b => onlyIf (decide (k = k')) (∀ r, r = andI k a b → K (.int k r, .no))
  | .or, .int k a, .int k' b => onlyIf (decide (k = k')) (∀ r, r = orI k a b → K (.int k r, .no))
  | .xor, .int k a, .int k' b => onlyIf (decide (k = k')) (∀ r, r = xorI k a b → K (.int k r, .no))
  | .sub, .int k a, .int k' b => onlyIf (decide (k = k')) (∀ r, r = k.wrap (a - b) → K (.int k r, .no))
  | .mul, .int k a, .int k' b => onlyIf (decide (k = k')) (∀ r, r = k.wrap (a * b) → K (.int k r, .no))
  | .add, .int k a, .int k' b => onlyIf (decide (k = k')) (∀ r, r = k.wrap (a + b) → K (.int k r, .no))
  | .eql, .int k a, .int k' b => onlyIf (decide (k = k')) (∀ r : Bool, r = (a == b) → K (.bool r, .no))
  | .neq, .int k a, .int k' b => onlyIf (decide (k = k')) (∀ r : Bool, r = (a != b) → K (.bool r, .no))
  | .lss, .int k a, .int k' b => onlyIf (decide (k = k')) (∀ r : Bool, r = decide (a < b) → K (.bool r, .no))
  | .leq, .int k a, .int k' b => onlyIf (decide (k = k')) (∀ r : Bool, r = decide (a ≤ b) → K (.bool r, .no))
  | .gtr, .int k a, .int k' b => onlyIf (decide (k = k')) (∀ r : Bool, r = decide (a > b) → K (.bool r, .no))
  | .geq, .int k a, .int k' b => onlyIf (decide (k = k')) (∀ r : Bool, r = decide (a ≥ b) → K (.bool r, .no))
  | .eql, .str a, .str b => ∀ r : Bool, r = (a == b) → K (.bool r, .no)
  | .neq, .str a, .str b => ∀ r : Bool, r = (!(a == b)) → K (.bool r, .no)
  | op, x, y => optP (aBin c op t x y) fun v => named (v, .no) K
theorem binP_sound {c : Ctx} {op : BinOp} {t : TypeId} {x y : AV} {K : SV → Prop} (h : binP c op t x y K) : ∃ v, aBin c op t x y = some v ∧ K (v, .no) := by
  unfold binP at h
  split at h
  · obtain ⟨h1, h3⟩ := h
    obtain ⟨hk, h2⟩ := onlyIf_iff h3
    obtain rfl := of_decide_eq_true hk
    exact ⟨_, by unfold nonzero at h1; simp [aBin, aInt, h1], named_iff h2⟩
  · obtain ⟨h1, h3⟩ := h
    obtain ⟨hk, h2⟩ := onlyIf_iff h3
    obtain rfl := of_decide_eq_true hk
    exact ⟨_, by unfold nonzero at h1; simp [aBin, aInt, h1], named_iff h2⟩
  · obtain ⟨h1, h2⟩ := h
    exact ⟨_, by simp only [aBin, aShift]; rw [if_neg (by unfold nonneg at h1; omega)], named_iff h2⟩
  · obtain ⟨h1, h2⟩ := h
    exact ⟨_, by simp only [aBin, aShift]; rw [if_neg (by unfold nonneg at h1; omega)], named_iff h2⟩
  · obtain ⟨h1, h2⟩ := h
    exact ⟨_, by simp only [aBin, aStr]; rw [if_pos h1], named_iff h2⟩
  iterate 12
    · obtain ⟨hk, h2⟩ := onlyIf_iff h
      obtain rfl := of_decide_eq_true hk
      exact ⟨_, by simp [aBin, aInt, aBits, aCmp, andI, orI, xorI], h2 _ rfl⟩
  · exact ⟨_, rfl, h _ rfl⟩
  · exact ⟨_, rfl, h _ rfl⟩
  · obtain ⟨v, h1, h2⟩ := optP_iff.1 h
    exact ⟨v, h1, named_iff h2⟩

/-- the part of a text or a list that a slice operation takes -/
def boundsP (len : Nat) (lo hi : Option SV) (K : Nat → Nat → Prop) : Prop :=
  match lo, hi with
  | none, none => K 0 len
  | some (.int _ l, _), none => inLo l len ∧ K l.toNat len
  | none, some (.int _ h, _) => inLo h len ∧ K 0 h.toNat
  | some (.int _ l, _), some (.int _ h, _) => inLoHi l h len ∧ K l.toNat h.toNat
  | _, _ => False
theorem boundsP_sound {len : Nat} {lo hi : Option SV} {K : Nat → Nat → Prop} (h : boundsP len lo hi K) : ∃ a b, bounds len lo hi = some (a, b) ∧ K a b := by
  unfold boundsP at h
  split at h
  · exact ⟨0, len, rfl, h⟩
  · obtain ⟨⟨h1, h2⟩, h3⟩ := h
    exact ⟨_, _, by simp only [bounds, Option.bind_some]; rw [if_pos ⟨h1, h2⟩], h3⟩
  · obtain ⟨⟨h1, h2⟩, h3⟩ := h
    exact ⟨_, _, by simp only [bounds]; rw [if_pos ⟨h1, h2⟩]; rfl, h3⟩
  · obtain ⟨⟨h1, h2, h4⟩, h3⟩ := h
    refine ⟨_, _, ?_, h3⟩
    simp only [bounds]
    rw [if_pos ⟨by omega, h4⟩]
    simp only [Option.bind_some]
    rw [if_pos ⟨h1, by omega⟩]
  · exact h.elim


/-! ### values of a known type -/
inductive CK where
  | int (k : IntKind)
  | bool
  | str
  | sl
  | other
def kindsL (f : TypeId → List CK) : List (Nat × TypeId) → List CK
  | [] => []
  | x :: xs => f x.2 ++ kindsL f xs
def kinds (P : Program) : Nat → TypeId → List CK
  | 0, _ => []
  | d + 1, t => match tk P t with
    | .int k => [.int k]
    | .bool => [.bool]
    | .string => [.str]
    | .slice _ => [.sl]
    | .struct fs => kindsL (kinds P d) fs
    | .array n e => (List.replicate n e).flatMap (kinds P d)
    | _ => [.other]
/-- cells, opened by their kinds -/
def openW : List CK → List AV → List AV → (List AV → Prop) → Prop
  | [], acc, cs, K => cs = acc.reverse ∧ K acc.reverse
  | .int k :: r, acc, cs, K => ∃ n : Int, openW r (.int k n :: acc) cs K
  | .bool :: r, acc, cs, K => ∃ b : Bool, openW r (.bool b :: acc) cs K
  | .str :: r, acc, cs, K => ∃ s : List UInt8, openW r (.str s :: acc) cs K
  | .sl :: r, acc, cs, K => ∃ xs : List AV, openW r (.sl xs :: acc) cs K
  | .other :: r, acc, cs, K => ∃ v : AV, openW r (v :: acc) cs K
theorem openW_sound : ∀ (ks : List CK) (acc cs : List AV) (K : List AV → Prop), openW ks acc cs K → K cs := by
  intro ks
  induction ks with
  | nil => intro acc cs K h; obtain ⟨h1, h2⟩ := h; rw [h1]; exact h2
  | cons k r ih =>
    intro acc cs K h
    cases k with
    | int k => obtain ⟨n, h⟩ := h; exact ih _ _ _ h
    | bool => obtain ⟨n, h⟩ := h; exact ih _ _ _ h
    | str => obtain ⟨n, h⟩ := h; exact ih _ _ _ h
    | sl => obtain ⟨n, h⟩ := h; exact ih _ _ _ h
    | other => obtain ⟨n, h⟩ := h; exact ih _ _ _ h

/-- a part of cells, whose place is not a number in the text -/
def loadSym (c : Ctx) (t : TypeId) (cells : List SV) (o : Nat) (K : SV → Prop) : Prop :=
  match tk c.P t with
  | .int k => ∃ r : Int, cells[o]? = some (.int k r, .no) ∧ K (.int k r, .no)
  | .bool => ∃ r : Bool, cells[o]? = some (.bool r, .no) ∧ K (.bool r, .no)
  | .string => ∃ r : List UInt8, cells[o]? = some (.str r, .no) ∧ K (.str r, .no)
  | .struct _ | .array _ _ => o + tsz c.P t ≤ cells.length ∧ openW (kinds c.P 6 t) [] (((cells.drop o).take (tsz c.P t)).map (·.1)) fun cs => ((cells.drop o).take (tsz c.P t)) = cs.map (·, Tag.no) ∧ K (.agg cs, .agg (cs.map fun _ => .no))
  | .other => False
  | _ => ∃ v, cells[o]? = some v ∧ K v
theorem loadSym_sound {c : Ctx} {t : TypeId} {cells : List SV} {o : Nat} {K : SV → Prop} (h : loadSym c t cells o K) : ∃ v, c.part t cells o = some v ∧ K v := by
  unfold loadSym at h
  unfold Ctx.part
  split at h
  · rename_i k hk; obtain ⟨r, h1, h2⟩ := h; exact ⟨_, by rw [hk]; exact h1, h2⟩
  · rename_i hk; obtain ⟨r, h1, h2⟩ := h; exact ⟨_, by rw [hk]; exact h1, h2⟩
  · rename_i hk; obtain ⟨r, h1, h2⟩ := h; exact ⟨_, by rw [hk]; exact h1, h2⟩
  · rename_i hk
    obtain ⟨h3, h4⟩ := openW_sound _ _ _ _ h.2
    refine ⟨_, by rw [hk]; simp only; rw [if_pos h.1], ?_⟩
    unfold collect
    rw [h3] at h4 ⊢
    simpa [Function.comp_def] using h4
  · rename_i hk
    obtain ⟨h3, h4⟩ := openW_sound _ _ _ _ h.2
    refine ⟨_, by rw [hk]; simp only; rw [if_pos h.1], ?_⟩
    unfold collect
    rw [h3] at h4 ⊢
    simpa [Function.comp_def] using h4
  · exact h.elim
  · rename_i h1 h2 h3 h4 h5 h6
    obtain ⟨v, hv, hk⟩ := h
    refine ⟨v, ?_, hk⟩
    split
    · rename_i e; exact absurd e h6
    · rename_i e; exact absurd e (h4 _)
    · rename_i e; exact absurd e (h5 _ _)
    · exact hv
/-- a great array: its cells are not looked at one by one -/
def bigA (P : Program) (t : TypeId) : Bool := match tk P t with
  | .array _ _ => decide (16 < tsz P t)
  | _ => false
def loadW (c : Ctx) (t : TypeId) (tg : Tag) (cells : List SV) (o : Nat) (K : SV → Prop) : Prop :=
  match tg with
  | .no => match bigA c.P t with
    | true => o + tsz c.P t ≤ cells.length ∧ K (collect ((cells.drop o).take (tsz c.P t)))
    | false => optP (c.part t cells o) K
  | _ => loadSym c t cells o K
theorem loadW_sound {c : Ctx} {t : TypeId} {tg : Tag} {cells : List SV} {o : Nat} {K : SV → Prop} (h : loadW c t tg cells o K) : ∃ v, c.part t cells o = some v ∧ K v := by
  unfold loadW at h
  split at h
  · split at h
    · rename_i hb
      refine ⟨_, ?_, h.2⟩
      unfold bigA at hb
      unfold Ctx.part
      cases hk : tk c.P t with
      | array n e => simp only; rw [if_pos h.1]
      | _ => rw [hk] at hb; simp at hb
    · exact optP_iff.1 h
  · exact loadSym_sound h

/-- operations that hang on their operands alone -/
def pureW (c : Ctx) (op : Op) (ρ : Operand → SV) (K : SV → Prop) : Prop :=
  match op with
  | .binOp o t x y yt => match (ρ x).1 with
    | .int k a => binP c o t (.int k a) (ρ y).1 K
    | .str a => binP c o t (.str a) (ρ y).1 K
    | _ => optP (c.pure (.binOp o t x y yt) ρ) fun v => named v K
  | .unOp .xor _ x => match (ρ x).1 with
    | .int k n => ∀ r : Int, r = xorI k (if k.signed then -1 else k.max) n → K (.int k r, .no)
    | _ => False
  | .index t x i => match (ρ i).1, tk c.P t with
    | .int _ n, .string => match (ρ x).1 with
      | .str s => inR n s.length ∧ ∀ b, s[n.toNat]? = some b → ∀ r : Int, r = b.toNat → K (.int .u8 r, .no)
      | _ => False
    | .int _ n, .array m e => match (ρ x).1 with
      | .agg _ => inR n m ∧ loadW c e (symTag i (m * tsz c.P e)) (expand (ρ x)) (n.toNat * tsz c.P e) K
      | _ => False
    | _, _ => False
  | .indexAddr t x i => match (ρ i).1, tk c.P t with
    | .int _ n, .slice e => match (ρ x).1 with
      | .sl xs => onlyIf (decide (1 ≤ tsz c.P e)) (inR n xs.length ∧ ∀ v, xs[n.toNat]? = some v → openW (kinds c.P 6 e) [] v.cells fun cs => onlyIf (decide (cs.length = tsz c.P e)) (K (.iptr cs, .no)))
      | .slr b o m => onlyIf (decide (1 ≤ tsz c.P e)) (inR n m ∧ K (.ptr b (o + n.toNat * tsz c.P e), .agg []))
      | _ => False
    | .int _ n, .array m e => match (ρ x).1 with
      | .ptr b o => onlyIf (decide (1 ≤ tsz c.P e)) (inR n m ∧ K (.ptr b (o + n.toNat * tsz c.P e), symTag i (m * tsz c.P e)))
      | .iptr cs => onlyIf (decide (1 ≤ tsz c.P e)) (inR n m ∧ K (.iptr (cs.drop (n.toNat * tsz c.P e)), symTag i (m * tsz c.P e)))
      | _ => False
    | _, _ => False
  | .slice t x lo hi mx => match tk c.P t, (ρ x).1, mx with
    | .string, .str s, none => boundsP s.length (lo.map ρ) (hi.map ρ) fun l h => K (.str ((s.take h).drop l), .no)
    | .slice e, .sl xs, none => onlyIf (decide (1 ≤ tsz c.P e)) (szOk xs (tsz c.P e) = true ∧ boundsP xs.length (lo.map ρ) (hi.map ρ) fun l h => K (.sl ((xs.take h).drop l), .no))
    | _, _, _ => optP (c.pure (.slice t x lo hi mx) ρ) K
  | .move x => K (ρ x)
  | .assign x => K (ρ x)
  | .pick k a b => match (ρ k).1 with
    | .bool true => K (ρ a)
    | .bool false => K (ρ b)
    | _ => False
  | .load t x => match (ρ x) with
    | (.iptr cs, tg) => loadW c t tg (cs.map (·, .no)) 0 K
    | _ => False
  | op => optP (c.pure op ρ) fun v => named v K
theorem getElem?_of {α : Type} {l : List α} {n : Int} (h : 0 ≤ n ∧ n < l.length) : ∃ v, l[n.toNat]? = some v := ⟨l[n.toNat]'(by omega), List.getElem?_eq_getElem _⟩
theorem pureW_sound {c : Ctx} {op : Op} {ρ : Operand → SV} {K : SV → Prop} (h : pureW c op ρ K) : ∃ v, c.pure op ρ = some v ∧ K v := by
  unfold pureW at h
  split at h
  · rename_i o t x y yt
    split at h
    · rename_i k a hx
      obtain ⟨v, h1, h2⟩ := binP_sound h
      exact ⟨(v, .no), by simp [Ctx.pure, hx, h1], h2⟩
    · rename_i a hx
      obtain ⟨v, h1, h2⟩ := binP_sound h
      exact ⟨(v, .no), by simp [Ctx.pure, hx, h1], h2⟩
    · obtain ⟨v, h1, h2⟩ := optP_iff.1 h
      exact ⟨v, h1, named_iff h2⟩
  · rename_i t x
    split at h
    · rename_i k n hx
      exact ⟨_, by simp only [Ctx.pure, hx, aUn, aBits]; rfl, h _ rfl⟩
    · exact h.elim
  · rename_i t x i
    split at h
    · rename_i k n hi ht
      split at h
      · rename_i s hx
        obtain ⟨h1, h2⟩ := h
        obtain ⟨b, hb⟩ := getElem?_of h1
        exact ⟨_, by simp [Ctx.pure, hi, ht, hx, h1.1, hb], h2 b hb _ rfl⟩
      · exact h.elim
    · rename_i k n m e hi ht
      split at h
      · rename_i cs hx
        obtain ⟨h1, h2⟩ := h
        obtain ⟨v, h3, h4⟩ := loadW_sound h2
        exact ⟨v, by simp only [Ctx.pure, hi, ht, hx]; rw [if_pos (show 0 ≤ n ∧ n < m from h1)]; exact h3, h4⟩
      · exact h.elim
    · exact h.elim
  · rename_i t x i
    split at h
    · rename_i k n e hi ht
      split at h
      · rename_i xs hx
        obtain ⟨hk, h1, h2⟩ := onlyIf_iff h
        have h4 := of_decide_eq_true hk
        obtain ⟨b, hb⟩ := getElem?_of h1
        obtain ⟨h5, h6⟩ := onlyIf_iff (openW_sound _ _ _ _ (h2 b hb))
        refine ⟨_, ?_, h6⟩
        simp only [Ctx.pure, hi, ht, hx]
        rw [if_pos ⟨h1.1, h1.2, h4⟩, hb]
        simp only [Option.bind_some]
        rw [if_pos (of_decide_eq_true h5)]
      · rename_i b o m hx
        obtain ⟨hk, h1, h2⟩ := onlyIf_iff h
        have h4 := of_decide_eq_true hk
        exact ⟨_, by simp only [Ctx.pure, hi, ht, hx]; rw [if_pos ⟨h1.1, h1.2, h4⟩], h2⟩
      · exact h.elim
    · rename_i k n m e hi ht
      split at h
      · rename_i b o hx
        obtain ⟨hk, h1, h2⟩ := onlyIf_iff h
        have h4 := of_decide_eq_true hk
        exact ⟨_, by simp only [Ctx.pure, hi, ht, hx]; rw [if_pos ⟨h1.1, h1.2, h4⟩], h2⟩
      · rename_i cs hx
        obtain ⟨hk, h1, h2⟩ := onlyIf_iff h
        have h4 := of_decide_eq_true hk
        exact ⟨_, by simp only [Ctx.pure, hi, ht, hx]; rw [if_pos ⟨h1.1, h1.2, h4⟩], h2⟩
      · exact h.elim
    · exact h.elim
  · rename_i t x lo hi mx
    split at h
    · rename_i s ht hx
      obtain ⟨a, b, h1, h2⟩ := boundsP_sound h
      exact ⟨_, by simp [Ctx.pure, ht, hx, h1], h2⟩
    · rename_i e xs ht hx
      obtain ⟨hk, h5⟩ := onlyIf_iff h
      have h4 := of_decide_eq_true hk
      obtain ⟨a, b, h1, h2⟩ := boundsP_sound h5.2
      refine ⟨_, ?_, h2⟩
      simp only [Ctx.pure, ht, hx]
      rw [if_pos ⟨h4, h5.1⟩, h1]
      rfl
    · exact optP_iff.1 h
  · exact ⟨_, rfl, h⟩
  · exact ⟨_, rfl, h⟩
  · rename_i k a b
    split at h
    · rename_i hk; exact ⟨_, by simp only [Ctx.pure, hk, if_true], h⟩
    · rename_i hk; exact ⟨_, by simp only [Ctx.pure, hk, Bool.false_eq_true, if_false], h⟩
    · exact h.elim
  · rename_i t x
    split at h
    · rename_i cs tg hx
      obtain ⟨v, h1, h2⟩ := loadW_sound h
      exact ⟨v, by simp only [Ctx.pure, hx]; exact h1, h2⟩
    · exact h.elim
  · obtain ⟨v, h1, h2⟩ := optP_iff.1 h
    exact ⟨v, h1, named_iff h2⟩

def readW (c : Ctx) (op : Op) (ρ : Operand → SV) (S : St) (K : SV → Prop) : Prop :=
  match op with
  | .load t x => match (ρ x) with
    | (.ptr b o, tg) => match S.H[b]? with
      | some cells => loadW c t tg cells o K
      | none => False
    | _ => pureW c (.load t x) ρ K
  | .convert src dst x => match (ρ x).1 with
    | .slr b o n => match S.H[b]?, tk c.P dst, tk c.P src with
      | some cells, .string, .slice e => match tk c.P e with
        | .int .u8 => o + n ≤ cells.length ∧ ∃ s, bytesOf (((cells.drop o).take n).map (·.1)) = some s ∧ K (.str s, .no)
        | _ => False
      | _, _, _ => False
    | _ => pureW c (.convert src dst x) ρ K
  | op => pureW c op ρ K
def pureOrRead (c : Ctx) (op : Op) (ρ : Operand → SV) (S : St) : Option SV := match c.pure op ρ with
  | some v => some v
  | none => c.read op ρ S
theorem readW_sound {c : Ctx} {op : Op} {ρ : Operand → SV} {S : St} {K : SV → Prop} (h : readW c op ρ S K) : ∃ v, pureOrRead c op ρ S = some v ∧ K v := by
  have pure' : ∀ {op : Op}, pureW c op ρ K → ∃ v, pureOrRead c op ρ S = some v ∧ K v := fun h => by
    obtain ⟨v, h1, h2⟩ := pureW_sound h
    exact ⟨v, by simp [pureOrRead, h1], h2⟩
  unfold readW at h
  split at h
  · rename_i t x
    split at h
    · rename_i b o tg hx
      split at h
      · rename_i cells hb
        obtain ⟨v, h1, h2⟩ := loadW_sound h
        exact ⟨v, by simp [pureOrRead, Ctx.pure, Ctx.read, hx, hb, h1], h2⟩
      · exact h.elim
    · exact pure' h
  · rename_i src dst x
    split at h
    · rename_i b o n hx
      split at h
      · rename_i cells e hb hd hsrc
        split at h
        · rename_i he
          obtain ⟨hle, s, hs, h⟩ := h
          refine ⟨_, ?_, h⟩
          have e1 : c.pure (.convert src dst x) ρ = none := by simp [Ctx.pure, hx, hd]
          have e2 : c.read (.convert src dst x) ρ S = some (.str s, .no) := by
            simp only [Ctx.read, hx, hd, hsrc, he, hb]
            rw [if_pos hle, hs]; rfl
          simp only [pureOrRead, e1, e2]
        · exact h.elim
      · exact h.elim
    · exact pure' h
  · exact pure' h
end Go.Ab
end
section
/- WHAT A CALL COMES TO, BY ITS FUNCTION'S CONTRACT; the table of contracts as a call's run. -/
namespace Go.Ab
open Go.RowKit

/-- what a call comes to -/
inductive Res : Type 1 where
  | fail
  | ret (v : SV) (S : St)
  | panic (v : AV) (S : St)
  | need (p : Prop) (r : Res)
  | cond (b : Bool) (x y : Res)
  | name {α : Type} (e : α) (r : α → Res)
  | ex {α : Type} (P : α → Prop) (h : ∀ x y, P x → P y → x = y) (r : α → Res)

def Res.wp : Res → (SV → St → Prop) → (AV → St → Prop) → Prop
  | .fail, _, _ => False
  | .ret v S, K, _ => K v S
  | .panic v S, _, Kp => Kp v S
  | .need p r, K, Kp => p ∧ r.wp K Kp
  | .cond b x y, K, Kp => (b = true → x.wp K Kp) ∧ (b = false → y.wp K Kp)
  | .name e r, K, Kp => ∀ x, x = e → (r x).wp K Kp
  | .ex P _ r, K, Kp => ∃ x, P x ∧ (r x).wp K Kp
def outTo (p : COut × St) (K : SV → St → Prop) (Kp : AV → St → Prop) : Prop := match p.1 with
  | .ret v => K v p.2
  | .panic v => Kp v p.2
def Res.is (r : Res) (p : COut × St) : Prop := r.wp (fun v S => p = (.ret v, S)) (fun v S => p = (.panic v, S))
theorem Res.mono {r : Res} : ∀ {K K' : SV → St → Prop} {Kp Kp' : AV → St → Prop}, r.wp K Kp → (∀ v S, K v S → K' v S) → (∀ v S, Kp v S → Kp' v S) → r.wp K' Kp' := by
  induction r with
  | fail => intro K K' Kp Kp' h; exact h.elim
  | ret v S => intro K K' Kp Kp' h h1 h2; exact h1 _ _ h
  | panic v S => intro K K' Kp Kp' h h1 h2; exact h2 _ _ h
  | need p r ih => intro K K' Kp Kp' h h1 h2; exact ⟨h.1, ih h.2 h1 h2⟩
  | cond b x y ihx ihy => intro K K' Kp Kp' h h1 h2; exact ⟨fun e => ihx (h.1 e) h1 h2, fun e => ihy (h.2 e) h1 h2⟩
  | name e r ih => intro K K' Kp Kp' h h1 h2 x hx; exact ih x (h x hx) h1 h2
  | ex P u r ih => intro K K' Kp Kp' h h1 h2; obtain ⟨x, hx, h⟩ := h; exact ⟨x, hx, ih x h h1 h2⟩
theorem Res.both {r : Res} : ∀ {K K' : SV → St → Prop} {Kp Kp' : AV → St → Prop}, r.wp K Kp → r.wp K' Kp' → r.wp (fun v S => K v S ∧ K' v S) (fun v S => Kp v S ∧ Kp' v S) := by
  induction r with
  | fail => intro K K' Kp Kp' h; exact h.elim
  | ret v S => intro K K' Kp Kp' h k; exact ⟨h, k⟩
  | panic v S => intro K K' Kp Kp' h k; exact ⟨h, k⟩
  | need p r ih => intro K K' Kp Kp' h k; exact ⟨h.1, ih h.2 k.2⟩
  | cond b x y ihx ihy => intro K K' Kp Kp' h k; exact ⟨fun e => ihx (h.1 e) (k.1 e), fun e => ihy (h.2 e) (k.2 e)⟩
  | name e r ih => intro K K' Kp Kp' h k x hx; exact ih x (h x hx) (k x hx)
  | ex P u r ih =>
    intro K K' Kp Kp' h k
    obtain ⟨x, hx, h⟩ := h
    obtain ⟨y, hy, k⟩ := k
    obtain rfl := u x y hx hy
    exact ⟨x, hx, ih x h k⟩
theorem Res.out {r : Res} {K : SV → St → Prop} {Kp : AV → St → Prop} (h : r.wp K Kp) : ∃ p, r.is p ∧ outTo p K Kp := by
  induction r with
  | fail => exact h.elim
  | ret v S => exact ⟨(.ret v, S), rfl, h⟩
  | panic v S => exact ⟨(.panic v, S), rfl, h⟩
  | need p r ih => obtain ⟨q, h1, h2⟩ := ih h.2; exact ⟨q, ⟨h.1, h1⟩, h2⟩
  | cond b x y ihx ihy =>
    cases b with
    | true => obtain ⟨q, h1, h2⟩ := ihx (h.1 rfl); exact ⟨q, ⟨fun _ => h1, fun e => by cases e⟩, h2⟩
    | false => obtain ⟨q, h1, h2⟩ := ihy (h.2 rfl); exact ⟨q, ⟨fun e => (by cases e), fun _ => h1⟩, h2⟩
  | name e r ih => obtain ⟨q, h1, h2⟩ := ih e (h e rfl); exact ⟨q, fun x hx => by subst hx; exact h1, h2⟩
  | ex P u r ih => obtain ⟨x, hx, h⟩ := h; obtain ⟨q, h1, h2⟩ := ih x h; exact ⟨q, ⟨x, hx, h1⟩, h2⟩
theorem Res.to {r : Res} {K : SV → St → Prop} {Kp : AV → St → Prop} {p : COut × St} (h : r.wp K Kp) (hp : r.is p) : outTo p K Kp := by
  have hb := Res.both h hp
  obtain ⟨q, _, h2⟩ := Res.out hb
  unfold outTo at h2
  split at h2
  · rename_i v hv
    obtain ⟨h3, h4⟩ := h2
    rw [h4]
    exact h3
  · rename_i v hv
    obtain ⟨h3, h4⟩ := h2
    rw [h4]
    exact h3

/-- what a contract hands on: nothing of its arguments' tokens, them, or nothing, and its result's parts are not looked at one by one -/
inductive KT where
  | no
  | yes
  | big
instance : Coe Bool KT := ⟨fun b => match b with
  | true => .yes
  | false => .no⟩
/-- a function's contract: 'kt': the tokens of its arguments are handed on -/
structure Spec where
  kt0 : KT
  res : List SV → St → Res
def Spec.kt (sp : Spec) : Bool := match sp.kt0 with
  | .yes => true
  | _ => false
theorem AV.ok_low0 {P : Nat → Prop} {x : AV} (h : x.low 0 = true) : x.ok P := by
  have one : ∀ {y : AV}, y.low 0 = true → y.ok1 P := by
    intro y hy
    cases y <;> first | exact hy | (simp [AV.low] at hy)
  rcases scalar_cases x with ⟨f, a, b, rfl⟩ | ⟨cs, rfl⟩ | ⟨cs, rfl⟩ | ⟨h1, h2⟩
  · simp only [AV.low, Bool.and_eq_true, lows_iff] at h
    exact ⟨fun y hy => one (h.1 y hy), fun y hy => one (h.2 y hy)⟩
  · simp only [AV.low, lows_iff] at h
    exact fun y hy => one (h y hy)
  · simp only [AV.low, lows_iff] at h
    exact fun y hy => one (h y hy)
  · rw [h1]; exact one h
theorem AV.ren_low0 {r : Nat → Nat} {x : AV} (h : x.low 0 = true) : x.ren r = x := by
  have all : ∀ (cs : List AV), (∀ y ∈ cs, y.low 0 = true) → cs.map (AV.ren1 r) = cs := fun cs hc => by
    conv => rhs; rw [← List.map_id cs]
    exact List.map_congr_left fun y hy => AV.ren1_low0 (hc y hy)
  rcases scalar_cases x with ⟨f, a, b, rfl⟩ | ⟨cs, rfl⟩ | ⟨cs, rfl⟩ | ⟨h1, h2⟩
  · simp only [AV.low, Bool.and_eq_true, lows_iff] at h
    simp only [AV.ren, all a h.1, all b h.2]
  · simp only [AV.low, lows_iff] at h
    simp only [AV.ren, all cs h]
  · simp only [AV.low, lows_iff] at h
    simp only [AV.ren, all cs h]
  · rw [h2]; exact AV.ren1_low0 h

/-- THE FUNCTION MEETS THE CONTRACT -/
def SpecSound (c : Ctx) (f : FuncId) (sp : Spec) : Prop := ∀ args S p, (sp.res args S).is p →
  ∀ (B : Bd) (w0 : World) (G : Gh) (w : World) (vs : Array Value), Inv c B w0 G S w → RArgs G S.T args vs →
    CallTo c.P f vs w fun en w' => ∃ G', Inv c B w0 G' p.2 w' ∧ Grows G S.T G' p.2.T ∧ OutR G' p.2.T p.1 en

/-! ### which blocks and tokens a call is handed -/
def AV.ptrs1 : AV → List Nat
  | .ptr b _ => [b]
  | .slr b _ _ => [b]
  | .bself _ b => [b]
  | _ => []
def AV.ptrs : AV → List Nat
  | .agg cs => cs.flatMap AV.ptrs1
  | .tup cs => cs.flatMap AV.ptrs1
  | .fn _ a b => a.flatMap AV.ptrs1 ++ b.flatMap AV.ptrs1
  | x => x.ptrs1
def Tag.toks1 : Tag → List Nat
  | .tok i => [i]
  | _ => []
def Tag.toks : Tag → List Nat
  | .agg ts => ts.flatMap Tag.toks1
  | x => x.toks1
def blkPtrs (S : St) (b : Nat) : List Nat := (S.H.getD b []).flatMap fun x => x.1.ptrs
def blkToks (S : St) (b : Nat) : List Nat := (S.H.getD b []).flatMap fun x => x.2.toks
def reach (S : St) : Nat → List Nat → List Nat
  | 0, l => l
  | n + 1, l => reach S n (l ++ (l.flatMap (blkPtrs S)).filter fun b => !l.contains b)
def pickP (args : List SV) (S : St) : List Nat :=
  match args.flatMap (fun x => x.1.ptrs) with
  | [] => []
  | l => (List.range S.H.length).filter ((reach S 4 l).contains ·)
def pickT (kt : Bool) (args : List SV) (S : St) (ps : List Nat) : List Nat :=
  match (if kt then args.flatMap (fun x => x.2.toks) else []) ++ ps.flatMap (blkToks S) with
  | [] => []
  | l => (List.range S.T.length).filter (l.contains ·)
theorem picks_nil (n : Nat) : Picks [] n := ⟨by simp, by simp⟩
theorem picks_filter (n : Nat) (f : Nat → Bool) : Picks ((List.range n).filter f) n := by
  refine ⟨fun p hp => by simpa using (List.mem_filter.1 hp).1, fun i j hi hj hij => ?_⟩
  have hs : ((List.range n).filter f).Pairwise (· < ·) := List.Pairwise.filter _ List.pairwise_lt_range
  exact List.pairwise_iff_getElem.1 hs i j hi hj hij
theorem picks_P (args : List SV) (S : St) : Picks (pickP args S) S.H.length := by
  unfold pickP
  split
  · exact picks_nil _
  · exact picks_filter _ _
theorem picks_T (kt : Bool) (args : List SV) (S : St) (ps : List Nat) : Picks (pickT kt args S ps) S.T.length := by
  unfold pickT
  split
  · exact picks_nil _
  · exact picks_filter _ _

/-! ### what must hold of the values handed over -/
/-- pointers lead to P; what lies deeper holds none; then K -/
def okW1 (P : Nat → Bool) (x : AV) (K : Prop) : Prop := match x with
  | .ptr b _ => onlyIf (P b) K
  | .slr b _ _ => onlyIf (P b) K
  | .bself _ b => onlyIf (P b) K
  | .sl xs => AV.lows 0 xs = true ∧ K
  | .iface _ (.sl xs) => AV.lows 0 xs = true ∧ K
  | x => onlyIf (x.low 0) K
def okWs (P : Nat → Bool) : List AV → Prop → Prop
  | [], K => K
  | x :: xs, K => okW1 P x (okWs P xs K)
def okW (P : Nat → Bool) (x : AV) (K : Prop) : Prop := match x with
  | .agg cs => okWs P cs K
  | .tup cs => okWs P cs K
  | .fn _ a b => okWs P a (okWs P b K)
  | x => okW1 P x K
theorem okW1_iff {P : Nat → Bool} {x : AV} {K : Prop} (h : okW1 P x K) : x.ok1 (P · = true) ∧ K := by
  unfold okW1 at h
  split at h
  · exact onlyIf_iff h
  · exact onlyIf_iff h
  · exact onlyIf_iff h
  · exact ⟨by simpa [AV.ok1, AV.low] using h.1, h.2⟩
  · exact ⟨by simpa [AV.ok1, AV.low] using h.1, h.2⟩
  · rename_i h1 h2 h5 h3 h4
    obtain ⟨k1, k2⟩ := onlyIf_iff h
    refine ⟨?_, k2⟩
    cases x <;> first | exact k1 | exact absurd rfl (h1 _ _) | exact absurd rfl (h2 _ _ _) | exact absurd rfl (h5 _ _)
theorem okWs_iff {P : Nat → Bool} : ∀ {xs : List AV} {K : Prop}, okWs P xs K → (∀ x ∈ xs, x.ok1 (P · = true)) ∧ K
  | [], K, h => ⟨by simp, h⟩
  | x :: xs, K, h => by
    obtain ⟨h1, h2⟩ := okW1_iff h
    obtain ⟨h3, h4⟩ := okWs_iff h2
    exact ⟨fun y hy => by rcases List.mem_cons.1 hy with rfl | hy; exact h1; exact h3 y hy, h4⟩
theorem okW_iff {P : Nat → Bool} {x : AV} {K : Prop} (h : okW P x K) : x.ok (P · = true) ∧ K := by
  unfold okW at h
  split at h
  · exact okWs_iff h
  · exact okWs_iff h
  · obtain ⟨h1, h2⟩ := okWs_iff h
    obtain ⟨h3, h4⟩ := okWs_iff h2
    exact ⟨⟨h1, h3⟩, h4⟩
  · rename_i h1 h2 h3
    obtain ⟨k1, k2⟩ := okW1_iff h
    refine ⟨?_, k2⟩
    cases x <;> first | exact k1 | exact absurd rfl (h1 _) | exact absurd rfl (h2 _) | exact absurd rfl (h3 _ _ _)
theorem onlyIf_mono {b : Bool} {p q : Prop} (h : onlyIf b p) (k : p → q) : onlyIf b q := by
  cases b with
  | true => exact k h
  | false => exact h
theorem okW1_mono {P : Nat → Bool} {x : AV} {K K' : Prop} (h : okW1 P x K) (k : K → K') : okW1 P x K' := by
  unfold okW1 at h ⊢
  split at h
  · exact onlyIf_mono h k
  · exact onlyIf_mono h k
  · exact onlyIf_mono h k
  · exact ⟨h.1, k h.2⟩
  · exact ⟨h.1, k h.2⟩
  · exact onlyIf_mono h k
theorem okWs_mono {P : Nat → Bool} : ∀ {xs : List AV} {K K' : Prop}, okWs P xs K → (K → K') → okWs P xs K'
  | [], _, _, h, k => k h
  | _ :: _, _, _, h, k => okW1_mono h fun h => okWs_mono h k
theorem okW_mono {P : Nat → Bool} {x : AV} {K K' : Prop} (h : okW P x K) (k : K → K') : okW P x K' := by
  unfold okW at h ⊢
  split at h
  · exact okWs_mono h k
  · exact okWs_mono h k
  · exact okWs_mono h fun h => okWs_mono h k
  · exact okW1_mono h k
def okArgs (P : Nat → Bool) : List SV → Prop → Prop
  | [], K => K
  | x :: xs, K => okW P x.1 (okArgs P xs K)
theorem okArgs_iff {P : Nat → Bool} : ∀ {xs : List SV} {K : Prop}, okArgs P xs K → (∀ x ∈ xs, x.1.ok (P · = true)) ∧ K
  | [], K, h => ⟨by simp, h⟩
  | x :: xs, K, h => by
    obtain ⟨h1, h2⟩ := okW_iff h
    obtain ⟨h3, h4⟩ := okArgs_iff h2
    exact ⟨fun y hy => by rcases List.mem_cons.1 hy with rfl | hy; exact h1; exact h3 y hy, h4⟩
theorem okArgs_mono {P : Nat → Bool} : ∀ {xs : List SV} {K K' : Prop}, okArgs P xs K → (K → K') → okArgs P xs K'
  | [], _, _, h, k => k h
  | _ :: _, _, _, h, k => okW_mono h fun h => okArgs_mono h k
def okBlks (P : Nat → Bool) : List Blk → Prop → Prop
  | [], K => K
  | x :: xs, K => okArgs P x (okBlks P xs K)
theorem okBlks_iff {P : Nat → Bool} : ∀ {xs : List Blk} {K : Prop}, okBlks P xs K → (∀ cs ∈ xs, ∀ x ∈ cs, x.1.ok (P · = true)) ∧ K
  | [], K, h => ⟨by simp, h⟩
  | x :: xs, K, h => by
    obtain ⟨h1, h2⟩ := okArgs_iff h
    obtain ⟨h3, h4⟩ := okBlks_iff h2
    exact ⟨fun y hy => by rcases List.mem_cons.1 hy with rfl | hy; exact h1; exact h3 y hy, h4⟩
theorem okBlks_mono {P : Nat → Bool} : ∀ {xs : List Blk} {K K' : Prop}, okBlks P xs K → (K → K') → okBlks P xs K'
  | [], _, _, h, k => k h
  | _ :: _, _, _, h, k => okArgs_mono h fun h => okBlks_mono h k
theorem AV.ok1.mono {P Q : Nat → Prop} (h : ∀ b, P b → Q b) {x : AV} (hx : x.ok1 P) : x.ok1 Q := by
  cases x <;> first | exact hx | exact h _ hx
theorem AV.ok.mono {P Q : Nat → Prop} (h : ∀ b, P b → Q b) {x : AV} (hx : x.ok P) : x.ok Q := by
  rcases scalar_cases x with ⟨f, a, b, rfl⟩ | ⟨cs, rfl⟩ | ⟨cs, rfl⟩ | ⟨h1, h2⟩
  · exact ⟨fun y hy => (hx.1 y hy).mono h, fun y hy => (hx.2 y hy).mono h⟩
  · exact fun y hy => (hx y hy).mono h
  · exact fun y hy => (hx y hy).mono h
  · rw [h1] at hx ⊢; exact hx.mono h

/-- an argument, as the call sees it -/
def argDown (kt : Bool) (ps ts : List Nat) (x : SV) : SV := (x.1.ren (ps.idxOf ·), if kt then x.2.ren (ts.idxOf ·) else .no)
def SV.up (ps ts : List Nat) (S : St) (x : SV) : SV := x.ren (upN ps S.H.length) (upN ts S.T.length)
def AV.up (ps : List Nat) (S : St) (x : AV) : AV := x.ren (upN ps S.H.length)
/-- the tokens of the blocks that were there are none but those that were there -/
def tagsKept : List Blk → List Blk → Bool
  | [], _ => true
  | _ :: _, [] => false
  | o :: os, n :: ns => (n.flatMap (·.2.toks)).all (fun i => (o.flatMap (·.2.toks)).contains i) && tagsKept os ns

/-- A CALL BY ITS CONTRACT, seen from its caller -/
def Spec.wp (sp : Spec) (args : List SV) (S : St) (K : SV → St → Prop) (Kp : AV → St → Prop) : Prop :=
  onlyIf (!sp.kt || args.all fun x => x.2.low S.T.length) <|
  okArgs ((pickP args S).contains ·) args <|
  okBlks ((pickP args S).contains ·) ((pickP args S).map (S.H.getD · [])) <|
  (sp.res (args.map (argDown sp.kt (pickP args S) (pickT sp.kt args S (pickP args S)))) (S.pick (pickP args S) (pickT sp.kt args S (pickP args S)))).wp
    (fun v S0 => match sp.kt0 with
      | .big => (v.1.low 0 = true ∧ v.2 = .no) ∧ okBlks (fun _ => true) S0.H (onlyIf (tagsKept (S.pick (pickP args S) (pickT sp.kt args S (pickP args S))).H S0.H)
        (K v (S.merge (pickP args S) (pickT sp.kt args S (pickP args S)) S0)))
      | _ => okArgs (fun _ => true) [v] <| okBlks (fun _ => true) S0.H <|
      onlyIf (v.2.low S0.T.length && tagsKept (S.pick (pickP args S) (pickT sp.kt args S (pickP args S))).H S0.H)
        (K (v.up (pickP args S) (pickT sp.kt args S (pickP args S)) S) (S.merge (pickP args S) (pickT sp.kt args S (pickP args S)) S0)))
    (fun v S0 => okArgs (fun _ => true) [(v, .no)] <| okBlks (fun _ => true) S0.H <|
      onlyIf (tagsKept (S.pick (pickP args S) (pickT sp.kt args S (pickP args S))).H S0.H)
        (Kp (v.up (pickP args S) S) (S.merge (pickP args S) (pickT sp.kt args S (pickP args S)) S0)))
def Spec.is (sp : Spec) (args : List SV) (S : St) (p : COut × St) : Prop := sp.wp args S (fun v S => p = (.ret v, S)) (fun v S => p = (.panic v, S))
open Classical in
/-- as a run -/
noncomputable def Spec.run (sp : Spec) (args : List SV) (S : St) : Option (COut × St) := if h : ∃ p, sp.is args S p then some (Classical.choose h) else none
theorem Spec.run_is {sp : Spec} {args : List SV} {S : St} {p : COut × St} (h : sp.run args S = some p) : sp.is args S p := by
  unfold Spec.run at h
  split at h
  · rename_i hx; cases h; exact Classical.choose_spec hx
  · cases h

/-- the parts of a call's condition -/
theorem Spec.wp_parts {sp : Spec} {args : List SV} {S : St} {K : SV → St → Prop} {Kp : AV → St → Prop} (h : sp.wp args S K Kp) :
    (sp.kt = true → ∀ x ∈ args, x.2.low S.T.length = true) ∧ (∀ x ∈ args, x.1.ok (· ∈ pickP args S)) ∧ (∀ p ∈ pickP args S, ∀ cells, S.H[p]? = some cells → ∀ x ∈ cells, x.1.ok (· ∈ pickP args S)) ∧
    ∃ p0, (sp.res (args.map (argDown sp.kt (pickP args S) (pickT sp.kt args S (pickP args S)))) (S.pick (pickP args S) (pickT sp.kt args S (pickP args S)))).is p0 ∧
      (∀ cells ∈ p0.2.H, ∀ x ∈ cells, x.1.ok fun _ => True) ∧ tagsKept (S.pick (pickP args S) (pickT sp.kt args S (pickP args S))).H p0.2.H = true ∧
      match p0.1 with
      | .ret v => (v.1.ok fun _ => True) ∧ v.2.low p0.2.T.length = true ∧ K (v.up (pickP args S) (pickT sp.kt args S (pickP args S)) S) (S.merge (pickP args S) (pickT sp.kt args S (pickP args S)) p0.2)
      | .panic v => (v.ok fun _ => True) ∧ Kp (v.up (pickP args S) S) (S.merge (pickP args S) (pickT sp.kt args S (pickP args S)) p0.2) := by
  obtain ⟨h0, h⟩ := onlyIf_iff h
  obtain ⟨h1, h2⟩ := okArgs_iff h
  obtain ⟨h3, h4⟩ := okBlks_iff h2
  have toP : ∀ b, (pickP args S).contains b = true → b ∈ pickP args S := fun b hb => by simpa using hb
  refine ⟨fun hk x hx => by rw [hk] at h0; simp only [Bool.not_true, Bool.false_or, List.all_eq_true] at h0; exact h0 x hx, fun x hx => (h1 x hx).mono toP, fun p hp cells hc x hx => (h3 cells ?_ x hx).mono toP, ?_⟩
  · exact List.mem_map.2 ⟨p, hp, getD_some hc⟩
  · obtain ⟨p0, k1, k2⟩ := Res.out h4
    refine ⟨p0, k1, ?_⟩
    unfold outTo at k2
    obtain ⟨o, S0⟩ := p0
    cases o with
    | ret v =>
      simp only at k2
      split at k2
      · obtain ⟨⟨g1, g2⟩, q2⟩ := k2
        obtain ⟨q3, q4⟩ := okBlks_iff q2
        obtain ⟨q5, q6⟩ := onlyIf_iff q4
        refine ⟨fun cs hcs x hx => (q3 cs hcs x hx).mono fun _ _ => trivial, q5, AV.ok_low0 g1, by rw [g2]; rfl, ?_⟩
        have e : v.up (pickP args S) (pickT sp.kt args S (pickP args S)) S = v := by
          obtain ⟨v1, v2⟩ := v
          simp only at g1 g2
          subst g2
          show (_, _) = (_, _)
          rw [AV.ren_low0 g1]; rfl
        rw [e]; exact q6
      · obtain ⟨q1, q2⟩ := okArgs_iff k2
        obtain ⟨q3, q4⟩ := okBlks_iff q2
        obtain ⟨q5, q6⟩ := onlyIf_iff q4
        simp only [Bool.and_eq_true] at q5
        exact ⟨fun cs hcs x hx => (q3 cs hcs x hx).mono fun _ _ => trivial, q5.2, (q1 v (by simp)).mono fun _ _ => trivial, q5.1, q6⟩
    | panic v =>
      obtain ⟨q1, q2⟩ := okArgs_iff k2
      obtain ⟨q3, q4⟩ := okBlks_iff q2
      obtain ⟨q5, q6⟩ := onlyIf_iff q4
      exact ⟨fun cs hcs x hx => (q3 cs hcs x hx).mono fun _ _ => trivial, q5, (q1 (v, .no) (by simp)).mono fun _ _ => trivial, q6⟩
theorem Res.is_one {r : Res} {p q : COut × St} (hp : r.is p) (hq : r.is q) : p = q := by
  have h : outTo p (fun v S => q = (.ret v, S)) (fun v S => q = (.panic v, S)) := Res.to hq hp
  unfold outTo at h
  obtain ⟨o, S⟩ := p
  cases o <;> exact h.symm
theorem Spec.run_to {sp : Spec} {args : List SV} {S : St} {K : SV → St → Prop} {Kp : AV → St → Prop} (h : sp.wp args S K Kp) : ∃ p, sp.run args S = some p ∧ outTo p K Kp := by
  have ex : ∃ p, sp.is args S p := by
    obtain ⟨_, _, _, q, hq, _⟩ := Spec.wp_parts h
    refine ⟨match q.1 with
      | .ret v => (.ret (v.up (pickP args S) (pickT sp.kt args S (pickP args S)) S), S.merge (pickP args S) (pickT sp.kt args S (pickP args S)) q.2)
      | .panic v => (.panic (v.up (pickP args S) S), S.merge (pickP args S) (pickT sp.kt args S (pickP args S)) q.2), ?_⟩
    unfold Spec.is
    unfold Spec.wp at h ⊢
    refine onlyIf_mono h fun h => okArgs_mono h fun h => okBlks_mono h fun h => ?_
    refine Res.mono (Res.both h hq) (fun v S0 k => ?_) (fun v S0 k => ?_)
    · obtain ⟨k1, k2⟩ := k
      subst k2
      split at k1
      · obtain ⟨g, k1⟩ := k1
        refine ⟨g, okBlks_mono k1 fun k => onlyIf_mono k fun _ => ?_⟩
        have e : v.up (pickP args S) (pickT sp.kt args S (pickP args S)) S = v := by
          obtain ⟨v1, v2⟩ := v
          obtain ⟨g1, g2⟩ := g
          simp only at g1 g2
          subst g2
          show (_, _) = (_, _)
          rw [AV.ren_low0 g1]; rfl
        simp only [e]
      · exact okArgs_mono k1 fun k => okBlks_mono k fun k => onlyIf_mono k fun _ => rfl
    · obtain ⟨k1, k2⟩ := k
      subst k2
      exact okArgs_mono k1 fun k => okBlks_mono k fun k => onlyIf_mono k fun _ => rfl
  have hrun : sp.run args S = some (Classical.choose ex) := by unfold Spec.run; rw [dif_pos ex]
  refine ⟨_, hrun, ?_⟩
  have his := Classical.choose_spec ex
  generalize Classical.choose ex = p at his
  obtain ⟨_, _, _, q, hq, _, _, h1⟩ := Spec.wp_parts h
  obtain ⟨_, _, _, q', hq', _, _, h2⟩ := Spec.wp_parts his
  obtain rfl := Res.is_one hq hq'
  obtain ⟨o, S0⟩ := q
  cases o with
  | ret v =>
    obtain ⟨_, _, h3⟩ := h1
    obtain ⟨_, _, h4⟩ := h2
    rw [h4]; exact h3
  | panic v =>
    obtain ⟨_, h3⟩ := h1
    obtain ⟨_, h4⟩ := h2
    rw [h4]; exact h3

/-! ### the table of contracts -/
abbrev Tab := FuncId → Option Spec
noncomputable def callOf (tab : Tab) : CallFn := fun f args S => match tab f with
  | some sp => sp.run args S
  | none => none
def TabSound (c : Ctx) (tab : Tab) : Prop := ∀ f sp, tab f = some sp → SpecSound c f sp

theorem toks_low1 {t : Tag} {m : Nat} : t.low1 m = true ↔ ∀ i ∈ t.toks1, i < m := by
  cases t <;> simp [Tag.low1, Tag.toks1]
theorem toks_low {t : Tag} {m : Nat} : t.low m = true ↔ ∀ i ∈ t.toks, i < m := by
  cases t with
  | agg ts =>
    simp only [Tag.low, Tag.toks, List.all_eq_true, List.mem_flatMap]
    constructor
    · intro h i ⟨y, hy, hi⟩; exact toks_low1.1 (h y hy) i hi
    · intro h y hy; exact toks_low1.2 fun i hi => h i ⟨y, hy, hi⟩
  | tok i => simp [Tag.low, Tag.low1, Tag.toks, Tag.toks1]
  | no => simp [Tag.low, Tag.low1, Tag.toks, Tag.toks1]
  | full => simp [Tag.low, Tag.low1, Tag.toks, Tag.toks1]
theorem toks1_ren {t : Nat → Nat} {x : Tag} {i : Nat} (h : i ∈ (x.ren1 t).toks1) : ∃ j ∈ x.toks1, i = t j := by
  cases x with
  | tok j => simp [Tag.ren1, Tag.toks1] at h ⊢; exact h
  | _ => simp [Tag.ren1, Tag.toks1] at h
theorem toks_ren {t : Nat → Nat} {x : Tag} {i : Nat} (h : i ∈ (x.ren t).toks) : ∃ j ∈ x.toks, i = t j := by
  cases x with
  | agg ts =>
    simp only [Tag.ren, Tag.toks, List.mem_flatMap, List.mem_map] at h
    obtain ⟨y, ⟨z, hz, rfl⟩, hi⟩ := h
    obtain ⟨j, hj, e⟩ := toks1_ren hi
    exact ⟨j, List.mem_flatMap.2 ⟨z, hz, hj⟩, e⟩
  | tok j => simp [Tag.ren, Tag.ren1, Tag.toks, Tag.toks1] at h ⊢; exact h
  | no => simp [Tag.ren, Tag.ren1, Tag.toks, Tag.toks1] at h
  | full => simp [Tag.ren, Tag.ren1, Tag.toks, Tag.toks1] at h
theorem tagsKept_len : ∀ {os ns : List Blk}, tagsKept os ns = true → os.length ≤ ns.length
  | [], _, _ => Nat.zero_le _
  | _ :: _, [], h => by cases h
  | o :: os, n :: ns, h => by
    simp only [tagsKept, Bool.and_eq_true] at h
    have := tagsKept_len h.2
    simp; omega
theorem tagsKept_at : ∀ {os ns : List Blk}, tagsKept os ns = true → ∀ (i : Nat) (o n : Blk), os[i]? = some o → ns[i]? = some n → ∀ k ∈ n.flatMap (·.2.toks), k ∈ o.flatMap (·.2.toks)
  | [], _, _, i, o, n, ho, _ => by simp at ho
  | _ :: _, [], h, i, o, n, _, hn => by cases h
  | o :: os, n :: ns, h, i, o', n', ho, hn => by
    simp only [tagsKept, Bool.and_eq_true, List.all_eq_true] at h
    cases i with
    | zero =>
      simp at ho hn
      subst ho; subst hn
      intro k hk
      simpa using h.1 k hk
    | succ i => exact tagsKept_at h.2 i o' n' (by simpa using ho) (by simpa using hn)

theorem Spec.run_steps {sp : Spec} {args : List SV} {S : St} {out : COut} {S' : St} (h : sp.run args S = some (out, S')) : Steps1 S.H.length S S' := by
  have his := Spec.run_is h
  obtain ⟨_, _, _, q, hq, _, hk, h2⟩ := Spec.wp_parts his
  have hS : S' = S.merge (pickP args S) (pickT sp.kt args S (pickP args S)) q.2 := by
    obtain ⟨o, S0⟩ := q
    cases o with
    | ret v => obtain ⟨_, _, h4⟩ := h2; cases h4; rfl
    | panic v => obtain ⟨_, h4⟩ := h2; cases h4; rfl
  have hlen : (pickP args S).length ≤ q.2.H.length := by simpa [St.pick] using tagsKept_len hk
  subst hS
  have hP := picks_P args S
  refine ⟨?_, fun n m hn ht b cells hb hc x hx => ?_⟩
  · show S.H.length ≤ (mergeAll _ _ _).length
    rw [mergeAll_len (by simpa using hlen)]; omega
  · rcases mergeAll_at (new := q.2.H.map (upBlk (pickP args S) (pickT sp.kt args S (pickP args S)) S.H.length S.T.length)) hP (by simpa using hlen) b with ⟨i, hi, h1, h2⟩ | ⟨h1, h2, h3⟩ | h1
    · have hi' : i < q.2.H.length := by simpa using hi
      have hip : i < (pickP args S).length := by
        rcases Nat.lt_or_ge i (pickP args S).length with hl | hl
        · exact hl
        · rw [upN_ge hl] at h1; omega
      rw [upN_lt hip] at h1
      have hc' : cells = upBlk (pickP args S) (pickT sp.kt args S (pickP args S)) S.H.length S.T.length q.2.H[i] := by
        have : (S.merge (pickP args S) (pickT sp.kt args S (pickP args S)) q.2).H[b]? = some cells := hc
        rw [show (S.merge (pickP args S) (pickT sp.kt args S (pickP args S)) q.2).H = mergeAll (pickP args S) (q.2.H.map (upBlk (pickP args S) (pickT sp.kt args S (pickP args S)) S.H.length S.T.length)) S.H from rfl, h2] at this
        simpa using this.symm
      subst hc'
      obtain ⟨y, hy, rfl⟩ := List.mem_map.1 hx
      rw [toks_low]
      intro k hk'
      obtain ⟨j, hj, rfl⟩ := toks_ren hk'
      have hlt := hP.lt _ (List.getElem_mem hip)
      have hold : (S.pick (pickP args S) (pickT sp.kt args S (pickP args S))).H[i]? = some (downBlk (pickP args S) (pickT sp.kt args S (pickP args S)) S.H[(pickP args S)[i]]) := by
        simp only [St.pick, List.getElem?_map]
        rw [List.getElem?_eq_getElem hip, Option.map_some, getD_some (List.getElem?_eq_getElem hlt)]
      have hmem := tagsKept_at hk i _ _ hold (List.getElem?_eq_getElem hi') j (List.mem_flatMap.2 ⟨y, hy, hj⟩)
      obtain ⟨z, hz, hjz⟩ := List.mem_flatMap.1 hmem
      obtain ⟨u, hu, rfl⟩ := List.mem_map.1 hz
      obtain ⟨j0, hj0, rfl⟩ := toks_ren hjz
      have hlow := ht _ _ (by rw [← h1]; exact hb) (List.getElem?_eq_getElem hlt) u hu
      rw [toks_low] at hlow
      have hj0m := hlow j0 hj0
      by_cases hTm : j0 ∈ pickT sp.kt args S (pickP args S)
      · obtain ⟨g1, g2⟩ := mem_idx hTm
        rw [upN_lt g1, g2]
        exact hj0m
      · have hge : S.T.length ≤ j0 := by
          rcases Nat.lt_or_ge j0 S.T.length with hl | hl
          · exfalso
            apply hTm
            have hin : j0 ∈ (pickP args S).flatMap (blkToks S) := by
              refine List.mem_flatMap.2 ⟨_, List.getElem_mem hip, ?_⟩
              unfold blkToks
              rw [getD_some (List.getElem?_eq_getElem hlt)]
              exact List.mem_flatMap.2 ⟨u, hu, hj0⟩
            have hin2 : j0 ∈ (if sp.kt then args.flatMap (fun x => x.2.toks) else []) ++ (pickP args S).flatMap (blkToks S) := List.mem_append_right _ hin
            unfold pickT
            split
            · rename_i e; rw [e] at hin2; cases hin2
            · rename_i l hne
              refine List.mem_filter.2 ⟨by simpa using hl, ?_⟩
              simpa using hin2
          · exact hl
        rw [List.idxOf_eq_length hTm, upN_ge (Nat.le_refl _)]
        omega
    · exact ht b cells hb (by rw [← h3]; exact hc) x hx
    · rw [show (S.merge (pickP args S) (pickT sp.kt args S (pickP args S)) q.2).H = mergeAll (pickP args S) (q.2.H.map (upBlk (pickP args S) (pickT sp.kt args S (pickP args S)) S.H.length S.T.length)) S.H from rfl, h1] at hc; cases hc

theorem tab_tags (tab : Tab) : CallTags (callOf tab) := by
  intro f args S out S' h
  unfold callOf at h
  split at h
  · exact Spec.run_steps h
  · cases h
/-- A CALL BY CONTRACT IS THE MACHINE'S. -/
theorem tab_sound {c : Ctx} {tab : Tab} (h : TabSound c tab) : CallSound c (callOf tab) := by
  intro f args S out S' hc B w0 G w vs inv ha
  unfold callOf at hc
  split at hc
  · rename_i sp hf
    have his := Spec.run_is hc
    obtain ⟨k0, k1, k2, q, hq, k3, k4, k5⟩ := Spec.wp_parts his
    have hP := picks_P args S
    have hT := picks_T sp.kt args S (pickP args S)
    generalize hps : pickP args S = ps at *
    generalize hts : pickT sp.kt args S ps = ts at *
    have tokIn : ∀ (t : Tag), (∀ i ∈ t.toks, i ∈ ts) → t.ok (· ∈ ts) := by
      intro t ht
      cases t with
      | tok i => exact ht i (by simp [Tag.toks, Tag.toks1])
      | agg l =>
        intro y hy
        cases y with
        | tok i => exact ht i (List.mem_flatMap.2 ⟨_, hy, by simp [Tag.toks1]⟩)
        | _ => trivial
      | _ => trivial
    have memT : ∀ j, j < S.T.length → j ∈ (if sp.kt then args.flatMap (fun x => x.2.toks) else []) ++ ps.flatMap (blkToks S) → j ∈ ts := by
      intro j hj hin
      rw [← hts]
      unfold pickT
      split
      · rename_i e; rw [e] at hin; cases hin
      · exact List.mem_filter.2 ⟨by simpa using hj, by simpa using hin⟩
    have hcells : ∀ p ∈ ps, ∀ cells, S.H[p]? = some cells → ∀ x ∈ cells, x.1.ok (· ∈ ps) ∧ x.2.ok (· ∈ ts) := by
      intro p hp cells hc x hx
      refine ⟨k2 p hp cells hc x hx, tokIn _ fun i hi => memT i ?_ ?_⟩
      · exact toks_low.1 (inv.tag p cells hc x hx) i hi
      · refine List.mem_append_right _ (List.mem_flatMap.2 ⟨p, hp, ?_⟩)
        unfold blkToks
        rw [getD_some hc]
        exact List.mem_flatMap.2 ⟨x, hx, hi⟩
    have i0 := inv.down hP hT hcells
    have ha0 : RArgs (G.pick ps ts) (S.pick ps ts).T (args.map (argDown sp.kt ps ts)) vs := by
      refine ⟨by simpa using ha.1, fun i h1 h2 => ?_⟩
      simp only [List.length_map] at h1
      simp only [List.getElem_map]
      have hr := ha.2 i h1 h2
      have hok := k1 _ (List.getElem_mem h1)
      by_cases hk : sp.kt = true
      · have e : argDown sp.kt ps ts args[i] = args[i].ren (ps.idxOf ·) (ts.idxOf ·) := by simp [argDown, hk, SV.ren]
        rw [e]
        refine RS.down inv hP hT hr hok (tokIn _ fun j hj => memT j (toks_low.1 (k0 hk _ (List.getElem_mem h1)) j hj) ?_)
        rw [if_pos hk]
        exact List.mem_append_left _ (List.mem_flatMap.2 ⟨_, List.getElem_mem h1, hj⟩)
      · have e : argDown sp.kt ps ts args[i] = SV.ren (ps.idxOf ·) (ts.idxOf ·) (args[i].1, .no) := by simp [argDown, hk, SV.ren, Tag.ren, Tag.ren1]
        rw [e]
        exact RS.down inv hP hT (x := (args[i].1, .no)) (.no hr.1) hok trivial
    have hs := h f sp hf _ _ q hq (bdOf G w ps ts) w (G.pick ps ts) w vs i0 ha0
    have fin : ∀ en w', (∃ G', Inv c (bdOf G w ps ts) w G' q.2 w' ∧ Grows (G.pick ps ts) (S.pick ps ts).T G' q.2.T ∧ OutR G' q.2.T q.1 en) → ∃ G', Inv c B w0 G' S' w' ∧ Grows G S.T G' S'.T ∧ OutR G' S'.T out en := by
      rintro en w' ⟨G0', j0, g0, ho⟩
      have hup := inv.up hP hT j0 g0 k3
      obtain ⟨o, S0⟩ := q
      cases o with
      | ret v =>
        obtain ⟨m1, m2, m3⟩ := k5
        cases m3
        cases en with
        | returned u => exact ⟨_, hup.1, hup.2, RS.up inv hP hT j0 g0 ho m1 (ok_of_low m2)⟩
        | panicked => exact ho.elim
        | outgrown => exact ho.elim
      | panic v =>
        obtain ⟨m1, m3⟩ := k5
        cases m3
        cases en with
        | panicked ch =>
          obtain ⟨u, hu, hr⟩ := ho
          exact ⟨_, hup.1, hup.2, u, hu, (RS.up inv hP hT j0 g0 (x := (v, .no)) (.no hr) m1 trivial).1⟩
        | returned => exact ho.elim
        | outgrown => exact ho.elim
    rcases hs with ⟨e1, e2⟩ | ⟨u, w', e1, e2⟩
    · exact .inl ⟨e1, e2.mono fun en w' he => fin en w' he⟩
    · exact .inr ⟨u, w', e1, fin _ _ e2⟩
  · cases hc
end Go.Ab
end
section
/- CONDITIONS OF OPERATIONS THAT MOVE THE STATE; of regions. -/
namespace Go.Ab
open Go.RowKit

/-- v leads below block n; then K -/
def lowW1 (n : Nat) (x : AV) (K : Prop) : Prop := match x with
  | .sl xs => AV.lows 0 xs = true ∧ K
  | .iface _ (.sl xs) => AV.lows 0 xs = true ∧ K
  | x => onlyIf (x.low n) K
def lowWs (n : Nat) : List AV → Prop → Prop
  | [], K => K
  | x :: xs, K => lowW1 n x (lowWs n xs K)
def lowW (n : Nat) (x : AV) (K : Prop) : Prop := match x with
  | .agg cs => lowWs n cs K
  | .tup cs => lowWs n cs K
  | x => lowW1 n x K
theorem lowW1_iff {n : Nat} {x : AV} {K : Prop} (h : lowW1 n x K) : x.low n = true ∧ K := by
  unfold lowW1 at h
  split at h
  · exact ⟨by simp only [AV.low]; exact AV.lows_mono (Nat.zero_le _) h.1, h.2⟩
  · exact ⟨by simp only [AV.low]; exact AV.lows_mono (Nat.zero_le _) h.1, h.2⟩
  · exact onlyIf_iff h
theorem lowWs_iff {n : Nat} : ∀ {xs : List AV} {K : Prop}, lowWs n xs K → AV.lows n xs = true ∧ K
  | [], K, h => ⟨rfl, h⟩
  | x :: xs, K, h => by
    obtain ⟨h1, h2⟩ := lowW1_iff h
    obtain ⟨h3, h4⟩ := lowWs_iff h2
    exact ⟨by simp [AV.lows, h1, h3], h4⟩
theorem lowW_iff {n : Nat} {x : AV} {K : Prop} (h : lowW n x K) : x.low n = true ∧ K := by
  unfold lowW at h
  split at h
  · exact lowWs_iff h
  · exact lowWs_iff h
  · exact lowW1_iff h
def lowAll (n : Nat) : List SV → Prop → Prop
  | [], K => K
  | x :: xs, K => lowW n x.1 (lowAll n xs K)
theorem lowAll_iff {n : Nat} : ∀ {xs : List SV} {K : Prop}, lowAll n xs K → (∀ x ∈ xs, x.1.low n = true) ∧ K
  | [], K, h => ⟨by simp, h⟩
  | x :: xs, K, h => by
    obtain ⟨h1, h2⟩ := lowW_iff h
    obtain ⟨h3, h4⟩ := lowAll_iff h2
    exact ⟨fun y hy => by rcases List.mem_cons.1 hy with rfl | hy; exact h1; exact h3 y hy, h4⟩

/-- the kind of a cell that lies open -/
def ckOf : AV → CK
  | .int k _ => .int k
  | .bool _ => .bool
  | .str _ => .str
  | .sl _ => .sl
  | _ => .other
/-- what is stored -/
def keptCells (older : Bool) (o : Nat) (old new : List SV) : List SV := new.zipIdx.map fun (x, i) => (x.1, keepTag older x.2 (old.getD (o + i) (.undef, .no)).2)
theorem storeCells_kept {n0 b o : Nat} {old new : List SV} (h : ∀ x ∈ new, x.1.low (b + 1) = true) : storeCells n0 b o old new = replaceAt old o (keptCells (decide (b < n0)) o old new) := by
  unfold storeCells keptCells
  congr 1
  refine List.map_congr_left fun q hq => ?_
  obtain ⟨x, i⟩ := q
  have hx : x ∈ new := by
    have := List.mem_zipIdx hq
    rw [this.2.2]
    exact List.getElem_mem _
  simp only [keepIn, h x hx, if_true]

def Env0.storeW (e : Env0) (t : TypeId) (tg : Tag) (b o : Nat) (new : List SV) (S : St) (K : SV → St → Prop) : Prop :=
  match S.H[b]? with
  | none => False
  | some cells => match (match tg with | .no => bigA e.c.P t | _ => false) with
    | true => (new.length = tsz e.c.P t ∧ 1 ≤ tsz e.c.P t ∧ (∀ y ∈ new, y.1.isCell = true ∧ y.1.low (b + 1) = true) ∧ o + tsz e.c.P t ≤ cells.length) ∧ ∀ cells', cells' = replaceAt cells o (keptCells (decide (b < e.n0)) o cells new) → K (.tup [], .no) ⟨S.H.set b cells', S.T⟩
    | false => onlyIf (decide (new.length = tsz e.c.P t) && decide (1 ≤ tsz e.c.P t) && new.all (fun y => y.1.isCell)) <| lowAll (b + 1) new <| match tg with
      | .no => onlyIf (decide (o + tsz e.c.P t ≤ cells.length)) (K (.tup [], .no) ⟨S.H.set b (replaceAt cells o (keptCells (decide (b < e.n0)) o cells new)), S.T⟩)
      | .full => o + tsz e.c.P t ≤ cells.length ∧ openW (cells.map (ckOf ·.1)) [] ((replaceAt cells o (keptCells (decide (b < e.n0)) o cells new)).map (·.1)) fun cs =>
          replaceAt cells o (keptCells (decide (b < e.n0)) o cells new) = cs.map (·, Tag.no) ∧ K (.tup [], .no) ⟨S.H.set b (cs.map (·, Tag.no)), S.T⟩
      | _ => o + tsz e.c.P t ≤ cells.length ∧ ∀ cells', cells' = replaceAt cells o (keptCells (decide (b < e.n0)) o cells new) → K (.tup [], .no) ⟨S.H.set b cells', S.T⟩

theorem storeW_sound {e : Env0} {t : TypeId} {a x : Operand} {ρ : Operand → SV} {tg : Tag} {b o : Nat} {S : St} {K Kp : SV → St → Prop} (ha : ρ a = (.ptr b o, tg)) (h : e.storeW t tg b o (expand (ρ x)) S K) :
    ∃ v S', e.act (.store t a x) ρ S = some (.ok v S') ∧ K v S' := by
  unfold Env0.storeW at h
  split at h
  · exact h.elim
  · rename_i cells hb
    have fin2 : (expand (ρ x)).length = tsz e.c.P t → 1 ≤ tsz e.c.P t → (expand (ρ x)).all (fun y => y.1.isCell) = true → (∀ y ∈ expand (ρ x), y.1.low (b + 1) = true) → o + tsz e.c.P t ≤ cells.length →
        e.act (.store t a x) ρ S = some (.ok (.tup [], .no) ⟨S.H.set b (replaceAt cells o (keptCells (decide (b < e.n0)) o cells (expand (ρ x)))), S.T⟩) := by
      intro h1 h2 h3 hl hle
      have hst := storeCells_kept (n0 := e.n0) (b := b) (o := o) (old := cells) hl
      simp only [Env0.act, ha, hb]
      rw [if_pos ⟨h1, h2, hle, h3⟩, hst]
    split at h
    · obtain ⟨⟨h1, h2, h3, h4⟩, h5⟩ := h
      exact ⟨_, _, fin2 h1 h2 (List.all_eq_true.2 fun y hy => (h3 y hy).1) (fun y hy => (h3 y hy).2) h4, h5 _ rfl⟩
    · obtain ⟨hk, h⟩ := onlyIf_iff h
      obtain ⟨hl, h⟩ := lowAll_iff h
      simp only [Bool.and_eq_true, decide_eq_true_eq] at hk
      have fin := fin2 hk.1.1 hk.1.2 hk.2 hl
      split at h
      · obtain ⟨h1, h2⟩ := onlyIf_iff h
        exact ⟨_, _, fin (of_decide_eq_true h1), h2⟩
      · obtain ⟨h1, h2⟩ := h
        obtain ⟨h3, h4⟩ := openW_sound _ _ _ _ h2
        refine ⟨_, _, fin h1, ?_⟩
        rw [← h3] at h4
        exact h4
      · exact ⟨_, _, fin h.1, h.2 _ rfl⟩

def Env0.addedW (e : Env0) (S : St) (elem : TypeId) (k : TK) (x : AV) (K : List AV → Prop) : Prop := match x, k with
  | .sl ys, .slice _ => szOk ys (tsz e.c.P elem) = true ∧ K ys
  | .str y, .string => match tk e.c.P elem with
    | .int .u8 => onlyIf (decide (tsz e.c.P elem = 1)) (K (toBytes y))
    | _ => False
  | _, _ => optP (e.added S elem k x) K
theorem addedW_sound {e : Env0} {S : St} {elem : TypeId} {k : TK} {x : AV} {K : List AV → Prop} (h : e.addedW S elem k x K) : ∃ ys, e.added S elem k x = some ys ∧ K ys := by
  unfold Env0.addedW at h
  split at h
  · exact ⟨_, by simp only [Env0.added, h.1, if_true], h.2⟩
  · split at h
    · rename_i hke
      obtain ⟨c1, c2⟩ := onlyIf_iff h
      exact ⟨_, by simp only [Env0.added, hke]; rw [if_pos (of_decide_eq_true c1)], c2⟩
    · exact h.elim
  · exact optP_iff.1 h
def Env0.appendLW (e : Env0) (t t2 : TypeId) (s x : SV) (S : St) (K : SV → St → Prop) : Prop :=
  match tk e.c.P t, s.1 with
  | .slice elem, .sl xs =>
    onlyIf (decide (1 ≤ tsz e.c.P elem) && decide (tsz e.c.P elem ≤ 256) && decide (e.c.P.bytesOf elem ≤ 4096) && hasZero e.c.P elem && decide ((tz e.c.P elem).length = tsz e.c.P elem)) <|
    szOk xs (tsz e.c.P elem) = true ∧ e.addedW S elem (tk e.c.P t2) x.1 fun ys =>
    xs.length + ys.length ≤ maxLen ∧ (match s.2 with
      | .tok id => S.T[id]? = some xs.length ∧ (ys.isEmpty = true → K s S) ∧ (ys.isEmpty = false → K (.sl (xs ++ ys), .tok id) ⟨S.H, S.T.set id (xs.length + ys.length)⟩)
      | .full => (ys.isEmpty = true → K s S) ∧ (ys.isEmpty = false → K (.sl (xs ++ ys), .tok S.T.length) ⟨S.H, S.T ++ [xs.length + ys.length]⟩)
      | _ => False)
  | _, _ => False
theorem appendLW_sound {e : Env0} {t t2 : TypeId} {s x : SV} {S : St} {K : SV → St → Prop} (h : e.appendLW t t2 s x S K) : ∃ v S', e.appendL t t2 s x S = some (.ok v S') ∧ K v S' := by
  unfold Env0.appendLW at h
  split at h
  · rename_i elem xs hk hx
    obtain ⟨h1, h2, h3⟩ := onlyIf_iff h
    simp only [Bool.and_eq_true, decide_eq_true_eq] at h1
    obtain ⟨⟨⟨⟨a1, a2⟩, a3⟩, a4⟩, a5⟩ := h1
    obtain ⟨ys, hadd, b1, b2⟩ := addedW_sound h3
    unfold Env0.appendL
    simp only [hk, hx, h2, if_true, hadd]
    rw [if_pos ⟨b1, a1, a2, a3, a4, a5⟩]
    split at b2
    · rename_i id ht
      rw [ht]
      simp only [b2.1, if_true]
      cases hy : ys.isEmpty with
      | true => exact ⟨_, _, rfl, b2.2.1 hy⟩
      | false => exact ⟨_, _, rfl, b2.2.2 hy⟩
    · rename_i ht
      rw [ht]
      cases hy : ys.isEmpty with
      | true => exact ⟨_, _, rfl, b2.1 hy⟩
      | false => exact ⟨_, _, rfl, b2.2 hy⟩
    · exact b2.elim
  · exact h.elim

/-- the bytes that an append adds to a row of bytes -/
def bytesW (k : TK) (x : AV) (K : List UInt8 → Prop) : Prop :=
  match x, k with
  | .str s, .string => K s
  | .sl [.int .u8 n], .slice _ => (0 ≤ n ∧ n < 256) ∧ K [UInt8.ofNat n.toNat]
  | _, _ => False
theorem bytesW_sound {k : TK} {x : AV} {K : List UInt8 → Prop} (h : bytesW k x K) : ∃ ys, bytesIn k x = some ys ∧ K ys := by
  unfold bytesW at h
  split at h
  · exact ⟨_, rfl, h⟩
  · exact ⟨_, by simp only [bytesIn]; rw [if_pos h.1], h.2⟩
  · exact h.elim
def Env0.appendBW (e : Env0) (t t2 u : TypeId) (bs : List UInt8) (tg : Tag) (x : SV) (S : St) (K : SV → St → Prop) : Prop :=
  match tk e.c.P t, tk e.c.P u, tg with
  | .slice elem, .int .u8, .tok id =>
    onlyIf (decide (elem = u) && decide (tsz e.c.P u = 1) && decide (e.c.P.bytesOf u ≤ 4096) && hasZero e.c.P u && decide ((tz e.c.P u).length = 1)) <|
    bytesW (tk e.c.P t2) x.1 fun ys => bs.length + ys.length ≤ maxLen ∧ S.T[id]? = some bs.length ∧ K (.buf u (bs ++ ys), .tok id) ⟨S.H, S.T.set id (bs ++ ys).length⟩
  | _, _, _ => False
theorem set_same {T : List Nat} {id n : Nat} (h : T[id]? = some n) : T.set id n = T := by
  apply List.ext_getElem?
  intro i
  by_cases e : id = i
  · subst e
    obtain ⟨hl, h1⟩ := List.getElem?_eq_some_iff.1 h
    simp [hl, h1]
  · rw [List.getElem?_set_ne e]
theorem szOk_bytes {P : Program} {u : TypeId} (h : tsz P u = 1) (s : List UInt8) : szOk (toBytes s) (tsz P u) = true := by
  cases s with
  | nil => rfl
  | cons a s => rw [h]; rfl
theorem appendBW_sound {e : Env0} {t t2 u : TypeId} {bs : List UInt8} {tg : Tag} {x : SV} {S : St} {K : SV → St → Prop} (h : e.appendBW t t2 u bs tg x S K) : ∃ v S', e.append t t2 (.buf u bs, tg) x S = some (.ok v S') ∧ K v S' := by
  unfold Env0.appendBW at h
  split at h
  · rename_i elem id hk hu
    obtain ⟨h1, h2⟩ := onlyIf_iff h
    simp only [Bool.and_eq_true, decide_eq_true_eq] at h1
    obtain ⟨⟨⟨⟨rfl, a2⟩, a3⟩, a4⟩, a5⟩ := h1
    obtain ⟨ys, hys, b1, b2, b3⟩ := bytesW_sound h2
    refine ⟨_, _, ?_, b3⟩
    have hadd : e.added S elem (tk e.c.P t2) x.1 = some (toBytes ys) := by
      unfold bytesIn at hys
      split at hys <;> first | (cases hys; done) | skip
      · rename_i hx hk2
        cases hys
        simp only [Env0.added, hx, hk2, hu, a2, if_true]
      · rename_i n el hx hk2
        obtain ⟨⟨c0, c1⟩, hys⟩ := Option.ite_none_right_eq_some.1 hys
        cases hys
        have hsz : szOk [AV.int .u8 n] (tsz e.c.P elem) = true := by rw [a2]; rfl
        simp only [Env0.added, hx, hk2, hsz, if_true]
        have : ((UInt8.ofNat n.toNat).toNat : Int) = n := by
          rw [UInt8.toNat_ofNat']
          omega
        show some [AV.int .u8 n] = some [AV.int .u8 ((UInt8.ofNat n.toNat).toNat : Int)]
        rw [this]
    have hl : ∀ s : List UInt8, (toBytes s).length = s.length := fun s => by simp [toBytes]
    have hL : ∃ z, e.appendL t t2 (.sl (toBytes bs), .tok id) x S = some (.ok (z, .tok id) ⟨S.H, S.T.set id (bs ++ ys).length⟩) := by
      unfold Env0.appendL
      simp only [hk, szOk_bytes a2, if_true, hadd]
      rw [if_pos ⟨by rw [hl, hl]; exact b1, by omega, by omega, a3, a4, by rw [a5, a2]⟩]
      rw [hl, if_pos b2]
      cases ys with
      | nil => exact ⟨_, by simp only [List.append_nil]; rw [set_same b2]; rfl⟩
      | cons y ys => exact ⟨_, by rw [hl, List.length_append]; rfl⟩
    obtain ⟨z, hL⟩ := hL
    simp only [Env0.append, hk, hys, if_true, hL, Option.bind_some, bufOf]
  · exact h.elim
def Env0.appendW (e : Env0) (t t2 : TypeId) (s x : SV) (S : St) (K : SV → St → Prop) : Prop :=
  match s with
  | (.buf u bs, tg) => e.appendBW t t2 u bs tg x S K
  | (.sl xs, tg) => e.appendLW t t2 (.sl xs, tg) x S K
  | _ => False
theorem appendW_sound {e : Env0} {t t2 : TypeId} {s x : SV} {S : St} {K : SV → St → Prop} (h : e.appendW t t2 s x S K) : ∃ v S', e.append t t2 s x S = some (.ok v S') ∧ K v S' := by
  unfold Env0.appendW at h
  split at h
  · exact appendBW_sound h
  · exact appendLW_sound h
  · exact h.elim
def sliceDataW (x : SV) (S : St) (K : SV → St → Prop) : Prop :=
  match x with
  | (.buf u s, .tok id) => S.T[id]? = some s.length ∧ K (.bptr u s, .tok id) S
  | _ => False
def unsafeStringW (P : Program) (pt : TypeId) (x n : SV) (S : St) (K : SV → St → Prop) : Prop :=
  match x, n.1 with
  | (.bptr u s, .tok id), .int .i64 k => onlyIf (ptrU8 P pt u) (S.T[id]? = some s.length ∧ k = (s.length : Nat) ∧ s.length ≤ maxLen ∧ K (.str s, .no) S)
  | _, _ => False

def Env0.actW (e : Env0) (tab : Tab) (op : Op) (ρ : Operand → SV) (S : St) (K Kp : SV → St → Prop) : Prop :=
  match op with
  | .alloc t => match e.c.bty t with
    | none => onlyIf (hasZero e.c.P t) (K (.ptr S.H.length 0, .no) ⟨S.H ++ [(e.zeroVar t S.T.length).1], S.T ++ (e.zeroVar t S.T.length).2⟩)
    | some u => onlyIf (hasZero e.c.P t && (isZeroB (tzs e.c.P t) && decide (tsz e.c.P t = 2))) (K (.ptr S.H.length 0, .no) ⟨S.H ++ [zeroB t u S.H.length S.T.length], S.T ++ [0]⟩)
  | .box t x => onlyIf (ρ x).1.known (K (.ptr S.H.length 0, .no) ⟨S.H ++ [(newCells (e.pre t) (expand (ρ x)) S.T.length).1], S.T ++ (newCells (e.pre t) (expand (ρ x)) S.T.length).2⟩)
  | .store t a x => match ρ a with
    | (.ptr b o, tg) => e.storeW t tg b o (expand (ρ x)) S K
    | _ => False
  | .panic x => match (ρ x).1 with
    | .iface t v => Kp (.iface t v, .no) S
    | _ => False
  | .call { callee := .value f, args, .. } => match (ρ f).1 with
    | .fn k first cap => match tab k with
      | some sp => sp.wp (first.map (·, .no) ++ args.toList.map ρ ++ cap.map (·, .no)) S K (fun v S' => Kp (v, .no) S')
      | none => False
    | _ => False
  | .call { callee := .builtin .append, args, argTypes } => match args.toList, argTypes.toList with
    | [s, x], [t, t2] => e.appendW t t2 (ρ s) (ρ x) S K
    | _, _ => False
  | .call { callee := .builtin .unsafeSliceData, args, .. } => match args.toList with
    | [x] => sliceDataW (ρ x) S K
    | _ => False
  | .call { callee := .builtin .unsafeString, args, argTypes } => match args.toList, argTypes.toList with
    | [x, n], [pt, _] => unsafeStringW e.c.P pt (ρ x) (ρ n) S K
    | _, _ => False
  | .convert src dst x => match (ρ x).1, tk e.c.P dst with
    | .str s, .slice elem => match tk e.c.P elem with
      | .int .u8 => onlyIf (!(tk e.c.P src).isOther) (K (.slr S.H.length 0 s.length, .no) ⟨S.H ++ [(toBytes s).map (·, .no)], S.T⟩)
      | _ => False
    | _, _ => False
  | op => ∃ r, e.act op ρ S = some r ∧ (match r with
    | .ok v S' => K v S'
    | .panic v S' => Kp (v, .no) S')
def ARes.to (r : ARes) (K Kp : SV → St → Prop) : Prop := match r with
  | .ok v S' => K v S'
  | .panic v S' => Kp (v, .no) S'
theorem actW_sound {e : Env0} {tab : Tab} (he : e.call = callOf tab) {op : Op} {ρ : Operand → SV} {S : St} {K Kp : SV → St → Prop} (h : e.actW tab op ρ S K Kp) : ∃ r, e.act op ρ S = some r ∧ r.to K Kp := by
  unfold Env0.actW at h
  split at h
  · split at h
    · rename_i hb
      obtain ⟨h1, h2⟩ := onlyIf_iff h
      exact ⟨.ok _ _, by simp only [Env0.act, hb]; rw [if_pos h1]; rfl, h2⟩
    · rename_i u hb
      obtain ⟨h1, h2⟩ := onlyIf_iff h
      rw [Bool.and_eq_true] at h1
      exact ⟨.ok _ _, by simp only [Env0.act, hb]; rw [if_pos h1.1, if_pos h1.2], h2⟩
  · obtain ⟨h1, h2⟩ := onlyIf_iff h
    exact ⟨.ok _ _, by simp only [Env0.act]; rw [if_pos h1]; rfl, h2⟩
  · split at h
    · rename_i b o tg hx
      obtain ⟨v, S', h1, h2⟩ := storeW_sound (Kp := Kp) hx h
      exact ⟨.ok v S', h1, h2⟩
    · exact h.elim
  · split at h
    · rename_i t v hx
      exact ⟨.panic (.iface t v) S, by simp only [Env0.act, hx], h⟩
    · exact h.elim
  · rename_i f args ts
    split at h
    · rename_i k first cap hx
      split at h
      · rename_i sp hsp
        obtain ⟨⟨out, S'⟩, h1, h2⟩ := Spec.run_to h
        have hc : e.call k (first.map (·, .no) ++ args.toList.map ρ ++ cap.map (·, .no)) S = some (out, S') := by rw [he]; simp only [callOf, hsp]; exact h1
        cases out with
        | ret v => exact ⟨.ok v S', by simp only [Env0.act, hx, hc], h2⟩
        | panic v => exact ⟨.panic v S', by simp only [Env0.act, hx, hc], h2⟩
      · exact h.elim
    · exact h.elim
  · split at h
    · rename_i s x t t2 ha ht
      obtain ⟨v, S', h1, h2⟩ := appendW_sound h
      exact ⟨.ok v S', by simp only [Env0.act, ha, ht]; exact h1, h2⟩
    · exact h.elim
  · split at h
    · rename_i x ha
      unfold sliceDataW at h
      split at h
      · rename_i u s id hx
        exact ⟨.ok _ _, by simp only [Env0.act, ha, hx]; rw [if_pos h.1], h.2⟩
      · exact h.elim
    · exact h.elim
  · split at h
    · rename_i x n pt it ha ht
      unfold unsafeStringW at h
      split at h
      · rename_i u s id k hx hn
        obtain ⟨h1, h2, h3, h4, h5⟩ := onlyIf_iff h
        exact ⟨.ok _ _, by simp only [Env0.act, ha, ht, hx, hn]; rw [if_pos ⟨h2, h3, h4, h1⟩], h5⟩
      · exact h.elim
    · exact h.elim
  · split at h
    · rename_i s elem hx hd
      split at h
      · rename_i hel
        obtain ⟨h1, h2⟩ := onlyIf_iff h
        refine ⟨.ok _ _, ?_, h2⟩
        simp only [Env0.act, hx, hd, hel]
        rw [if_neg (by simpa using h1)]
      · exact h.elim
    · exact h.elim
  · obtain ⟨r, h1, h2⟩ := h
    exact ⟨r, h1, by cases r <;> exact h2⟩

/-- which of an operation's readings: act, or not -/
def isActOp (P : Program) : Op → Bool
  | .alloc _ | .box _ _ | .store _ _ _ | .makeSlice _ _ _ | .panic _ => true
  | .convert _ dst _ => match tk P dst with
    | .slice _ => true
    | _ => false
  | .call { callee := .builtin .append, .. } | .call { callee := .builtin .unsafeSliceData, .. } | .call { callee := .builtin .unsafeString, .. } => true
  | .call { callee := .value _, .. } => true
  | _ => false
theorem pure_act {c : Ctx} {op : Op} {ρ : Operand → SV} {S : St} (h : isActOp c.P op = true) : c.pure op ρ = none ∧ c.read op ρ S = none := by
  unfold isActOp at h
  split at h <;> first
    | (simp at h; done)
    | (exact ⟨rfl, rfl⟩)
    | skip
  rename_i src dst x
  split at h <;> first | (cases h; done) | skip
  rename_i e he
  refine ⟨?_, ?_⟩
  · simp only [Ctx.pure, he]
    split
    · rfl
    · rfl
  · simp only [Ctx.read, he]

/-- where it is so; nothing is asked where it is known not to be -/
def implB (t w : Bool) (A : Prop) : Prop := match t, w with
  | true, true => A
  | false, false => A
  | _, _ => True
theorem implB_elim {t w : Bool} {A : Prop} (h : implB t w A) (e : t = w) : A := by
  subst e
  cases t <;> exact h
theorem implB_intro {t w : Bool} {A : Prop} (h : t = w → A) : implB t w A := by
  cases t <;> cases w <;> first | exact h rfl | exact trivial
/-- a slot whose truth is known -/
def setB (env : Env) (d : Nat) (v : Bool) : Env := env.set d (.bool v, (env.getD d (.undef, .no)).2)
theorem setB_eq {env : Env} {d : Nat} {v : Bool} (h : (env.getD d (.undef, .no)).1 = .bool v) : setB env d v = env := by
  unfold setB
  rcases Nat.lt_or_ge d env.length with hl | hl
  · have e : env.getD d (.undef, .no) = env[d] := by simp [List.getD, List.getElem?_eq_getElem hl]
    rw [e] at h ⊢
    rw [← h]
    exact List.set_getElem_self hl
  · exact List.set_eq_of_length_le hl
/-- an operation that is carried out -/
def Env0.runW (e : Env0) (tab : Tab) (op : Op) (ρ : Operand → SV) (S : St) (K Kp : SV → St → Prop) : Prop :=
  match isActOp e.c.P op with
  | true => e.actW tab op ρ S K Kp
  | false => readW e.c op ρ S fun v => K v S
def Env0.stepW (e : Env0) (tab : Tab) (ops : Array Oper) (o : Oper) (fr : Fr) (S : St) (K : Fr → St → Prop) (Kp : SV → Fr → St → Prop) : Prop :=
  match o.guard with
  | none => match o.op with
    | .defer { callee := .value f, args, .. } => match (e.c.eval fr.env f).1 with
      | .fn k first cap => K ({ fr with ds := (k, (first ++ args.toList.map (fun x => (e.c.eval fr.env x).1) ++ cap).map fun v => ((v, Tag.no) : SV)) :: fr.ds }.put o.dst (.tup [], .no)) S
      | _ => False
    | op => e.runW tab op (e.c.eval fr.env) S (fun v S' => K (fr.put o.dst v) S') (fun v S' => Kp v fr S')
  | some (j, want) => match (ops[j]?).bind (·.dst) with
    | some d => match (fr.env.getD d (.undef, .no)).1 with
      | .bool b => implB b want (match o.op with
          | .defer _ => False
          | op => e.runW tab op (e.c.eval (setB fr.env d want)) S (fun v S' => K (Fr.put ⟨setB fr.env d want, fr.ds⟩ o.dst v) S') (fun v S' => Kp v ⟨setB fr.env d want, fr.ds⟩ S')) ∧ implB b (!want) (K (Fr.put ⟨setB fr.env d (!want), fr.ds⟩ o.dst (.tup [], .no)) S)
      | .tup [] => K (fr.put o.dst (.tup [], .no)) S
      | _ => False
    | none => False
def ORes.to (r : ORes) (K : Fr → St → Prop) (Kp : SV → Fr → St → Prop) : Prop := match r with
  | .ok fr S => K fr S
  | .panic v fr S => Kp (v, .no) fr S
theorem runW_sound {e : Env0} {tab : Tab} (he : e.call = callOf tab) {ops : Array Oper} {o : Oper} {fr : Fr} {S : St} {K : Fr → St → Prop} {Kp : SV → Fr → St → Prop} (hw : wantedA ops fr.env o = some true) (hnd : ∀ cl, o.op ≠ .defer cl)
    (h : e.runW tab o.op (e.c.eval fr.env) S (fun v S' => K (fr.put o.dst v) S') (fun v S' => Kp v fr S')) : ∃ r, e.step ops o fr S = some r ∧ r.to K Kp := by
  unfold Env0.step
  simp only [hw]
  unfold Env0.runW at h
  split at h
  · rename_i ha
    obtain ⟨r, h1, h2⟩ := actW_sound he h
    obtain ⟨h3, h4⟩ := pure_act (ρ := e.c.eval fr.env) (S := S) ha
    split
    · rename_i hop; exact absurd hop (hnd _)
    · rw [h3, h4, h1]
      cases r with
      | ok v S' => exact ⟨_, rfl, h2⟩
      | panic v S' => exact ⟨_, rfl, h2⟩
  · rename_i ha
    obtain ⟨v, h1, h2⟩ := readW_sound h
    unfold pureOrRead at h1
    split
    · rename_i hop; exact absurd hop (hnd _)
    · split at h1
      · rename_i v' hv; cases h1; rw [hv]; exact ⟨_, rfl, h2⟩
      · rename_i hv; rw [hv, h1]; exact ⟨_, rfl, h2⟩
theorem stepW_sound {e : Env0} {tab : Tab} (he : e.call = callOf tab) {ops : Array Oper} {o : Oper} {fr : Fr} {S : St} {K : Fr → St → Prop} {Kp : SV → Fr → St → Prop} (h : e.stepW tab ops o fr S K Kp) : ∃ r, e.step ops o fr S = some r ∧ r.to K Kp := by
  unfold Env0.stepW at h
  have off : wantedA ops fr.env o = some false → K (fr.put o.dst (.tup [], .no)) S → ∃ r, e.step ops o fr S = some r ∧ r.to K Kp := by
    intro hw hr
    exact ⟨.ok _ S, by unfold Env0.step; simp only [hw], hr⟩
  split at h
  · rename_i hg
    have hw : wantedA ops fr.env o = some true := by simp [wantedA, hg]
    split at h
    · rename_i f args ts hop
      split at h
      · rename_i k first cap hf
        exact ⟨.ok _ S, by unfold Env0.step; simp only [hw, hop, hf], h⟩
      · exact h.elim
    · rename_i hnd
      by_cases hd : ∃ cl, o.op = .defer cl
      · exfalso
        obtain ⟨⟨callee, args, ts⟩, hd⟩ := hd
        rw [hd] at h
        cases callee with
        | value f => exact hnd f args ts hd
        | builtin b =>
          simp only [Env0.runW, isActOp, readW, pureW, Ctx.pure, optP] at h
        | invoke =>
          simp only [Env0.runW, isActOp, readW, pureW, Ctx.pure, optP] at h
      · exact runW_sound he hw (fun cl hc => hd ⟨cl, hc⟩) h
  · rename_i j want hg
    split at h
    · rename_i d hd
      split at h
      · rename_i b hb
        have hw : wantedA ops fr.env o = some (b == want) := by simp only [wantedA, hg, hd, hb]
        by_cases hbw : b = want
        · have h1 := implB_elim h.1 hbw
          rw [setB_eq (v := want) (by rw [← hbw]; exact hb)] at h1
          split at h1
          · exact h1.elim
          · rename_i hnd
            exact runW_sound he (by rw [hw, hbw]; cases want <;> rfl) (fun cl hc => hnd cl hc) h1
        · have hbw' : b = !want := by clear hw h off; cases b <;> cases want <;> first | rfl | exact absurd rfl hbw
          have h2 := implB_elim h.2 hbw'
          rw [setB_eq (v := !want) (by rw [← hbw']; exact hb)] at h2
          exact off (by rw [hw, hbw']; cases want <;> rfl) h2
      · rename_i hb; exact off (by simp only [wantedA, hg, hd, hb]) h
      · exact h.elim
    · exact h.elim

def Env0.opsW (e : Env0) (tab : Tab) (ops : Array Oper) (Q : Post1) : List Oper → Fr → St → Prop
  | [], fr, S => Q .normal fr S
  | o :: rest, fr, S => e.stepW tab ops o fr S (fun fr S => e.opsW tab ops Q rest fr S) (fun v fr S => Q (.panic v.1) fr S)
theorem opsW_sound {e : Env0} {tab : Tab} (he : e.call = callOf tab) {ops : Array Oper} {Q : Post1} : ∀ (l : List Oper) (fr : Fr) (S : St), e.opsW tab ops Q l fr S → ∃ r, e.ops ops l fr S = some r ∧ r.to (Q .normal) (fun v => Q (.panic v.1)) := by
  intro l
  induction l with
  | nil => intro fr S h; exact ⟨.ok fr S, rfl, h⟩
  | cons o l ih =>
    intro fr S h
    simp only [Env0.opsW] at h
    obtain ⟨r, h1, h2⟩ := stepW_sound he h
    cases r with
    | ok fr' S' =>
      obtain ⟨r2, h3, h4⟩ := ih fr' S' h2
      exact ⟨r2, by simp only [Env0.ops, h1]; exact h3, h4⟩
    | panic v fr' S' => exact ⟨.panic v fr' S', by simp only [Env0.ops, h1], h2⟩
end Go.Ab
end
section
/- CONDITIONS OF REGIONS WHOSE ORDER IS OPEN. -/
namespace Go.Ab
open Go.RowKit

mutual
theorem AV.beq_refl : ∀ (a : AV), AV.beq a a = true
  | .undef => by unfold AV.beq; rfl
  | .int k n => by unfold AV.beq; simp
  | .bool b => by unfold AV.beq; simp
  | .str s => by unfold AV.beq; simp
  | .nilptr => by unfold AV.beq; rfl
  | .ptr b o => by unfold AV.beq; simp
  | .iptr cs => by unfold AV.beq; exact AV.beqs_refl cs
  | .sl cs => by unfold AV.beq; exact AV.beqs_refl cs
  | .slr b o n => by unfold AV.beq; simp
  | .buf t s => by unfold AV.beq; simp
  | .bptr t s => by unfold AV.beq; simp
  | .bself t b => by unfold AV.beq; simp
  | .nilfn => by unfold AV.beq; rfl
  | .fn f a b => by unfold AV.beq; simp [AV.beqs_refl a, AV.beqs_refl b]
  | .nili => by unfold AV.beq; rfl
  | .iface t v => by unfold AV.beq; simp [AV.beq_refl v]
  | .agg cs => by unfold AV.beq; exact AV.beqs_refl cs
  | .tup cs => by unfold AV.beq; exact AV.beqs_refl cs
theorem AV.beqs_refl : ∀ (a : List AV), AV.beqs a a = true
  | [] => by unfold AV.beqs; rfl
  | x :: xs => by unfold AV.beqs; simp [AV.beq_refl x, AV.beqs_refl xs]
end
mutual
theorem Tag.beq_refl : ∀ (a : Tag), Tag.beq a a = true
  | .no => by simp [Tag.beq]
  | .full => by simp [Tag.beq]
  | .tok i => by simp [Tag.beq]
  | .agg ts => by simp [Tag.beq, Tag.beqs_refl ts]
theorem Tag.beqs_refl : ∀ (a : List Tag), Tag.beqs a a = true
  | [] => by simp [Tag.beqs]
  | x :: xs => by simp [Tag.beqs, Tag.beq_refl x, Tag.beqs_refl xs]
end
theorem SV.beq_refl (a : SV) : SV.beq a a = true := by simp [SV.beq, AV.beq_refl, Tag.beq_refl]

/-- does what this operation gives hang on the state? -/
def isSens (op : Op) (ρ : Operand → SV) : Bool := match op with
  | .load _ x => match (ρ x).1 with
    | .ptr _ _ => true
    | _ => false
  | .convert _ _ x => match (ρ x).1 with
    | .slr _ _ _ => true
    | _ => false
  | _ => false
theorem read_none {c : Ctx} {op : Op} {ρ : Operand → SV} (h : isSens op ρ = false) (S : St) : c.read op ρ S = none := by
  unfold isSens at h
  split at h
  · rename_i t x
    split at h
    · cases h
    · rename_i hx
      simp only [Ctx.read]
  · rename_i src dst x
    split at h
    · cases h
    · rename_i hx
      simp only [Ctx.read]
      split
      · rename_i b o n e _ hb _; exact absurd hb (hx b o n)
      · rfl
  · rename_i h1 h2
    cases op <;> first | rfl | exact absurd rfl (h1 _ _) | exact absurd rfl (h2 _ _ _)

theorem quietAt_run {e : Env0} {ops : Array Oper} {S0 : St} {base al : Nat} {o : Oper} {env : Env} (hw : wantedA ops env o = some true) (hna : ∀ t, o.op ≠ .alloc t) (S : St) :
    e.quietAt ops S0 base al o env S = pureOrRead e.c o.op (e.c.evalR env (readsTmp ops o)) S := by
  unfold Env0.quietAt pureOrRead
  rw [hw]
  generalize e.c.evalR env (readsTmp ops o) = ρ
  cases hop : o.op with
  | alloc t => exact absurd hop (hna t)
  | _ => rfl
/-- in this state the operation gives what it gave -/
def Env0.seesW (e : Env0) (ops : Array Oper) (S0 : St) (base : Nat) (r : Rec) (S : St) (K : Prop) : Prop := match r.o.op with
  | .alloc _ => onlyIf (Env0.fresh (base + r.al) S0 S) K
  | .load t x => match e.c.evalR r.env (readsTmp ops r.o) x with
    | (.ptr b o, tg) => match S.H[b]? with
      | some cells => loadW e.c t tg cells o (fun v => v = r.v) ∧ K
      | none => False
    | _ => False
  | op => pureOrRead e.c op (e.c.evalR r.env (readsTmp ops r.o)) S = some r.v ∧ K
def Env0.seesAll (e : Env0) (ops : Array Oper) (S0 : St) (base : Nat) (r : Rec) (Ss : List St) : List Nat → Prop → Prop
  | [], K => K
  | k :: ks, K => match Ss[k]? with
    | some S => e.seesW ops S0 base r S (e.seesAll ops S0 base r Ss ks K)
    | none => e.seesAll ops S0 base r Ss ks K
def Env0.sameW (e : Env0) (ops : Array Oper) (b : List Nat) (S0 : St) (base : Nat) (Ss : List St) : Nat → List Rec → List Bool → Prop → Prop
  | _, [], _, K => K
  | i, r :: rs, true :: fs, K => e.seesAll ops S0 base r Ss ((List.range (highs e.c.P ops b i + 1)).filter fun k => !decide (k < lows e.c.P ops b i)) (e.sameW ops b S0 base Ss (i + 1) rs fs K)
  | i, _ :: rs, false :: fs, K => e.sameW ops b S0 base Ss (i + 1) rs fs K
  | _, _ :: _, [], _ => False
def FlagOk (e : Env0) (ops : Array Oper) (S0 : St) (base : Nat) (r : Rec) (f : Bool) : Prop := match f with
  | false => moves e.c.P r.o = true ∨ ∀ S, e.quietAt ops S0 base r.al r.o r.env S = some r.v
  | true => moves e.c.P r.o = false ∧ wantedA ops r.env r.o = some true ∧ (∀ t, r.o.op = .alloc t → allocs e.c.P r.o = true ∧ r.v = (.ptr (base + r.al) 0, .no))
inductive FlagsOk (e : Env0) (ops : Array Oper) (S0 : St) (base : Nat) : List Rec → List Bool → Prop
  | nil : FlagsOk e ops S0 base [] []
  | cons {r f rs fs} (h : FlagOk e ops S0 base r f) (hs : FlagsOk e ops S0 base rs fs) : FlagsOk e ops S0 base (r :: rs) (f :: fs)
theorem FlagsOk.append {e : Env0} {ops : Array Oper} {S0 : St} {base : Nat} {rs rs' : List Rec} {fs fs' : List Bool} (h : FlagsOk e ops S0 base rs fs) (k : FlagsOk e ops S0 base rs' fs') : FlagsOk e ops S0 base (rs ++ rs') (fs ++ fs') := by
  induction h with
  | nil => exact k
  | cons h _ ih => exact .cons h ih
theorem FlagsOk.reverse {e : Env0} {ops : Array Oper} {S0 : St} {base : Nat} {rs : List Rec} {fs : List Bool} (h : FlagsOk e ops S0 base rs fs) : FlagsOk e ops S0 base rs.reverse fs.reverse := by
  induction h with
  | nil => exact .nil
  | cons h _ ih => simpa using ih.append (.cons h .nil)

theorem seesW_sound {e : Env0} {ops : Array Oper} {S0 : St} {base : Nat} {r : Rec} {S : St} {K : Prop} (hf : FlagOk e ops S0 base r true) (h : e.seesW ops S0 base r S K) : e.quietAt ops S0 base r.al r.o r.env S = some r.v ∧ K := by
  obtain ⟨h1, h2, h3⟩ := hf
  unfold Env0.seesW at h
  split at h
  · rename_i t hop
    obtain ⟨k1, k2⟩ := onlyIf_iff h
    obtain ⟨q1, q2⟩ := h3 t hop
    exact ⟨by simp only [Env0.quietAt, h2, hop, q1, k1, Bool.and_self, if_true, q2], k2⟩
  · rename_i t x hop
    split at h
    · rename_i b o tg hx
      split at h
      · rename_i cells hc
        obtain ⟨v, hv, rfl⟩ := loadW_sound h.1
        exact ⟨by simp only [Env0.quietAt, h2, hop, Ctx.pure, Ctx.read, hx, hc]; exact hv, h.2⟩
      · exact h.elim
    · exact h.elim
  · rename_i h4 h5
    exact ⟨by rw [quietAt_run h2 h4]; exact h.1, h.2⟩
theorem seesAll_sound {e : Env0} {ops : Array Oper} {S0 : St} {base : Nat} {r : Rec} {Ss : List St} (hf : FlagOk e ops S0 base r true) : ∀ {ks : List Nat} {K : Prop}, e.seesAll ops S0 base r Ss ks K →
    (∀ k ∈ ks, ∀ S, Ss[k]? = some S → e.quietAt ops S0 base r.al r.o r.env S = some r.v) ∧ K
  | [], K, h => ⟨by simp, h⟩
  | k :: ks, K, h => by
    unfold Env0.seesAll at h
    split at h
    · rename_i S hS
      obtain ⟨h1, h2⟩ := seesW_sound hf h
      obtain ⟨h3, h4⟩ := seesAll_sound hf h2
      refine ⟨fun k' hk' S' hS' => ?_, h4⟩
      rcases List.mem_cons.1 hk' with rfl | hk'
      · rw [hS] at hS'; cases hS'; exact h1
      · exact h3 k' hk' S' hS'
    · rename_i hS
      obtain ⟨h3, h4⟩ := seesAll_sound hf h
      refine ⟨fun k' hk' S' hS' => ?_, h4⟩
      rcases List.mem_cons.1 hk' with rfl | hk'
      · rw [hS] at hS'; cases hS'
      · exact h3 k' hk' S' hS'
theorem sameW_sound {e : Env0} {ops : Array Oper} {b : List Nat} {S0 : St} {base : Nat} {Ss : List St} : ∀ {rs : List Rec} {fs : List Bool} {i : Nat} {K : Prop}, FlagsOk e ops S0 base rs fs → e.sameW ops b S0 base Ss i rs fs K →
    e.sameAll ops b S0 base Ss i rs = true ∧ K
  | [], _, i, K, hf, h => by
    cases hf
    exact ⟨rfl, h⟩
  | r :: rs, _, i, K, hf, h => by
    cases hf with
    | cons h1 h2 =>
      rename_i f fs
      have all : (∀ k, lows e.c.P ops b i ≤ k → k < highs e.c.P ops b i + 1 → ∀ S, Ss[k]? = some S → e.quietAt ops S0 base r.al r.o r.env S = some r.v) → e.sameAll ops b S0 base Ss (i + 1) rs = true → e.sameAll ops b S0 base Ss i (r :: rs) = true := by
        intro hq hr
        simp only [Env0.sameAll, hr, Bool.and_true, Bool.or_eq_true]
        right
        rw [List.all_eq_true]
        intro k hk
        simp only [List.mem_range] at hk
        by_cases hl : k < lows e.c.P ops b i
        · simp [hl]
        · simp only [hl, decide_false, Bool.false_or]
          split
          · rename_i S hS
            rw [hq k (by omega) hk S hS]
            exact SV.beq_refl _
          · rfl
      cases f with
      | false =>
        unfold Env0.sameW at h
        obtain ⟨h3, h4⟩ := sameW_sound h2 h
        refine ⟨?_, h4⟩
        rcases h1 with hm | hq
        · simp only [Env0.sameAll, hm, Bool.true_or, h3, Bool.and_self]
        · exact all (fun k _ _ S _ => hq S) h3
      | true =>
        unfold Env0.sameW at h
        obtain ⟨h5, h6⟩ := seesAll_sound h1 h
        obtain ⟨h3, h4⟩ := sameW_sound h2 h6
        refine ⟨all (fun k k1 k2 S hS => h5 k ?_ S hS) h3, h4⟩
        exact List.mem_filter.2 ⟨by simpa using k2, by simp; omega⟩

def Env0.lexW (e : Env0) (tab : Tab) (ops : Array Oper) (b : List Nat) (S0 : St) (base : Nat) (fr0 : Fr) (S : St) (Q : Post1) : List Oper → Nat → Env → List St → List Rec → List Bool → Prop
  | [], _, env, Ss, recs, fl => e.sameW ops b S0 base Ss.reverse 0 recs.reverse fl.reverse (Q .normal ⟨env, fr0.ds⟩ (Ss.headD S))
  | o :: rest, al, env, Ss, recs, fl => match Ss with
    | [] => False
    | S1 :: _ =>
      match o.guard with
      | none => match moves e.c.P o with
        | true => e.actW tab o.op (e.c.evalR env (readsTmp ops o)) S1
            (fun v S' => e.lexW tab ops b S0 base fr0 S Q rest (match allocs e.c.P o with | true => al + 1 | false => al) (Fr.put ⟨env, []⟩ o.dst v).env (S' :: Ss) (⟨o, env, v, al⟩ :: recs) (false :: fl))
            (fun v S' => e.sameW ops b S0 base Ss.reverse 0 (⟨o, env, (.undef, .no), al⟩ :: recs).reverse (false :: fl).reverse (onlyIf (restOk b recs.length (recs.length + 1) rest) (Q (.panic v.1) (forget ops.toList fr0) S')))
        | false => match o.op with
          | .alloc _ => onlyIf (allocs e.c.P o && Env0.fresh (base + al) S0 S1)
              (e.lexW tab ops b S0 base fr0 S Q rest (al + 1) (Fr.put ⟨env, []⟩ o.dst (.ptr (base + al) 0, .no)).env Ss (⟨o, env, (.ptr (base + al) 0, .no), al⟩ :: recs) (true :: fl))
          | op => readW e.c op (e.c.evalR env (readsTmp ops o)) S1 fun v =>
              e.lexW tab ops b S0 base fr0 S Q rest al (Fr.put ⟨env, []⟩ o.dst v).env Ss (⟨o, env, v, al⟩ :: recs) (isSens op (e.c.evalR env (readsTmp ops o)) :: fl)
      | some (j, want) => match (ops[j]?).bind (·.dst) with
        | some d => match (env.getD d (.undef, .no)).1 with
          | .bool t => implB t want (match moves e.c.P o with
              | true => e.actW tab o.op (e.c.evalR (setB env d want) (readsTmp ops o)) S1
                  (fun v S' => e.lexW tab ops b S0 base fr0 S Q rest (match allocs e.c.P o with | true => al + 1 | false => al) (Fr.put ⟨setB env d want, []⟩ o.dst v).env (S' :: Ss) (⟨o, setB env d want, v, al⟩ :: recs) (false :: fl))
                  (fun v S' => e.sameW ops b S0 base Ss.reverse 0 (⟨o, setB env d want, (.undef, .no), al⟩ :: recs).reverse (false :: fl).reverse (onlyIf (restOk b recs.length (recs.length + 1) rest) (Q (.panic v.1) (forget ops.toList fr0) S')))
              | false => match o.op with
                | .alloc _ => False
                | op => readW e.c op (e.c.evalR (setB env d want) (readsTmp ops o)) S1 fun v =>
                    e.lexW tab ops b S0 base fr0 S Q rest al (Fr.put ⟨setB env d want, []⟩ o.dst v).env Ss (⟨o, setB env d want, v, al⟩ :: recs) (isSens op (e.c.evalR (setB env d want) (readsTmp ops o)) :: fl)) ∧
              implB t (!want) (e.lexW tab ops b S0 base fr0 S Q rest al (Fr.put ⟨setB env d (!want), []⟩ o.dst (.tup [], .no)).env (match moves e.c.P o with | true => S1 :: Ss | false => Ss) (⟨o, setB env d (!want), (.tup [], .no), al⟩ :: recs) (false :: fl))
          | .tup [] => e.lexW tab ops b S0 base fr0 S Q rest al (Fr.put ⟨env, []⟩ o.dst (.tup [], .no)).env (match moves e.c.P o with | true => S1 :: Ss | false => Ss) (⟨o, env, (.tup [], .no), al⟩ :: recs) (false :: fl)
          | _ => False
        | none => False

/-- what a region's order, in the text's, came to -/
def DRes.to (e : Env0) (ops : Array Oper) (b : List Nat) (S0 : St) (base : Nat) (fr0 : Fr) (S : St) (Q : Post1) : DRes → Prop
  | .ok env Ss recs => e.sameAll ops b S0 base Ss.reverse 0 recs.reverse = true ∧ Q .normal ⟨env, fr0.ds⟩ (Ss.headD S)
  | .panic v S' Ss recs rest => e.sameAll ops b S0 base Ss.reverse 0 recs.reverse = true ∧ restOk b (recs.length - 1) recs.length rest = true ∧ Q (.panic v) (forget ops.toList fr0) S'

theorem allocs_noguard {P : Program} {o : Oper} {j : Nat} {t : Bool} (h : o.guard = some (j, t)) : allocs P o = false := by
  unfold allocs
  split
  · rename_i hg; rw [h] at hg; cases hg
  · rfl

theorem lexW_sound {e : Env0} {tab : Tab} (he : e.call = callOf tab) {ops : Array Oper} {b : List Nat} {S0 : St} {base : Nat} {fr0 : Fr} {S : St} {Q : Post1} : ∀ (l : List Oper) (al : Nat) (env : Env) (Ss : List St) (recs : List Rec) (fl : List Bool),
    FlagsOk e ops S0 base recs fl → e.lexW tab ops b S0 base fr0 S Q l al env Ss recs fl → ∃ r, e.lexD ops S0 base l al env Ss recs = some r ∧ r.to e ops b S0 base fr0 S Q := by
  intro l
  induction l with
  | nil =>
    intro al env Ss recs fl hf h
    simp only [Env0.lexW] at h
    exact ⟨.ok env Ss recs, rfl, sameW_sound hf.reverse h⟩
  | cons o rest ih =>
    intro al env Ss recs fl hf h
    cases Ss with
    | nil => exact h.elim
    | cons S1 Ss =>
      have alEq : (if allocs e.c.P o then al + 1 else al) = (match allocs e.c.P o with | true => al + 1 | false => al) := by cases allocs e.c.P o <;> rfl
      -- a move that is carried out
      have act : moves e.c.P o = true → wantedA ops env o = some true → e.actW tab o.op (e.c.evalR env (readsTmp ops o)) S1
            (fun v S' => e.lexW tab ops b S0 base fr0 S Q rest (match allocs e.c.P o with | true => al + 1 | false => al) (Fr.put ⟨env, []⟩ o.dst v).env (S' :: S1 :: Ss) (⟨o, env, v, al⟩ :: recs) (false :: fl))
            (fun v S' => e.sameW ops b S0 base (S1 :: Ss).reverse 0 (⟨o, env, (.undef, .no), al⟩ :: recs).reverse (false :: fl).reverse (onlyIf (restOk b recs.length (recs.length + 1) rest) (Q (.panic v.1) (forget ops.toList fr0) S'))) →
          ∃ r, e.lexD ops S0 base (o :: rest) al env (S1 :: Ss) recs = some r ∧ r.to e ops b S0 base fr0 S Q := by
        intro hm hw h
        obtain ⟨r, h1, h2⟩ := actW_sound he h
        cases r with
        | ok v S' =>
          obtain ⟨r2, h3, h4⟩ := ih _ _ _ _ _ (.cons (show FlagOk e ops S0 base ⟨o, env, v, al⟩ false from .inl hm) hf) h2
          exact ⟨r2, by simp only [Env0.lexD, hm, if_true, hw, h1, alEq]; exact h3, h4⟩
        | panic v S' =>
          obtain ⟨h3, h4⟩ := sameW_sound (FlagsOk.reverse (.cons (show FlagOk e ops S0 base ⟨o, env, (.undef, .no), al⟩ false from .inl hm) hf)) h2
          obtain ⟨h5, h6⟩ := onlyIf_iff h4
          exact ⟨.panic v S' (S1 :: Ss) (⟨o, env, (.undef, .no), al⟩ :: recs) rest, by simp only [Env0.lexD, hm, if_true, hw, h1], h3, by simpa using h5, h6⟩
      -- one that leaves the state
      have quiet : moves e.c.P o = false → wantedA ops env o = some true → (∀ t, o.op ≠ .alloc t) → allocs e.c.P o = false → readW e.c o.op (e.c.evalR env (readsTmp ops o)) S1 (fun v =>
              e.lexW tab ops b S0 base fr0 S Q rest al (Fr.put ⟨env, []⟩ o.dst v).env (S1 :: Ss) (⟨o, env, v, al⟩ :: recs) (isSens o.op (e.c.evalR env (readsTmp ops o)) :: fl)) →
          ∃ r, e.lexD ops S0 base (o :: rest) al env (S1 :: Ss) recs = some r ∧ r.to e ops b S0 base fr0 S Q := by
        intro hm hw hna hnal h
        obtain ⟨v, h1, h2⟩ := readW_sound h
        have hq : ∀ S, e.quietAt ops S0 base al o env S = pureOrRead e.c o.op (e.c.evalR env (readsTmp ops o)) S := by
          intro S
          exact quietAt_run hw hna S
        have hfl : FlagOk e ops S0 base ⟨o, env, v, al⟩ (isSens o.op (e.c.evalR env (readsTmp ops o))) := by
          cases hs : isSens o.op (e.c.evalR env (readsTmp ops o)) with
          | true => exact ⟨hm, hw, fun t ht => absurd ht (hna t)⟩
          | false =>
            refine .inr fun S => ?_
            rw [hq]
            unfold pureOrRead at h1 ⊢
            split at h1
            · rename_i v' hv; exact h1
            · rw [read_none hs] at h1; cases h1
        obtain ⟨r2, h3, h4⟩ := ih _ _ _ _ _ (.cons hfl hf) h2
        refine ⟨r2, ?_, h4⟩
        simp only [Env0.lexD, hm, hnal, Bool.false_eq_true, if_false, hq, h1]
        exact h3
      have off : wantedA ops env o = some false → allocs e.c.P o = false → e.lexW tab ops b S0 base fr0 S Q rest al (Fr.put ⟨env, []⟩ o.dst (.tup [], .no)).env (match moves e.c.P o with | true => S1 :: S1 :: Ss | false => S1 :: Ss) (⟨o, env, (.tup [], .no), al⟩ :: recs) (false :: fl) →
          ∃ r, e.lexD ops S0 base (o :: rest) al env (S1 :: Ss) recs = some r ∧ r.to e ops b S0 base fr0 S Q := by
        intro hw hnal h
        have hfl : FlagOk e ops S0 base ⟨o, env, (.tup [], .no), al⟩ false := by
          refine .inr fun S => ?_
          simp only [Env0.quietAt, hw]
        obtain ⟨r2, h3, h4⟩ := ih _ _ _ _ _ (.cons hfl hf) h
        refine ⟨r2, ?_, h4⟩
        cases hm : moves e.c.P o with
        | true =>
          rw [hm] at h3
          simp only [Env0.lexD, hm, hnal, Bool.false_eq_true, if_false, if_true, hw]
          exact h3
        | false =>
          rw [hm] at h3
          simp only [Env0.lexD, hm, hnal, Bool.false_eq_true, if_false, Env0.quietAt, hw]
          exact h3
      simp only [Env0.lexW] at h
      split at h
      · rename_i hg
        have hw : wantedA ops env o = some true := by simp [wantedA, hg]
        split at h
        · rename_i hm; exact act hm hw h
        · rename_i hm
          split at h
          · rename_i t hop
            obtain ⟨h1, h2⟩ := onlyIf_iff h
            simp only [Bool.and_eq_true] at h1
            have hfl : FlagOk e ops S0 base ⟨o, env, (.ptr (base + al) 0, .no), al⟩ true := ⟨hm, hw, fun t ht => ⟨h1.1, rfl⟩⟩
            obtain ⟨r2, h3, h4⟩ := ih _ _ _ _ _ (.cons hfl hf) h2
            refine ⟨r2, ?_, h4⟩
            simp only [Env0.lexD, hm, h1.1, Bool.false_eq_true, if_false, if_true, Env0.quietAt, hw, hop, h1.2, Bool.and_self]
            exact h3
          · rename_i hna
            have hnal : allocs e.c.P o = false := by
              unfold allocs
              split
              · rename_i t hop _; exact absurd hop (hna t)
              · rfl
            exact quiet hm hw hna hnal h
      · rename_i j want hg
        have hnal := allocs_noguard (P := e.c.P) hg
        split at h
        · rename_i d hd
          split at h
          · rename_i t ht
            have hw : wantedA ops env o = some (t == want) := by simp only [wantedA, hg, hd, ht]
            by_cases hbw : t = want
            · have hw' : wantedA ops env o = some true := by rw [hw, hbw]; cases want <;> rfl
              have h1 := implB_elim h.1 hbw
              rw [setB_eq (v := want) (by rw [← hbw]; exact ht)] at h1
              split at h1
              · rename_i hm; exact act hm hw' h1
              · rename_i hm
                split at h1
                · exact h1.elim
                · rename_i hna; exact quiet hm hw' hna hnal h1
            · have hbw' : t = !want := by clear h hw act quiet off; cases t <;> cases want <;> first | rfl | exact absurd rfl hbw
              have h2 := implB_elim h.2 hbw'
              rw [setB_eq (v := !want) (by rw [← hbw']; exact ht)] at h2
              exact off (by rw [hw, hbw']; cases want <;> rfl) hnal h2
          · rename_i ht; exact off (by simp only [wantedA, hg, hd, ht]) hnal h
          · exact h.elim
        · exact h.elim

def Env0.drawsW (e : Env0) (tab : Tab) (ops : Array Oper) (fr : Fr) (S : St) (Q : Post1) : Prop :=
  onlyIf (drawOk e.c.P ops (CheckFast.beforeL ops.toList 0 [])) (e.lexW tab ops (CheckFast.beforeL ops.toList 0 []) (e.prealloc ops.toList S) S.H.length fr S Q ops.toList 0 fr.env [e.prealloc ops.toList S] [] [])
theorem drawsW_sound {e : Env0} {tab : Tab} (he : e.call = callOf tab) {ops : Array Oper} {fr : Fr} {S : St} {Q : Post1} (h : e.drawsW tab ops fr S Q) : ∃ r, e.draws ops fr S = some r ∧ Q r.1 r.2.1 r.2.2 := by
  obtain ⟨h1, h2⟩ := onlyIf_iff h
  obtain ⟨r, h3, h4⟩ := lexW_sound he _ _ _ _ _ _ .nil h2
  cases r with
  | ok env Ss recs =>
    obtain ⟨k1, k2⟩ := h4
    exact ⟨(.normal, ⟨env, fr.ds⟩, Ss.headD S), by unfold Env0.draws Env0.drawsAt; rw [if_pos h1, h3]; simp only [k1, if_true], k2⟩
  | panic v S' Ss recs rest =>
    obtain ⟨k1, k2, k3⟩ := h4
    exact ⟨(.panic v, forget ops.toList fr, S'), by unfold Env0.draws Env0.drawsAt; rw [if_pos h1, h3]; simp only [k1, k2, Bool.and_self, if_true], k3⟩
end Go.Ab
end
section
/- CONDITIONS OF CODE; A FUNCTION MEETS ITS CONTRACT. -/
namespace Go.Ab
open Go.RowKit

theorem wk_set : ∀ (env : List SV) (t : Nat), WkL env (env.set t (.undef, .no))
  | [], _ => .nil
  | _ :: xs, 0 => .drop (WkL.refl xs)
  | _ :: xs, t + 1 => .keep (wk_set xs t)
theorem WkL.trans {xs ys zs : List SV} (h : WkL xs ys) (k : WkL ys zs) : WkL xs zs := by
  induction h generalizing zs with
  | nil => exact k
  | keep h ih =>
    cases k with
    | keep k => exact .keep (ih k)
    | drop k => exact .drop (ih k)
    | plain k => exact .plain (ih k)
  | drop h ih =>
    cases k with
    | keep k => exact .drop (ih k)
    | drop k => exact .drop (ih k)
    | plain k => exact .drop (ih k)
  | plain h ih =>
    cases k with
    | keep k => exact .plain (ih k)
    | drop k => exact .drop (ih k)
    | plain k => exact .plain (ih k)
theorem wk_dropped (ts : List Tmp) : ∀ (env : List SV), WkL env (ts.foldl (fun env t => env.set t (.undef, .no)) env) := by
  induction ts with
  | nil => intro env; exact WkL.refl _
  | cons t ts ih => intro env; exact (wk_set env t).trans (ih _)

/-- a value of this kind -/
def CK.has : CK → AV → Bool
  | .int k, .int j _ => decide (j = k)
  | .bool, .bool _ => true
  | .str, .str _ => true
  | .sl, .sl _ => true
  | _, _ => false
/-- some slots of a region's end: their values under new names -/
def openJ : List (Tmp × CK) → Env → List AV → (List AV → Env → Prop) → Prop
  | [], env, acc, K => K acc.reverse env
  | (t, .int k) :: r, env, acc, K => ∀ n : Int, openJ r (env.set t (.int k n, .no)) (.int k n :: acc) K
  | (t, .bool) :: r, env, acc, K => ∀ b : Bool, openJ r (env.set t (.bool b, .no)) (.bool b :: acc) K
  | (t, .str) :: r, env, acc, K => ∀ s : List UInt8, openJ r (env.set t (.str s, .no)) (.str s :: acc) K
  | (t, .sl) :: r, env, acc, K => ∀ xs : List AV, openJ r (env.set t (.sl xs, .no)) (.sl xs :: acc) K
  | (_, .other) :: r, env, acc, K => openJ r env acc K
/-- what a region may have written is forgotten -/
def forgotten (ops : List Oper) (env : Env) : Env := ops.foldl (fun env o => match o.dst with | some d => env.set d (.undef, .no) | none => env) env
def slotsHave (js : List (Tmp × CK)) (env : Env) : Bool := js.all fun j => j.2.has (env.getD j.1 (.undef, .no)).1
def slotsOf (js : List (Tmp × CK)) (env : Env) : List AV := js.map fun j => (env.getD j.1 (.undef, .no)).1

theorem openJ_sound (act : Env) : ∀ (js : List (Tmp × CK)) (env : Env) (acc : List AV) (K : List AV → Env → Prop), slotsHave js act = true → openJ js env acc K →
    K (acc.reverse ++ slotsOf js act) (js.foldl (fun env j => env.set j.1 ((act.getD j.1 (.undef, .no)).1, .no)) env) := by
  intro js
  induction js with
  | nil => intro env acc K _ h; simp only [openJ] at h; simpa [slotsOf] using h
  | cons j js ih =>
    intro env acc K hs h
    obtain ⟨t, k⟩ := j
    simp only [slotsHave, List.all_cons, Bool.and_eq_true] at hs
    have e : ∀ v : AV, (act.getD t (.undef, .no)).1 = v → openJ js (env.set t (v, .no)) (v :: acc) K →
        K (acc.reverse ++ slotsOf ((t, k) :: js) act) (((t, k) :: js).foldl (fun env j => env.set j.1 ((act.getD j.1 (.undef, .no)).1, .no)) env) := by
      intro v hv h
      have := ih _ _ K hs.2 h
      simp only [List.foldl_cons, hv, slotsOf, List.map_cons]
      simpa [slotsOf] using this
    generalize hv : (act.getD t (.undef, .no)).1 = v at hs
    cases k with
    | int k =>
      cases v <;> simp [CK.has] at hs
      obtain ⟨rfl, _⟩ := hs
      exact e _ hv (h _)
    | bool => cases v <;> simp [CK.has] at hs; exact e _ hv (h _)
    | str => cases v <;> simp [CK.has] at hs; exact e _ hv (h _)
    | sl => cases v <;> simp [CK.has] at hs; exact e _ hv (h _)
    | other => simp [CK.has] at hs
theorem forgotten_at (ops : List Oper) : ∀ (env : Env) (t : Nat), (forgotten ops env)[t]? = if ops.any (fun o => o.dst == some t) then (env[t]?).map (fun _ => (AV.undef, Tag.no)) else env[t]? := by
  induction ops with
  | nil => intro env t; simp [forgotten]
  | cons o ops ih =>
    intro env t
    have e : forgotten (o :: ops) env = forgotten ops (match o.dst with | some d => env.set d (.undef, .no) | none => env) := rfl
    rw [e, ih]
    rcases Option.eq_none_or_eq_some o.dst with hd | ⟨d, hd⟩
    · simp [hd]
    · simp only [List.any_cons, hd]
      by_cases h : d = t
      · subst h
        simp only [BEq.rfl, Bool.true_or, if_true]
        rcases Nat.lt_or_ge d env.length with hl | hl
        · simp [hl]
        · rw [List.set_eq_of_length_le hl]; simp [List.getElem?_eq_none hl]
      · have h1 : (some d == some t) = false := by simpa using h
        rw [h1, Bool.false_or, List.getElem?_set_ne h]
theorem forgotten_set {ops : List Oper} {o : Oper} (ho : o ∈ ops) {d : Nat} (hd : o.dst = some d) (env : Env) (v : SV) : forgotten ops (env.set d v) = forgotten ops env := by
  refine List.ext_getElem? fun t => ?_
  rw [forgotten_at, forgotten_at]
  by_cases h : d = t
  · subst h
    have : ops.any (fun o => o.dst == some d) = true := List.any_eq_true.2 ⟨o, ho, by simp [hd]⟩
    rw [this]
    simp only [if_true]
    rcases Nat.lt_or_ge d env.length with hl | hl
    · simp [hl]
    · rw [List.set_eq_of_length_le hl]
  · rw [List.getElem?_set_ne h]
theorem forgotten_put {ops : List Oper} {o : Oper} (ho : o ∈ ops) (fr : Fr) (v : SV) : forgotten ops (fr.put o.dst v).env = forgotten ops fr.env := by
  unfold Fr.put
  split
  · rename_i d hd; exact forgotten_set ho hd _ _
  · rfl
theorem step_forgotten {e : Env0} {ops : Array Oper} {o : Oper} {all : List Oper} (ho : o ∈ all) {fr fr' : Fr} {S S' : St} (h : e.step ops o fr S = some (.ok fr' S')) : forgotten all fr'.env = forgotten all fr.env := by
  unfold Env0.step at h
  split at h <;> first | (cases h; done) | skip
  · cases h; exact forgotten_put ho _ _
  · split at h
    · split at h <;> first | (cases h; done) | skip
      cases h
      exact forgotten_put ho _ _
    · split at h
      · cases h; exact forgotten_put ho _ _
      · split at h
        · cases h; exact forgotten_put ho _ _
        · split at h <;> first | (cases h; done) | skip
          cases h; exact forgotten_put ho _ _
theorem ops_forgotten {e : Env0} {ops : Array Oper} {all : List Oper} : ∀ (l : List Oper), (∀ o ∈ l, o ∈ all) → ∀ (fr fr' : Fr) (S S' : St), e.ops ops l fr S = some (.ok fr' S') → forgotten all fr'.env = forgotten all fr.env := by
  intro l
  induction l with
  | nil => intro _ fr fr' S S' h; simp only [Env0.ops] at h; cases h; rfl
  | cons o l ih =>
    intro hl fr fr' S S' h
    simp only [Env0.ops] at h
    split at h
    · rename_i fr1 S1 h1
      rw [ih (fun o ho => hl o (List.mem_cons_of_mem _ ho)) _ _ _ _ h, step_forgotten (hl o (List.mem_cons_self ..)) h1]
    · rename_i hn; exact absurd h (hn _ _)
theorem lexD_forgotten {e : Env0} {ops : Array Oper} {S0 : St} {base : Nat} {all : List Oper} : ∀ (l : List Oper), (∀ o ∈ l, o ∈ all) → ∀ (al : Nat) (env env' : Env) (Ss Ss' : List St) (recs recs' : List Rec), e.lexD ops S0 base l al env Ss recs = some (.ok env' Ss' recs') →
    forgotten all env' = forgotten all env := by
  intro l
  induction l with
  | nil => intro _ al env env' Ss Ss' recs recs' h; simp only [Env0.lexD] at h; cases h; rfl
  | cons o l ih =>
    intro hl al env env' Ss Ss' recs recs' h
    have ih' := ih (fun o ho => hl o (List.mem_cons_of_mem _ ho))
    have hput : ∀ v, forgotten all (Fr.put ⟨env, []⟩ o.dst v).env = forgotten all env := fun v => forgotten_put (hl o (List.mem_cons_self ..)) _ _
    unfold Env0.lexD at h
    split at h <;> first | (cases h; done) | skip
    simp only at h
    split at h
    · split at h <;> first | (cases h; done) | skip
      · rw [ih' _ _ _ _ _ _ _ h, hput]
      · split at h <;> first | (cases h; done) | skip
        rw [ih' _ _ _ _ _ _ _ h, hput]
    · split at h <;> first | (cases h; done) | skip
      rw [ih' _ _ _ _ _ _ _ h, hput]
theorem wk_forgotten (ops : List Oper) : ∀ (env : List SV), WkL env (forgotten ops env) := by
  induction ops with
  | nil => intro env; exact WkL.refl _
  | cons o ops ih =>
    intro env
    have e : forgotten (o :: ops) env = forgotten ops (match o.dst with | some d => env.set d (.undef, .no) | none => env) := rfl
    rw [e]
    cases o.dst with
    | none => exact ih env
    | some d => exact (wk_set env d).trans (ih _)
theorem EnvR.slots {G : Gh} {T : List Nat} {act : Env} {a : Act} (h : EnvR G T act a) : ∀ (js : List (Tmp × CK)) (env : Env), EnvR G T env a → EnvR G T (js.foldl (fun env j => env.set j.1 ((act.getD j.1 (.undef, .no)).1, .no)) env) a := by
  intro js
  induction js with
  | nil => intro env he; exact he
  | cons j js ih =>
    intro env he
    refine ih _ ⟨by simp [he.len], fun i h1 h2 => ?_⟩
    simp only [List.length_set] at h1
    by_cases e : j.1 = i
    · subst e
      simp only [List.getElem_set_self]
      have hl : j.1 < act.length := by rw [h.len]; exact h2
      have e2 : act.getD j.1 (.undef, .no) = act[j.1] := by simp [List.getD, List.getElem?_eq_getElem hl]
      rw [e2]
      exact .no (h.at_ j.1 hl h2).1
    · rw [List.getElem_set_ne e]; exact he.at_ i h1 h2
/-! ### frames and states worked out -/
def forceV (x : SV) (K : SV → Prop) : Prop := match x with
  | (.undef, .no) => K (.undef, .no)
  | (.int k n, .no) => K (.int k n, .no)
  | (.bool b, .no) => K (.bool b, .no)
  | (.str s, .no) => K (.str s, .no)
  | (.ptr b o, .no) => K (.ptr b o, .no)
  | (.sl xs, .no) => K (.sl xs, .no)
  | (.sl xs, .tok i) => K (.sl xs, .tok i)
  | (.tup vs, .no) => K (.tup vs, .no)
  | (a, t) => K (a, t)
theorem forceV_eq (x : SV) (K : SV → Prop) : forceV x K = K x := by
  unfold forceV
  split <;> rfl
def forceL : List SV → (List SV → Prop) → Prop
  | [], K => K []
  | x :: xs, K => forceV x fun x => forceL xs fun xs => K (x :: xs)
theorem forceL_eq : ∀ (l : List SV) (K : List SV → Prop), forceL l K = K l
  | [], K => rfl
  | x :: xs, K => by simp only [forceL, forceV_eq, forceL_eq xs]
def forceB : List Blk → (List Blk → Prop) → Prop
  | [], K => K []
  | x :: xs, K => forceL x fun x => forceB xs fun xs => K (x :: xs)
theorem forceB_eq : ∀ (l : List Blk) (K : List Blk → Prop), forceB l K = K l
  | [], K => rfl
  | x :: xs, K => by simp only [forceB, forceL_eq, forceB_eq xs]
def forceT : List Nat → (List Nat → Prop) → Prop
  | [], K => K []
  | x :: xs, K => forceT xs fun xs => K (x :: xs)
theorem forceT_eq : ∀ (l : List Nat) (K : List Nat → Prop), forceT l K = K l
  | [], K => rfl
  | x :: xs, K => by simp only [forceT, forceT_eq xs]
structure Gen where
  tab : Tab
  join : Nat → Option (List (Tmp × CK))
  at_ : List Nat → Option (Fr → St → Post1 → Prop)

def Env0.regionW (e : Env0) (g : Gen) (id : Nat) (ops : Array Oper) (draw : Bool) (fr : Fr) (S : St) (Q : Post1) : Prop :=
  match g.join id with
  | none => match draw with
    | true => e.drawsW g.tab ops fr S fun ex fr' S' => Q ex (dropped (e.drop id) fr') S'
    | false => e.opsW g.tab ops (fun ex fr' S' => Q ex (dropped (e.drop id) fr') S') ops.toList fr S
  | some js => ∃ J : List AV → Prop,
    (match draw with
    | true => e.drawsW g.tab ops fr S fun ex fr' S' => match ex with
      | .normal => onlyIf (slotsHave js fr'.env) (S' = S ∧ fr'.ds = fr.ds ∧ J (slotsOf js fr'.env))
      | ex => Q ex (dropped (e.drop id) fr') S'
    | false => e.opsW g.tab ops (fun ex fr' S' => match ex with
      | .normal => onlyIf (slotsHave js fr'.env) (S' = S ∧ fr'.ds = fr.ds ∧ J (slotsOf js fr'.env))
      | ex => Q ex (dropped (e.drop id) fr') S') ops.toList fr S) ∧
    openJ js (forgotten ops.toList fr.env) [] fun vs env => J vs → Q .normal ⟨env, fr.ds⟩ S

def subR : List Nat → Code → Code
  | [], k => k
  | d :: p, k => match d, subR p k with
    | 0, .seq a _ => a
    | _, .seq _ b => b
    | 0, .cond _ a _ => a
    | _, .cond _ _ b => b
    | _, .block _ b => b
    | _, .loop b => b
    | _, k => k

def Env0.codeW (e : Env0) (g : Gen) : List Nat → Code → Fr → St → Post1 → Prop
  | p, .seq a b, fr, S, Q => match g.at_ p with
    | some L => L fr S Q
    | none => e.codeW g (0 :: p) a fr S fun ex fr S => match ex with
      | .normal => e.codeW g (1 :: p) b fr S Q
      | ex => Q ex fr S
  | _, .skip, fr, S, Q => Q .normal fr S
  | _, .label _, fr, S, Q => Q .normal fr S
  | _, .region id ops draw, fr, S, Q => forceL fr.env fun env => e.regionW g id ops draw ⟨env, fr.ds⟩ S Q
  | p, .cond x a b, fr, S, Q => match g.at_ p with
    | some L => L fr S Q
    | none => match (e.c.eval fr.env x).1 with
      | .bool t => implB t true (e.codeW g (0 :: p) a fr S Q) ∧ implB t false (e.codeW g (1 :: p) b fr S Q)
      | _ => False
  | p, .block id body, fr, S, Q => match g.at_ p with
    | some L => L fr S Q
    | none => e.codeW g (0 :: p) body fr S fun ex fr S => match ex with
      | .exit id' => if id' = id then Q .normal fr S else Q (.exit id') fr S
      | ex => Q ex fr S
  | p, .loop body, fr, S, Q => match g.at_ p with
    | some L => L fr S Q
    | none => e.codeW g (0 :: p) body fr S fun ex fr S => match ex with
      | .normal => False
      | ex => Q ex fr S
  | _, .exit id, fr, S, Q => Q (.exit id) fr S
  | _, .ret, fr, S, Q => Q .ret fr S
  | _, _, _, _, _ => False

section
variable {c : Ctx} {n0 m0 : Nat}

theorem regionW_sound {e : Env0} {g : Gen} (he : e.c = c) (hn : e.n0 = n0) (hcall : e.call = callOf g.tab) (hm : c.P.follows .mixedOrders = true) (ht : TabSound c g.tab) {id : Nat} {ops : Array Oper} {draw : Bool} {fr : Fr} {S : St} {Q : Post1}
    (h : e.regionW g id ops draw fr S Q) : CodeH c n0 m0 (.region id ops draw) fr S Q := by
  have hcs : CallSound c e.call := by rw [hcall]; exact tab_sound ht
  have hct : CallTags e.call := by rw [hcall]; exact tab_tags g.tab
  have run : ∀ {Q : Post1}, (match draw with
      | true => e.drawsW g.tab ops fr S Q
      | false => e.opsW g.tab ops Q ops.toList fr S) → CodeH c n0 m0 (.region id ops draw) fr S Q := by
    intro Q h
    cases draw with
    | true =>
      obtain ⟨r, h1, h2⟩ := drawsW_sound hcall h
      exact CodeH.region he hm hcs hct hn (by simp only [Env0.region, if_true]; exact h1) h2
    | false =>
      obtain ⟨r, h1, h2⟩ := opsW_sound hcall _ _ _ h
      cases r with
      | ok fr' S' => exact CodeH.region (r := (.normal, fr', S')) he hm hcs hct hn (by simp [Env0.region, h1]) h2
      | panic v fr' S' => exact CodeH.region (r := (.panic v, fr', S')) he hm hcs hct hn (by simp [Env0.region, h1]) h2
  have drp : ∀ ex (fr' : Fr) S', Q ex (dropped (e.drop id) fr') S' → ∀ B w0 G0 T0 (Q' : Exit → Act → World → Prop), PostH c B w0 G0 T0 Q Q' → ∀ G ex' a w, ExR G ex ex' → Inv c B w0 G S' w → Grows G0 T0 G S'.T → FrR G S'.T fr' a → TagsLow G0.φ.length T0.length S' → Q' ex' a w :=
    fun ex fr' S' hq B w0 G0 T0 Q' hp G ex' a w k1 k2 k3 k4 k5 => hp _ _ _ hq G ex' a w k1 k2 k3 ⟨k4.env.wk (wk_dropped _ _), k4.ds⟩ k5
  unfold Env0.regionW at h
  split at h
  · have h1 : CodeH c n0 m0 (.region id ops draw) fr S fun ex fr' S' => Q ex (dropped (e.drop id) fr') S' := by
      refine run ?_
      cases draw <;> exact h
    exact fun B w0 G0 T0 G a w Q' k1 k2 k3 k4 k5 k6 k7 => h1 B w0 G0 T0 G a w Q' k1 k2 k3 k4 k5 k6 fun ex fr' S' hq => drp ex fr' S' hq B w0 G0 T0 Q' k7
  · rename_i js hj
    obtain ⟨J, h1, h2⟩ := h
    have h3 : CodeH c n0 m0 (.region id ops draw) fr S fun ex fr' S' => (match ex with
        | .normal => onlyIf (slotsHave js fr'.env) (S' = S ∧ fr'.ds = fr.ds ∧ J (slotsOf js fr'.env))
        | ex => Q ex (dropped (e.drop id) fr') S') ∧ (ex = .normal → forgotten ops.toList fr'.env = forgotten ops.toList fr.env) := by
      cases draw with
      | true =>
        obtain ⟨r, q1, q2⟩ := drawsW_sound hcall h1
        refine CodeH.region he hm hcs hct hn (by simp only [Env0.region, if_true]; exact q1) ⟨q2, fun hex => ?_⟩
        unfold Env0.draws Env0.drawsAt at q1
        have q1 := (Option.ite_none_right_eq_some.1 q1).2
        split at q1
        · rename_i hl
          have q1 := (Option.ite_none_right_eq_some.1 q1).2
          cases q1
          exact lexD_forgotten _ (fun o ho => ho) _ _ _ _ _ _ _ hl
        · have q1 := (Option.ite_none_right_eq_some.1 q1).2
          cases q1
          cases hex
        · cases q1
      | false =>
        obtain ⟨r, q1, q2⟩ := opsW_sound hcall _ _ _ h1
        cases r with
        | ok fr' S' => exact CodeH.region (r := (.normal, fr', S')) he hm hcs hct hn (by simp [Env0.region, q1]) ⟨q2, fun _ => ops_forgotten _ (fun o ho => ho) _ _ _ _ q1⟩
        | panic v fr' S' => exact CodeH.region (r := (.panic v, fr', S')) he hm hcs hct hn (by simp [Env0.region, q1]) ⟨q2, fun hex => by cases hex⟩
    intro B w0 G0 T0 G a w Q' k1 k2 k3 k4 k5 k6 k7
    refine h3 B w0 G0 T0 G a w Q' k1 k2 k3 k4 k5 k6 fun ex fr' S' hq G1 ex' a1 w1 m1 m2 m3 m4 m5 => ?_
    obtain ⟨hq, hfg⟩ := hq
    cases ex with
    | normal =>
      obtain ⟨q1, q2, q3, q4⟩ := onlyIf_iff hq
      subst q2
      have hJ := openJ_sound fr'.env js _ [] _ q1 h2
      have hq2 := hJ (by simpa using q4)
      refine k7 _ _ _ hq2 G1 ex' a1 w1 m1 m2 m3 ⟨?_, by rw [← q3]; exact m4.ds⟩ m5
      rw [← hfg rfl]
      exact m4.env.slots js _ (m4.env.wk (wk_forgotten _ _))
    | exit i => exact drp _ _ _ hq B w0 G0 T0 Q' k7 G1 ex' a1 w1 m1 m2 m3 m4 m5
    | ret => exact drp _ _ _ hq B w0 G0 T0 Q' k7 G1 ex' a1 w1 m1 m2 m3 m4 m5
    | panic v => exact drp _ _ _ hq B w0 G0 T0 Q' k7 G1 ex' a1 w1 m1 m2 m3 m4 m5

/-- what is said of the pieces holds -/
def AtSound (c : Ctx) (n0 m0 : Nat) (g : Gen) (root : Code) : Prop := ∀ p L, g.at_ p = some L → ∀ fr S Q, L fr S Q → CodeH c n0 m0 (subR p root) fr S Q
theorem codeW_sound {e : Env0} {g : Gen} (he : e.c = c) (hn : e.n0 = n0) (hcall : e.call = callOf g.tab) (hm : c.P.follows .mixedOrders = true) (ht : TabSound c g.tab) {root : Code} (hat : AtSound c n0 m0 g root) :
    ∀ (k : Code) (p : List Nat), subR p root = k → ∀ (fr : Fr) (S : St) (Q : Post1), e.codeW g p k fr S Q → CodeH c n0 m0 k fr S Q := by
  intro k
  induction k with
  | skip => intro p _ fr S Q h; exact .skip h
  | label => intro p _ fr S Q h; exact .label h
  | exit id => intro p _ fr S Q h; exact .exit h
  | ret => intro p _ fr S Q h; exact .ret h
  | region id ops draw => intro p _ fr S Q h; simp only [Env0.codeW, forceL_eq] at h; exact regionW_sound he hn hcall hm ht h
  | seq a b iha ihb =>
    intro p hp fr S Q h
    simp only [Env0.codeW] at h
    split at h
    · rename_i L hL; have := hat p L hL _ _ _ h; rw [hp] at this; exact this
    · refine .seq ((iha (0 :: p) (by simp [subR, hp]) _ _ _ h).mono fun ex fr S hq => ?_)
      cases ex with
      | normal => exact ihb (1 :: p) (by simp [subR, hp]) _ _ _ hq
      | _ => exact hq
  | cond x a b iha ihb =>
    intro p hp fr S Q h
    simp only [Env0.codeW] at h
    split at h
    · rename_i L hL; have := hat p L hL _ _ _ h; rw [hp] at this; exact this
    · split at h
      · rename_i t hx
        refine .cond (by rw [← he]; exact hx) (fun e => iha (0 :: p) (by simp [subR, hp]) _ _ _ (implB_elim h.1 e)) (fun e => ihb (1 :: p) (by simp [subR, hp]) _ _ _ (implB_elim h.2 e))
      · exact h.elim
  | block id body ih =>
    intro p hp fr S Q h
    simp only [Env0.codeW] at h
    split at h
    · rename_i L hL; have := hat p L hL _ _ _ h; rw [hp] at this; exact this
    · refine .block ((ih (0 :: p) (by simp [subR, hp]) _ _ _ h).mono fun ex fr S hq => ?_)
      cases ex <;> exact hq
  | loop body ih =>
    intro p hp fr S Q h
    simp only [Env0.codeW] at h
    split at h
    · rename_i L hL; have := hat p L hL _ _ _ h; rw [hp] at this; exact this
    · refine CodeH.loop (fun _ fr' S' => fr' = fr ∧ S' = S) (fun m fr' S' hI => ?_) (m := 0) ⟨rfl, rfl⟩
      obtain ⟨rfl, rfl⟩ := hI
      refine (ih (0 :: p) (by simp [subR, hp]) _ _ _ h).mono fun ex fr S hq => ?_
      cases ex with
      | normal => exact hq.elim
      | _ => exact hq
  | rangeFunc => intro p _ fr S Q h; simp [Env0.codeW] at h
  | scope => intro p _ fr S Q h; simp [Env0.codeW] at h
  | goto => intro p _ fr S Q h; simp [Env0.codeW] at h
  | refuse => intro p _ fr S Q h; simp [Env0.codeW] at h

/-! ### the end of a function -/
/-- how results leave: 'plain': without their tokens; 'whole': with all that was made -/
inductive Leave where
  | plain
  | whole
  /-- plain, where the results' parts are not looked at one by one -/
  | great
def resW (c : Ctx) (env : Env) (S : St) : List ResultVar → List SV → (List SV → Prop) → Prop
  | [], acc, K => K acc.reverse
  | .tmp t :: r, acc, K => resW c env S r (env.getD t (.undef, .no) :: acc) K
  | .cell a t :: r, acc, K => match env.getD a (.undef, .no) with
    | (.ptr b o, _) => match S.H[b]? with
      | some cells => loadW c t .no cells o fun v => resW c env S r (v :: acc) K
      | none => False
    | _ => False
theorem resW_sound {env : Env} {S : St} : ∀ {rs : List ResultVar} {acc : List SV} {K : List SV → Prop}, resW c env S rs acc K → ∃ vs, allSome (rs.map (c.result env S)) = some vs ∧ K (acc.reverse ++ vs)
  | [], acc, K, h => ⟨[], rfl, by simpa [resW] using h⟩
  | .tmp t :: r, acc, K, h => by
    simp only [resW] at h
    obtain ⟨vs, h1, h2⟩ := resW_sound h
    exact ⟨env.getD t (.undef, .no) :: vs, by simp only [List.map_cons, Ctx.result, allSome, h1, Option.map_some], by simpa using h2⟩
  | .cell a t :: r, acc, K, h => by
    simp only [resW] at h
    split at h
    · rename_i b o tg ha
      split at h
      · rename_i cells hc
        obtain ⟨v, h1, h2⟩ := loadW_sound h
        obtain ⟨vs, h3, h4⟩ := resW_sound h2
        exact ⟨v :: vs, by simp only [List.map_cons, Ctx.result, ha, hc, h1, allSome, h3, Option.map_some], by simpa using h4⟩
      · exact h.elim
    · exact h.elim

def leaveW (lv : Leave) (n0 m0 : Nat) (vs : List SV) (S : St) (K : SV → St → Prop) : Prop := match lv with
  | .plain => lowAll n0 vs (K (asOne (vs.map fun v => (v.1, .no))) ⟨S.H.take n0, S.T.take m0⟩)
  | .whole => K (asOne vs) S
  | .great => (∀ v ∈ vs, v.1.low n0 = true) ∧ K (asOne (vs.map fun v => (v.1, .no))) ⟨S.H.take n0, S.T.take m0⟩
theorem RSl.plain {G : Gh} {T T' : List Nat} {n m : Nat} {xs : List SV} {us : List Value} (h : RSl G T xs us) : (∀ v ∈ xs, v.1.low n = true) → RSl (G.cut n m) T' (xs.map fun v => (v.1, .no)) us := by
  induction h with
  | nil => intro _; exact .nil
  | cons hx _ ih => intro hl; exact .cons (.no (hx.1.cut (hl _ (List.mem_cons_self ..)))) (ih fun y hy => hl y (List.mem_cons_of_mem _ hy))
/-- a call's end -/
def endW (c : Ctx) (lv : Leave) (fn : Func) (n0 m0 : Nat) (K : SV → St → Prop) (Kp : AV → St → Prop) : Post1 := fun ex fr S => match fr.ds with
  | [] => match ex with
    | .normal | .ret => resW c fr.env S fn.results.toList [] fun vs => leaveW lv n0 m0 vs S K
    | .panic v => lowW n0 v (Kp v ⟨S.H.take n0, S.T.take m0⟩)
    | _ => False
  | _ => False

/-- what a body's end may come to -/
def Ends (c : Ctx) (pre : TypeId → Bool) (call : CallFn) (fn : Func) (n0 m0 : Nat) (p : COut × St) : Post1 := fun ex fr S =>
  (∃ n, c.ends pre call n fn n0 m0 (some (ex, fr, S)) = some p) ∨
  (fr.ds = [] ∧ (ex = .normal ∨ ex = .ret) ∧ ∃ vs, allSome (fn.results.toList.map (c.result fr.env S)) = some vs ∧
    ((∀ v ∈ vs, v.1.low n0 = true) ∧ p = (.ret (asOne (vs.map fun v => (v.1, .no))), ⟨S.H.take n0, S.T.take m0⟩) ∨ p = (.ret (asOne vs), S)))
theorem endW_ends {pre : TypeId → Bool} {call : CallFn} {lv : Leave} {fn : Func} {K : SV → St → Prop} {Kp : AV → St → Prop} {ex : Ex} {fr : Fr} {S : St} (h : endW c lv fn n0 m0 K Kp ex fr S) : ∃ p, Ends c pre call fn n0 m0 p ex fr S ∧ outTo p K Kp := by
  unfold endW at h
  have res : (ex = .normal ∨ ex = .ret) → fr.ds = [] → resW c fr.env S fn.results.toList [] (fun vs => leaveW lv n0 m0 vs S K) → ∃ p, Ends c pre call fn n0 m0 p ex fr S ∧ outTo p K Kp := by
    intro hex hds h
    obtain ⟨vs, h1, h2⟩ := resW_sound h
    simp only [List.reverse_nil, List.nil_append] at h2
    cases lv with
    | plain =>
      obtain ⟨h3, h4⟩ := lowAll_iff h2
      exact ⟨_, .inr ⟨hds, hex, vs, h1, .inl ⟨h3, rfl⟩⟩, h4⟩
    | whole => exact ⟨_, .inr ⟨hds, hex, vs, h1, .inr rfl⟩, h2⟩
    | great => exact ⟨_, .inr ⟨hds, hex, vs, h1, .inl ⟨h2.1, rfl⟩⟩, h2.2⟩
  split at h
  · rename_i hds
    split at h
    · exact res (.inl rfl) hds h
    · exact res (.inr rfl) hds h
    · rename_i v
      obtain ⟨h1, h2⟩ := lowW_iff h
      obtain ⟨env, ds⟩ := fr
      simp only at hds
      subst hds
      exact ⟨(.panic v, ⟨S.H.take n0, S.T.take m0⟩), .inl ⟨0, by simp only [Ctx.ends, panicked, h1, if_true]⟩, h2⟩
    · exact h.elim
  · exact h.elim

/-- A FUNCTION MEETS ITS CONTRACT -/
theorem fn_sound {pre : TypeId → Bool} {tab : Tab} (hm : c.P.follows .mixedOrders = true) (ht : TabSound c tab) (hname : ∀ (f : FuncId) (fn : Func), c.P.funcs[f]? = some fn → (fn.name == "runtime.NumGoroutine") = false) {f : FuncId} {fn : Func} {k : Code}
    (hf : c.P.funcs[f]? = some fn) (hb : fn.body = some k) {sp : Spec}
    (h : ∀ args S K Kp, (sp.res args S).wp K Kp → CodeH c S.H.length S.T.length k (frame0 fn args) S fun ex fr S1 => ∃ p, Ends c pre (callOf tab) fn S.H.length S.T.length p ex fr S1 ∧ outTo p K Kp) : SpecSound c f sp := by
  intro args S p hp B w0 G w vs inv ha
  have htags := tab_tags tab
  have hcall := tab_sound ht
  have hd : ∀ (S : St) (d : Nat → List Tmp), DrawSound c B w0 ⟨c, pre, S.H.length, S.T.length, callOf tab, d⟩ := fun S d => draws_sound rfl hm hcall
  refine .inl ⟨enter_run hf (hname f fn hf) hb _ _, calls_of_wp_defers hf hb ?_⟩
  refine h args S _ _ hp B w0 G S.T G _ w _ inv.lenφ rfl inv (.refl _ _) (frame0_sound ha) (fun b cells hb hc x hx => inv.tag b cells hc x hx) fun ex fr S1 hq G' ex' a' w' h1 h2 h3 h4 h5 => ?_
  obtain ⟨p', he, hto⟩ := hq
  have hpp : p = p' := by
    unfold outTo at hto
    obtain ⟨o, S2⟩ := p'
    cases o <;> exact hto
  subst hpp
  have hlen : S.H.length ≤ S1.H.length := by rw [← inv.lenφ, ← h2.lenφ]; exact len_le_of h3.φ
  have htl : TagsLow S.H.length S.T.length S1 := by rw [inv.lenφ] at h5; exact h5
  rcases he with ⟨n, he⟩ | ⟨hds, hex, vs', hvs, hout⟩
  · obtain ⟨out, S2⟩ := p
    exact ends_sound (q := (ex, fr, S1)) hcall htags hd hname inv htl hlen he G' ex' a' w' h1 h2 h3 h4
  · have hds' : a'.defers = [] := by
      have := h4.ds
      rw [hds] at this
      cases hd2 : a'.defers with
      | nil => rfl
      | cons x xs => rw [hd2] at this; exact this.elim
    obtain ⟨us, r1, r2⟩ := results_sound h2 h4.env hvs
    have fin : ∃ v, (results fn a'.tmps).run c.P w' = .ok v w' ∧ ∃ G'', Inv c B w0 G'' p.2 w' ∧ Grows G S.T G'' p.2.T ∧ OutR G'' p.2.T p.1 (.returned v) := by
      refine ⟨_, r1, ?_⟩
      rcases hout with ⟨hl, rfl⟩ | rfl
      · have i2 := h2.cut htl
        have g2 := h3.cut (n := S.H.length) (m := S.T.length) (by rw [inv.lenφ]; exact Nat.le_refl _) (Nat.le_refl _)
        refine ⟨_, i2, g2, ?_⟩
        have hrl : RSl (G'.cut S.H.length S.T.length) (S1.T.take S.T.length) (vs'.map fun v => (v.1, .no)) us := r2.plain hl
        exact hrl.one
      · exact ⟨_, h2, h3, r2.one⟩
    rcases hex with rfl | rfl <;> cases ex' <;> simp only [ExR] at h1
    · show Leaves _ _ _ _ a'.defers _ _
      rw [hds']; exact fin
    · show Leaves _ _ _ _ a'.defers _ _
      rw [hds']; exact fin

/-- the way it is used -/
theorem fn_meets {pre : TypeId → Bool} {g : Gen} (hm : c.P.follows .mixedOrders = true) (ht : TabSound c g.tab) (hname : ∀ (f : FuncId) (fn : Func), c.P.funcs[f]? = some fn → (fn.name == "runtime.NumGoroutine") = false) {f : FuncId} {fn : Func} {k : Code}
    (hf : c.P.funcs[f]? = some fn) (hb : fn.body = some k) {sp : Spec} (lv : Leave) (hat : ∀ n0 m0, AtSound c n0 m0 g k)
    (h : ∀ args S K Kp, (sp.res args S).wp K Kp → Env0.codeW ⟨c, pre, S.H.length, S.T.length, callOf g.tab, c.drop f⟩ g [] k (frame0 fn args) S (endW c lv fn S.H.length S.T.length K Kp)) : SpecSound c f sp :=
  fn_sound (pre := pre) hm ht hname hf hb fun args S K Kp hw =>
    (codeW_sound (e := ⟨c, pre, S.H.length, S.T.length, callOf g.tab, c.drop f⟩) rfl rfl rfl hm ht (hat _ _) k [] rfl _ _ _ (h args S K Kp hw)).mono fun _ _ _ hq => endW_ends hq

theorem fn_meets2 {pre : TypeId → Bool} {g : Gen} (hm : c.P.follows .mixedOrders = true) (ht : TabSound c g.tab) (hname : ∀ (f : FuncId) (fn : Func), c.P.funcs[f]? = some fn → (fn.name == "runtime.NumGoroutine") = false) {f : FuncId} {fn : Func} {k : Code}
    (hf : c.P.funcs[f]? = some fn) (hb : fn.body = some k) {sp : Spec} (lv : Leave)
    (h : ∀ args S K Kp, (sp.res args S).wp K Kp → AtSound c S.H.length S.T.length g k ∧ Env0.codeW ⟨c, pre, S.H.length, S.T.length, callOf g.tab, c.drop f⟩ g [] k (frame0 fn args) S (endW c lv fn S.H.length S.T.length K Kp)) : SpecSound c f sp :=
  fn_sound (pre := pre) hm ht hname hf hb fun args S K Kp hw =>
    (codeW_sound (e := ⟨c, pre, S.H.length, S.T.length, callOf g.tab, c.drop f⟩) rfl rfl rfl hm ht (h args S K Kp hw).1 k [] rfl _ _ _ (h args S K Kp hw).2).mono fun _ _ _ hq => endW_ends hq
/-- a loop of few rounds, gone through one by one -/
def unrW (e : Env0) (g : Gen) (p : List Nat) (body : Code) : Nat → Fr → St → Post1 → Prop
  | 0, _, _, _ => False
  | n + 1, fr, S, Q => e.codeW g p body fr S fun ex fr' S' => match ex with
    | .normal => unrW e g p body n fr' S' Q
    | ex => Q ex fr' S'
theorem unrW_sound {e : Env0} {g : Gen} (he : e.c = c) (hn : e.n0 = n0) (hcall : e.call = callOf g.tab) (hm : c.P.follows .mixedOrders = true) (ht : TabSound c g.tab) {root : Code} (hat : AtSound c n0 m0 g root) {p : List Nat} {body : Code} (hp : subR p root = body)
    {n : Nat} {fr : Fr} {S : St} {Q : Post1} (h : unrW e g p body n fr S Q) : CodeH c n0 m0 (.loop body) fr S Q := by
  refine CodeH.loop (fun m fr S => unrW e g p body m fr S Q) (fun m fr S hI => ?_) h
  cases m with
  | zero => exact hI.elim
  | succ m => exact (codeW_sound he hn hcall hm ht hat body p hp _ _ _ hI).mono fun ex fr' S' hq => match ex, hq with
    | .normal, hq => ⟨m, fr', S', Nat.lt_succ_self m, .refl _ _, hq⟩
    | .exit _, hq => hq
    | .ret, hq => hq
    | .panic _, hq => hq

/-- a table out of a list -/
def tabL : List (FuncId × Spec) → Tab
  | [], _ => none
  | (g, sp) :: r, f => match Nat.beq g f with
    | true => some sp
    | false => tabL r f
theorem tabL_nil : TabSound c (tabL []) := fun _ _ h => by cases h
theorem tabL_cons {f : FuncId} {sp : Spec} {l : List (FuncId × Spec)} (h : SpecSound c f sp) (k : TabSound c (tabL l)) : TabSound c (tabL ((f, sp) :: l)) := by
  intro g s hg
  simp only [tabL] at hg
  split at hg
  · rename_i e
    obtain rfl := Nat.eq_of_beq_eq_true e
    cases hg
    exact h
  · exact k g s hg
theorem at_none {g : Gen} {root : Code} (h : ∀ p, g.at_ p = none) : AtSound c n0 m0 g root := fun p L hL => by rw [h p] at hL; cases hL
/-- pieces out of a list -/
def atL : List (List Nat × (Fr → St → Post1 → Prop)) → List Nat → Option (Fr → St → Post1 → Prop)
  | [], _ => none
  | (q, L) :: r, p => match q == p with
    | true => some L
    | false => atL r p
theorem at_cons {tab : Tab} {j : Nat → Option (List (Tmp × CK))} {q : List Nat} {L : Fr → St → Post1 → Prop} {l : List (List Nat × (Fr → St → Post1 → Prop))} {root : Code} (h : ∀ fr S Q, L fr S Q → CodeH c n0 m0 (subR q root) fr S Q)
    (k : AtSound c n0 m0 ⟨tab, j, atL l⟩ root) : AtSound c n0 m0 ⟨tab, j, atL ((q, L) :: l)⟩ root := by
  intro p M hM
  simp only [atL] at hM
  split at hM
  · rename_i e
    obtain rfl := eq_of_beq e
    cases hM
    exact h
  · exact k p M hM
theorem at_nil {tab : Tab} {j : Nat → Option (List (Tmp × CK))} {root : Code} : AtSound c n0 m0 ⟨tab, j, atL []⟩ root := fun p L hL => by cases hL
/-- a contract out of a run that the kernel works out -/
theorem spec_of_run {pre : TypeId → Bool} (hm : c.P.follows .mixedOrders = true) (hname : ∀ (f : FuncId) (fn : Func), c.P.funcs[f]? = some fn → (fn.name == "runtime.NumGoroutine") = false) {n : Nat} {f : FuncId} {args : List SV} {S : St} {p : COut × St}
    (h : Ctx.call c pre (fun _ => none) n f args S = some p) : ∀ (B : Bd) (w0 : World) (G : Gh) (w : World) (vs : Array Value), Inv c B w0 G S w → RArgs G S.T args vs →
      CallTo c.P f vs w fun en w' => ∃ G', Inv c B w0 G' p.2 w' ∧ Grows G S.T G' p.2.T ∧ OutR G' p.2.T p.1 en := by
  obtain ⟨out, S'⟩ := p
  exact run_sound hm hname (fun _ _ h => by cases h) n f args S out S' h
end
end Go.Ab
end
