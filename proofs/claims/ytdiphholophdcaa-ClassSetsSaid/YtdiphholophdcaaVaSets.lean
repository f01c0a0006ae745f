/- ClassSets returns true for every two sets and every two bytes, and changes nothing that it was handed; no condition. Proved by contracts of its functions over the verified abstract run. -/
import Derived.Test.YtdiphholophdcaaVaNames
import Derived.Test.YtdiphholophdcaaRows
import Derived.WalkKit
import Derived.ProofKit
import Derived.OpenShut
import Derived.ShutString
import Derived.ChangeOld
import Derived.Below
import Derived.SizedLaws
import Derived.Carry
set_option linter.unusedVariables false
set_option linter.unusedSimpArgs false
set_option linter.unnecessarySimpa false
open Go Go.Ab
namespace Go.Proofs.Ytdiphholophdcaa.V.Sets
def wf (w : Int) : Prop := 0 ≤ w ∧ w < 2 ^ 64
theorem ofInt_nat (x : Int) (h : wf x) : (BitVec.ofInt 64 x).toNat = x.toNat := by
  unfold wf at h
  rw [BitVec.toNat_ofInt]
  omega
theorem andI_u64 {x y : Int} (hx : wf x) (hy : wf y) : andI .u64 x y = ((x.toNat &&& y.toNat : Nat) : Int) := by
  have e : andI .u64 x y = IntKind.u64.wrap ((BitVec.ofInt 64 x &&& BitVec.ofInt 64 y).toNat : Int) := rfl
  rw [e, BitVec.toNat_and, ofInt_nat x hx, ofInt_nat y hy, IntKind.wrap_u64]
  have : x.toNat &&& y.toNat < 2 ^ 64 := Nat.and_lt_two_pow _ (by unfold wf at hy; omega)
  omega
theorem orI_u64 {x y : Int} (hx : wf x) (hy : wf y) : orI .u64 x y = ((x.toNat ||| y.toNat : Nat) : Int) ∧ wf (orI .u64 x y) := by
  have e : orI .u64 x y = IntKind.u64.wrap ((BitVec.ofInt 64 x ||| BitVec.ofInt 64 y).toNat : Int) := rfl
  have : x.toNat ||| y.toNat < 2 ^ 64 := Nat.or_lt_two_pow (by unfold wf at hx; omega) (by unfold wf at hy; omega)
  have e2 : orI .u64 x y = ((x.toNat ||| y.toNat : Nat) : Int) := by
    rw [e, BitVec.toNat_or, ofInt_nat x hx, ofInt_nat y hy, IntKind.wrap_u64]
    omega
  refine ⟨e2, ?_⟩
  rw [e2]; unfold wf; omega
theorem shr_nat {w : Int} (hw : wf w) (j : Nat) (hj : j < 64) : w.fdiv (2 ^ min j 64) = ((w.toNat / 2 ^ j : Nat) : Int) := by
  rw [Nat.min_eq_left (by omega), Int.fdiv_eq_ediv_of_nonneg _ (Int.pow_nonneg (by decide))]
  obtain ⟨n, rfl⟩ := Int.eq_ofNat_of_zero_le hw.1
  rw [Int.toNat_natCast, Int.natCast_ediv, Int.natCast_pow]
  rfl
theorem bit_of {w : Int} (hw : wf w) (j : Nat) (hj : j < 64) : (andI .u64 (w.fdiv (2 ^ min j 64)) 1 == 1) = w.toNat.testBit j := by
  rw [shr_nat hw j hj, andI_u64 ⟨Int.natCast_nonneg _, ?_⟩ (by unfold wf; decide), Nat.testBit_eq_decide_div_mod_eq]
  · have e : (1 : Int).toNat = 1 := rfl
    rw [Int.toNat_natCast, e, Nat.and_one_is_mod]
    rw [Bool.eq_iff_iff]
    simp only [beq_iff_eq, decide_eq_true_eq]
    omega
  · have : w.toNat / 2 ^ j ≤ w.toNat := Nat.div_le_self _ _
    unfold wf at hw; omega
/-- a set's bit -/
def hasL (ws : List Int) (c : Nat) : Bool := (ws.getD (c / 64) 0).toNat.testBit (c % 64)
def wfL (ws : List Int) : Prop := ws.length = 4 ∧ ∀ k, k < 4 → wf (ws.getD k 0)
theorem wfL_mk {w0 w1 w2 w3 : Int} (h : wf w0 ∧ wf w1 ∧ wf w2 ∧ wf w3) : wfL [w0, w1, w2, w3] := ⟨rfl, fun k hk => by
  have : k = 0 ∨ k = 1 ∨ k = 2 ∨ k = 3 := by omega
  rcases this with rfl | rfl | rfl | rfl
  · exact h.1
  · exact h.2.1
  · exact h.2.2.1
  · exact h.2.2.2⟩
theorem wfL_all {ws : List Int} (h : wfL ws) : ∃ w0 w1 w2 w3, ws = [w0, w1, w2, w3] ∧ wf w0 ∧ wf w1 ∧ wf w2 ∧ wf w3 := by
  obtain ⟨h1, h2⟩ := h
  match ws, h1 with
  | [a, b, c, d], _ => exact ⟨a, b, c, d, rfl, h2 0 (by decide), h2 1 (by decide), h2 2 (by decide), h2 3 (by decide)⟩
theorem hasZ_bit {w0 w1 w2 w3 : Int} (h : wf w0 ∧ wf w1 ∧ wf w2 ∧ wf w3) (c : Nat) (hc : c < 256) : hasZ w0 w1 w2 w3 (c : Int) = hasL [w0, w1, w2, w3] c := by
  have e1 : ((c : Int) / 64).toNat = c / 64 := by omega
  have e2 : ((c : Int) % 64).toNat = c % 64 := by omega
  unfold hasZ hasL
  rw [e1, e2]
  exact bit_of ((wfL_mk h).2 (c / 64) (by omega)) _ (by omega)
def addL (ws : List Int) (c : Int) : List Int := ws.set (c / 64).toNat (orI .u64 (ws.getD (c / 64).toNat 0) (2 ^ (c % 64).toNat))
theorem pow_wf (j : Nat) (hj : j < 64) : wf (2 ^ j) ∧ (2 ^ j : Int).toNat = 2 ^ j := by
  have h : (2 : Int) ^ j = ((2 ^ j : Nat) : Int) := by rw [Int.natCast_pow]; rfl
  have h2 : 2 ^ j < 2 ^ 64 := Nat.pow_lt_pow_right (by decide) hj
  have h3 : (2 : Int) ^ 64 = ((2 ^ 64 : Nat) : Int) := rfl
  unfold wf
  rw [h, h3]
  generalize 2 ^ j = m at *
  omega
theorem addL_bit {ws : List Int} (h : wfL ws) (c : Nat) (hc : c < 256) : wfL (addL ws c) ∧ ∀ d, d < 256 → hasL (addL ws c) d = (hasL ws d || d == c) := by
  have e1 : ((c : Int) / 64).toNat = c / 64 := by omega
  have e2 : ((c : Int) % 64).toNat = c % 64 := by omega
  obtain ⟨p1, p2⟩ := pow_wf (c % 64) (by omega)
  obtain ⟨o1, o2⟩ := orI_u64 (h.2 (c / 64) (by omega)) p1
  unfold addL
  rw [e1, e2]
  refine ⟨⟨by rw [List.length_set]; exact h.1, fun k hk => ?_⟩, fun d hd => ?_⟩
  · by_cases e : k = c / 64
    · rw [e, List.getD_eq_getElem?_getD, List.getElem?_set_self (by rw [h.1]; omega)]; exact o2
    · rw [List.getD_eq_getElem?_getD, List.getElem?_set_ne (fun x => e x.symm), ← List.getD_eq_getElem?_getD]; exact h.2 k hk
  · unfold hasL
    by_cases e : d / 64 = c / 64
    · rw [e, List.getD_eq_getElem?_getD (l := ws.set _ _), List.getElem?_set_self (by rw [h.1]; omega), Option.getD_some, o1, Int.toNat_natCast, Nat.testBit_or, p2, Nat.testBit_two_pow]
      congr 1
      rw [Bool.eq_iff_iff]
      simp only [decide_eq_true_eq, beq_iff_eq]
      omega
    · rw [List.getD_eq_getElem?_getD (l := ws.set _ _), List.getElem?_set_ne (fun x => e x.symm), ← List.getD_eq_getElem?_getD]
      have : (d == c) = false := by rw [beq_eq_false_iff_ne]; intro x; exact e (by rw [x])
      rw [this, Bool.or_false]
def addR : Nat → List Int → Int → List Int
  | 0, ws, _ => ws
  | n + 1, ws, c => addR n (addL ws c) (c + 1)
theorem addR_bit : ∀ (n : Nat) (ws : List Int) (c : Nat), wfL ws → c + n ≤ 256 → wfL (addR n ws c) ∧ ∀ d, d < 256 → hasL (addR n ws c) d = (hasL ws d || (decide (c ≤ d) && decide (d < c + n)))
  | 0, ws, c, h, _ => ⟨h, fun d _ => by
    have : (decide (c ≤ d) && decide (d < c + 0)) = false := by rw [Bool.and_eq_false_iff]; simp only [decide_eq_false_iff_not]; omega
    rw [this, Bool.or_false]; rfl⟩
  | n + 1, ws, c, h, hc => by
    obtain ⟨a1, a2⟩ := addL_bit h c (by omega)
    obtain ⟨b1, b2⟩ := addR_bit n (addL ws c) (c + 1) a1 (by omega)
    have e : ((c : Int) + 1) = ((c + 1 : Nat) : Int) := by omega
    unfold addR
    rw [e]
    refine ⟨b1, fun d hd => ?_⟩
    rw [b2 d hd, a2 d hd, Bool.or_assoc]
    congr 1
    rw [Bool.eq_iff_iff]
    simp only [Bool.or_eq_true, Bool.and_eq_true, decide_eq_true_eq, beq_iff_eq]
    omega
def notW (w : Int) : Int := 2 ^ 64 - 1 - w
theorem notW_bit {w : Int} (h : wf w) : wf (notW w) ∧ ∀ j, j < 64 → (notW w).toNat.testBit j = !w.toNat.testBit j := by
  have hw : wf (notW w) := by unfold wf notW at *; omega
  refine ⟨hw, fun j hj => ?_⟩
  have e : (notW w).toNat = 2 ^ 64 - (w.toNat + 1) := by unfold wf notW at *; omega
  rw [e, Nat.testBit_two_pow_sub_succ (by unfold wf at h; omega)]
  simp [hj]
theorem not_bit {w0 w1 w2 w3 : Int} (h : wf w0 ∧ wf w1 ∧ wf w2 ∧ wf w3) (c : Nat) (hc : c < 256) : hasL [notW w0, notW w1, notW w2, notW w3] c = !hasL [w0, w1, w2, w3] c := by
  have hk : c / 64 = 0 ∨ c / 64 = 1 ∨ c / 64 = 2 ∨ c / 64 = 3 := by omega
  unfold hasL
  rcases hk with e | e | e | e <;> rw [e]
  · exact (notW_bit h.1).2 _ (by omega)
  · exact (notW_bit h.2.1).2 _ (by omega)
  · exact (notW_bit h.2.2.1).2 _ (by omega)
  · exact (notW_bit h.2.2.2).2 _ (by omega)
theorem notNot (w : Int) : notW (notW w) = w := by unfold notW; omega
theorem or_bit {a0 a1 a2 a3 b0 b1 b2 b3 : Int} (h : wf a0 ∧ wf a1 ∧ wf a2 ∧ wf a3) (k : wf b0 ∧ wf b1 ∧ wf b2 ∧ wf b3) (c : Nat) (hc : c < 256) :
    hasL [orI .u64 a0 b0, orI .u64 a1 b1, orI .u64 a2 b2, orI .u64 a3 b3] c = (hasL [a0, a1, a2, a3] c || hasL [b0, b1, b2, b3] c) := by
  have hk : c / 64 = 0 ∨ c / 64 = 1 ∨ c / 64 = 2 ∨ c / 64 = 3 := by omega
  have one : ∀ {x y : Int}, wf x → wf y → ∀ j, (orI .u64 x y).toNat.testBit j = (x.toNat.testBit j || y.toNat.testBit j) := fun hx hy j => by
    rw [(orI_u64 hx hy).1, Int.toNat_natCast, Nat.testBit_or]
  unfold hasL
  rcases hk with e | e | e | e <;> rw [e]
  · exact one h.1 k.1 _
  · exact one h.2.1 k.2.1 _
  · exact one h.2.2.1 k.2.2.1 _
  · exact one h.2.2.2 k.2.2.2 _
def cnt (w : Int) : Int := (((List.range 64).countP fun i => w.toNat.testBit i : Nat) : Int)
theorem cnt_not {w : Int} (h : wf w) : cnt (notW w) = 64 - cnt w := by
  unfold cnt
  have e : (List.range 64).countP (fun i => (notW w).toNat.testBit i) = (List.range 64).countP (fun i => !w.toNat.testBit i) :=
    List.countP_congr fun i hi => by rw [(notW_bit h).2 i (by simpa using hi)]
  have := List.length_eq_countP_add_countP (fun i => w.toNat.testBit i) (l := List.range 64)
  rw [e]
  simp only [List.length_range, Bool.not_eq_true, decide_eq_true_eq] at this
  have e2 : (List.range 64).countP (fun i => !w.toNat.testBit i) = (List.range 64).countP (fun a => decide (w.toNat.testBit a = false)) := List.countP_congr fun i _ => by simp
  omega
theorem cnt_all (w0 w1 w2 w3 : Int) : (((List.range 256).countP fun i => hasL [w0, w1, w2, w3] i : Nat) : Int) = cnt w0 + cnt w1 + cnt w2 + cnt w3 := by
  have e : List.range 256 = List.range 64 ++ (List.range 64).map (64 + ·) ++ (List.range 64).map (128 + ·) ++ (List.range 64).map (192 + ·) := by decide +kernel
  rw [e, List.countP_append, List.countP_append, List.countP_append, List.countP_map, List.countP_map, List.countP_map]
  have f : ∀ (k : Nat) (w : Int), k < 4 → [w0, w1, w2, w3].getD k 0 = w → (List.range 64).countP ((fun i => hasL [w0, w1, w2, w3] i) ∘ (64 * k + ·)) = (List.range 64).countP fun i => w.toNat.testBit i := fun k w _ hw =>
    List.countP_congr fun i hi => by
      have hi : i < 64 := by simpa using hi
      simp only [Function.comp, hasL]
      rw [show (64 * k + i) / 64 = k by omega, show (64 * k + i) % 64 = i by omega, hw]
  have f0 := f 0 w0 (by decide) rfl
  have f1 := f 1 w1 (by decide) rfl
  have f2 := f 2 w2 (by decide) rfl
  have f3 := f 3 w3 (by decide) rfl
  simp only [Nat.mul_zero, Nat.zero_add, Nat.mul_one, Nat.reduceMul] at f0 f1 f2 f3
  have g0 : (List.range 64).countP (fun i => hasL [w0, w1, w2, w3] i) = (List.range 64).countP fun i => w0.toNat.testBit i := f0
  unfold cnt
  rw [g0, f1, f2, f3]
  omega
/-- a set with the bytes from a to b -/
def addW (w0 w1 w2 w3 a b : Int) (i : Nat) : Int := (addR (b + 1 - a).toNat [w0, w1, w2, w3] a).getD i 0
/-- a set, byte by byte -/
def ofL (w0 w1 w2 w3 : Int) : List AV := (List.range 256).map fun (i : Nat) => .bool (hasZ w0 w1 w2 w3 (i : Int))
def s20 : Go.Ab.Spec := ⟨false, fun args S => match args, S with
  | [(.agg [.int .u64 w0, .int .u64 w1, .int .u64 w2, .int .u64 w3], .no), (.int .u8 a, .no), (.int .u8 b, .no)], ⟨[], []⟩ => .need ((0 ≤ a ∧ a < 256) ∧ 0 ≤ b ∧ b < 256) (.name (addW w0 w1 w2 w3 a b 0) fun v0 => .name (addW w0 w1 w2 w3 a b 1) fun v1 => .name (addW w0 w1 w2 w3 a b 2) fun v2 => .name (addW w0 w1 w2 w3 a b 3) fun v3 => .ret (A4 v0 v1 v2 v3, .no) ⟨[], []⟩)
  | _, _ => .fail⟩
def s21 : Go.Ab.Spec := ⟨false, fun args S => match args, S with
  | [(.agg [.int .u64 w0, .int .u64 w1, .int .u64 w2, .int .u64 w3], .no)], ⟨[], []⟩ => .need (wf w0 ∧ wf w1 ∧ wf w2 ∧ wf w3) (.name (notW w0) fun v0 => .name (notW w1) fun v1 => .name (notW w2) fun v2 => .name (notW w3) fun v3 => .ret (A4 v0 v1 v2 v3, .no) ⟨[], []⟩)
  | _, _ => .fail⟩
def s22 : Go.Ab.Spec := ⟨false, fun args S => match args, S with
  | [(.agg [.int .u64 a0, .int .u64 a1, .int .u64 a2, .int .u64 a3], .no), (.agg [.int .u64 b0, .int .u64 b1, .int .u64 b2, .int .u64 b3], .no)], ⟨[], []⟩ => .name (orI .u64 a0 b0) fun v0 => .name (orI .u64 a1 b1) fun v1 => .name (orI .u64 a2 b2) fun v2 => .name (orI .u64 a3 b3) fun v3 => .ret (A4 v0 v1 v2 v3, .no) ⟨[], []⟩
  | _, _ => .fail⟩
def s23 : Go.Ab.Spec := ⟨false, fun args S => match args, S with
  | [(.int .u64 w, .no)], ⟨[], []⟩ => .need (wf w) (.name (cnt w) fun n => .ret (.int .i64 n, .no) ⟨[], []⟩)
  | _, _ => .fail⟩
def s14 : Go.Ab.Spec := ⟨false, fun args S => match args, S with
  | [(.agg [.int .u64 w0, .int .u64 w1, .int .u64 w2, .int .u64 w3], .no)], ⟨[], []⟩ => .need (wf w0 ∧ wf w1 ∧ wf w2 ∧ wf w3) (.name (cnt w0 + cnt w1 + cnt w2 + cnt w3) fun n => .ret (.int .i64 n, .no) ⟨[], []⟩)
  | _, _ => .fail⟩
def s10 : Go.Ab.Spec := ⟨KT.big, fun args S => match args, S with
  | [(.agg [.int .u64 w0, .int .u64 w1, .int .u64 w2, .int .u64 w3], .no)], ⟨[], []⟩ => .need (wf w0 ∧ wf w1 ∧ wf w2 ∧ wf w3) (.name (ofL w0 w1 w2 w3) fun bs => .ret (.agg bs, .no) ⟨[], []⟩)
  | _, _ => .fail⟩
def s4 : Go.Ab.Spec := ⟨false, fun args S => match args, S with
  | [(.agg [.int .u64 a0, .int .u64 a1, .int .u64 a2, .int .u64 a3], .no), (.agg [.int .u64 b0, .int .u64 b1, .int .u64 b2, .int .u64 b3], .no), (.agg [.int .u8 x, .int .u8 y], .no)], ⟨[], []⟩ =>
    .need (((wf a0 ∧ wf a1 ∧ wf a2 ∧ wf a3) ∧ (wf b0 ∧ wf b1 ∧ wf b2 ∧ wf b3)) ∧ (0 ≤ x ∧ x < 256) ∧ 0 ≤ y ∧ y < 256) (.ret (.bool true, .no) ⟨[], []⟩)
  | _, _ => .fail⟩
def calls : Nat → List (FuncId × Go.Ab.Spec)
  | 11 => [(20, s20)]
  | 12 => [(21, s21)]
  | 13 => [(22, s22)]
  | 14 => [(23, s23)]
  | 4 => [(8, s19), (9, s9), (10, s10), (11, s20), (12, s21), (13, s22), (14, s14)]
  | _ => []
def joins : Nat → Nat → Option (List (Tmp × CK)) := fun _ _ => none
noncomputable abbrev ev (f n0 m0 : Nat) : Env0 := ⟨cx, noPre, n0, m0, callOf (tabL (calls f)), cx.drop f⟩
abbrev U : SV := (.undef, .no)
abbrev Z256 : Blk := List.replicate 256 (.bool false, .no)
def boolsTo (n : Nat) (w0 w1 w2 w3 : Int) : Blk := (List.range 256).map fun (i : Nat) => (.bool (decide (i < n) && hasZ w0 w1 w2 w3 (i : Int)), .no)
def fr10 (i : Int) : Fr := ⟨[U, (.ptr 0 0, .no), (.ptr 1 0, .no), (.ptr 2 0, .no), (.int .i64 i, .no)] ++ List.replicate 18 U, []⟩
def L10 : Fr → St → Post1 → Prop := fun fr S Q => ∃ (w0 w1 w2 w3 : Int) (cells : Blk), fr = fr10 0 ∧ S = ⟨[blk4 w0 w1 w2 w3, Z256, cells], []⟩ ∧ cells = Z256 ∧ (wf w0 ∧ wf w1 ∧ wf w2 ∧ wf w3) ∧
  ∀ i cells', cells' = boolsTo 256 w0 w1 w2 w3 → Q (.exit 0) (fr10 i) ⟨[blk4 w0 w1 w2 w3, Z256, cells'], []⟩
def fr20 (b i : Int) : Fr := ⟨[U, U, (.int .u8 b, .no), (.ptr 0 0, .no), U, U, (.ptr 1 0, .no), (.int .i64 i, .no)] ++ List.replicate 18 U, []⟩
def L20 : Fr → St → Post1 → Prop := fun fr S Q => ∃ (w0 w1 w2 w3 a b : Int), fr = fr20 b a ∧ S = ⟨[blk4 w0 w1 w2 w3, blk4 0 0 0 0], []⟩ ∧ ((0 ≤ a ∧ a < 256) ∧ 0 ≤ b ∧ b < 256) ∧
  ∀ i v0 v1 v2 v3, v0 = addW w0 w1 w2 w3 a b 0 → v1 = addW w0 w1 w2 w3 a b 1 → v2 = addW w0 w1 w2 w3 a b 2 → v3 = addW w0 w1 w2 w3 a b 3 → Q (.exit 0) (fr20 b i) ⟨[blk4 v0 v1 v2 v3, blk4 0 0 0 0], []⟩
def fr4 (x y n i : Int) : Fr := ⟨[U, U, U, (.ptr 0 0, .no), U, U, U, (.int .u8 x, .no), (.int .u8 y, .no), (.ptr 3 0, .no), (.ptr 4 0, .no), (.int .i64 n, .no), (.ptr 5 0, .no), (.ptr 6 0, .no), (.ptr 7 0, .no), (.int .i64 i, .no)] ++ List.replicate 98 U, []⟩
def st4 (a0 a1 a2 a3 b0 b1 b2 b3 x y : Int) (X Y : Blk) (m0 m1 m2 m3 n0 n1 n2 n3 u0 u1 u2 u3 : Int) : St := ⟨[blk4 a0 a1 a2 a3, blk4 b0 b1 b2 b3, [(.int .u8 x, .no), (.int .u8 y, .no)], X, Y, blk4 m0 m1 m2 m3, blk4 n0 n1 n2 n3, blk4 u0 u1 u2 u3], []⟩
def L4 : Fr → St → Post1 → Prop := fun fr S Q => ∃ (a0 a1 a2 a3 b0 b1 b2 b3 x y : Int) (X Y : Blk) (m0 m1 m2 m3 n0 n1 n2 n3 u0 u1 u2 u3 : Int), fr = fr4 x y 0 0 ∧ S = st4 a0 a1 a2 a3 b0 b1 b2 b3 x y X Y m0 m1 m2 m3 n0 n1 n2 n3 u0 u1 u2 u3 ∧
  X = boolsTo 256 a0 a1 a2 a3 ∧ Y = boolsTo 256 b0 b1 b2 b3 ∧ (∀ c : Nat, c < 256 → hasZ m0 m1 m2 m3 c = (hasZ a0 a1 a2 a3 c || (decide (x ≤ c) && decide ((c : Int) ≤ y)))) ∧ (∀ c : Nat, c < 256 → hasZ n0 n1 n2 n3 c = !hasZ a0 a1 a2 a3 c) ∧ (∀ c : Nat, c < 256 → hasZ u0 u1 u2 u3 c = (hasZ a0 a1 a2 a3 c || hasZ b0 b1 b2 b3 c)) ∧
  (wf a0 ∧ wf a1 ∧ wf a2 ∧ wf a3) ∧ ∀ i n, n = cnt a0 + cnt a1 + cnt a2 + cnt a3 → Q (.exit 0) (fr4 x y n i) (st4 a0 a1 a2 a3 b0 b1 b2 b3 x y X Y m0 m1 m2 m3 n0 n1 n2 n3 u0 u1 u2 u3)
def fr21 (i : Int) : Fr := ⟨[U, (.ptr 0 0, .no), (.ptr 1 0, .no), U, (.int .i64 i, .no)] ++ List.replicate 10 U, []⟩
def L21 : Fr → St → Post1 → Prop := fun fr S Q => ∃ (w0 w1 w2 w3 : Int), fr = fr21 0 ∧ S = ⟨[blk4 w0 w1 w2 w3, blk4 0 0 0 0], []⟩ ∧ (wf w0 ∧ wf w1 ∧ wf w2 ∧ wf w3) ∧
  ∀ i v0 v1 v2 v3, v0 = notW w0 → v1 = notW w1 → v2 = notW w2 → v3 = notW w3 → Q (.exit 0) (fr21 i) ⟨[blk4 v0 v1 v2 v3, blk4 0 0 0 0], []⟩
def fr22 (i : Int) : Fr := ⟨[U, U, (.ptr 0 0, .no), (.ptr 1 0, .no), (.ptr 2 0, .no), U, (.int .i64 i, .no)] ++ List.replicate 12 U, []⟩
def L22 : Fr → St → Post1 → Prop := fun fr S Q => ∃ (a0 a1 a2 a3 b0 b1 b2 b3 : Int), fr = fr22 0 ∧ S = ⟨[blk4 a0 a1 a2 a3, blk4 b0 b1 b2 b3, blk4 0 0 0 0], []⟩ ∧
  ∀ i v0 v1 v2 v3, v0 = orI .u64 a0 b0 → v1 = orI .u64 a1 b1 → v2 = orI .u64 a2 b2 → v3 = orI .u64 a3 b3 → Q (.exit 0) (fr22 i) ⟨[blk4 v0 v1 v2 v3, blk4 b0 b1 b2 b3, blk4 0 0 0 0], []⟩
def fr14 (w0 w1 w2 w3 n i : Int) : Fr := ⟨[U, U, U, (.int .i64 n, .no), U, U, (A4 w0 w1 w2 w3, .agg [.no, .no, .no, .no]), (.int .i64 i, .no)] ++ List.replicate 8 U, []⟩
def cntTo (i : Int) (w0 w1 w2 w3 : Int) : Int := (([cnt w0, cnt w1, cnt w2, cnt w3].take i.toNat).foldl (· + ·) 0)
def L14 : Fr → St → Post1 → Prop := fun fr S Q => ∃ (w0 w1 w2 w3 : Int), fr = fr14 w0 w1 w2 w3 0 0 ∧ S = ⟨[blk4 w0 w1 w2 w3], []⟩ ∧ (wf w0 ∧ wf w1 ∧ wf w2 ∧ wf w3) ∧
  ∀ i n, n = cnt w0 + cnt w1 + cnt w2 + cnt w3 → Q (.exit 0) (fr14 w0 w1 w2 w3 n i) ⟨[blk4 w0 w1 w2 w3], []⟩
noncomputable def ats : Nat → List (List Nat × (Fr → St → Post1 → Prop))
  | 10 => [([0, 1, 0, 1, 1], L10)]
  | 20 => [([0, 1, 0, 1], L20)]
  | 21 => [([0, 1, 0, 1], L21)]
  | 22 => [([0, 1, 0, 1], L22)]
  | 14 => [([0, 1, 0, 1, 1], L14)]
  | 4 => [([0, 1, 0, 1, 1, 1, 1], L4)]
  | _ => []
noncomputable abbrev gen (f : Nat) : Gen := ⟨tabL (calls f), joins f, atL (ats f)⟩
noncomputable abbrev genD (f d : Nat) : Gen := ⟨tabL (calls f), joins f, atL ((ats f).drop d)⟩
set_option maxRecDepth 20000 in
abbrev F23 (w : Int) (K : SV → St → Prop) (Kp : AV → St → Prop) : Prop :=
  ((Go.Ab.nonneg (1 : Int)) ∧
   (∀ (r0 : Int), ((r0 = (Int.fdiv w ((2 : Int) ^ (Min.min (Int.toNat (1 : Int)) 64)))) →
   (∀ (r1 : Int), ((r1 = (Go.Ab.andI Go.IntKind.u64 r0 (6148914691236517205 : Int))) →
   (∀ (r2 : Int), ((r2 = (Go.Ab.andI Go.IntKind.u64 w (6148914691236517205 : Int))) →
   (∀ (r3 : Int), ((r3 = (Go.IntKind.wrap Go.IntKind.u64 (r1 + r2))) →
   ((Go.Ab.nonneg (2 : Int)) ∧
   (∀ (r4 : Int), ((r4 = (Int.fdiv r3 ((2 : Int) ^ (Min.min (Int.toNat (2 : Int)) 64)))) →
   (∀ (r5 : Int), ((r5 = (Go.Ab.andI Go.IntKind.u64 r4 (3689348814741910323 : Int))) →
   (∀ (r6 : Int), ((r6 = (Go.Ab.andI Go.IntKind.u64 r3 (3689348814741910323 : Int))) →
   (∀ (r7 : Int), ((r7 = (Go.IntKind.wrap Go.IntKind.u64 (r5 + r6))) →
   ((Go.Ab.nonneg (4 : Int)) ∧
   (∀ (r8 : Int), ((r8 = (Int.fdiv r7 ((2 : Int) ^ (Min.min (Int.toNat (4 : Int)) 64)))) →
   (∀ (r9 : Int), ((r9 = (Go.IntKind.wrap Go.IntKind.u64 (r8 + r7))) →
   (∀ (r10 : Int), ((r10 = (Go.Ab.andI Go.IntKind.u64 r9 (1085102592571150095 : Int))) →
   ((Go.Ab.nonneg (8 : Int)) ∧
   (∀ (r11 : Int), ((r11 = (Int.fdiv r10 ((2 : Int) ^ (Min.min (Int.toNat (8 : Int)) 64)))) →
   (∀ (r12 : Int), ((r12 = (Go.IntKind.wrap Go.IntKind.u64 (r10 + r11))) →
   ((Go.Ab.nonneg (16 : Int)) ∧
   (∀ (r13 : Int), ((r13 = (Int.fdiv r12 ((2 : Int) ^ (Min.min (Int.toNat (16 : Int)) 64)))) →
   (∀ (r14 : Int), ((r14 = (Go.IntKind.wrap Go.IntKind.u64 (r12 + r13))) →
   ((Go.Ab.nonneg (32 : Int)) ∧
   (∀ (r15 : Int), ((r15 = (Int.fdiv r14 ((2 : Int) ^ (Min.min (Int.toNat (32 : Int)) 64)))) →
   (∀ (r16 : Int), ((r16 = (Go.IntKind.wrap Go.IntKind.u64 (r14 + r15))) →
   (∀ (r17 : Int), ((r17 = (Go.IntKind.wrap Go.IntKind.i64 r16)) →
   (∀ (r18 : Int), ((r18 = (Go.Ab.andI Go.IntKind.i64 r17 (127 : Int))) →
   (K ((Go.Ab.AV.int Go.IntKind.i64 r18), Go.Ab.Tag.no) (Go.Ab.St.mk [] []))))))))))))))))))))))))))))))))))))))))))))))
set_option maxRecDepth 20000 in
theorem vc23 (w : Int) (K : SV → St → Prop) (Kp : AV → St → Prop) (h : F23 w K Kp) : Env0.codeW (ev 23 0 0) (gen 23) [] (bodyOf Try.f23) (frame0 Try.f23 [(.int .u64 w, .no)]) ⟨[], []⟩ (endW cx .plain Try.f23 0 0 K Kp) :=
  (by kernel_rfl : F23 w K Kp = Env0.codeW (ev 23 0 0) (gen 23) [] (bodyOf Try.f23) (frame0 Try.f23 [(.int .u64 w, .no)]) ⟨[], []⟩ (endW cx .plain Try.f23 0 0 K Kp)).mp h

set_option maxRecDepth 20000 in
abbrev F21 (w0 w1 w2 w3 : Int) (K : SV → St → Prop) (Kp : AV → St → Prop) : Prop :=
  (∃ w00 : Int, (∃ w11 : Int, (∃ w22 : Int, (∃ w33 : Int, (((Go.Ab.Fr.mk [U, ((Go.Ab.AV.ptr 0 0), Go.Ab.Tag.no), ((Go.Ab.AV.ptr 1 0), Go.Ab.Tag.no), U, ((Go.Ab.AV.int Go.IntKind.i64 (0 : Int)), Go.Ab.Tag.no), U, U, U, U, U, U, U, U, U, U] []) = (Go.Ab.Fr.mk [U, ((Go.Ab.AV.ptr 0 0), Go.Ab.Tag.no), ((Go.Ab.AV.ptr 1 0), Go.Ab.Tag.no), U, ((Go.Ab.AV.int Go.IntKind.i64 (0 : Int)), Go.Ab.Tag.no), U, U, U, U, U, U, U, U, U, U] [])) ∧
   (((Go.Ab.St.mk [[((Go.Ab.AV.int Go.IntKind.u64 w0), Go.Ab.Tag.no), ((Go.Ab.AV.int Go.IntKind.u64 w1), Go.Ab.Tag.no), ((Go.Ab.AV.int Go.IntKind.u64 w2), Go.Ab.Tag.no), ((Go.Ab.AV.int Go.IntKind.u64 w3), Go.Ab.Tag.no)], [((Go.Ab.AV.int Go.IntKind.u64 (0 : Int)), Go.Ab.Tag.no), ((Go.Ab.AV.int Go.IntKind.u64 (0 : Int)), Go.Ab.Tag.no), ((Go.Ab.AV.int Go.IntKind.u64 (0 : Int)), Go.Ab.Tag.no), ((Go.Ab.AV.int Go.IntKind.u64 (0 : Int)), Go.Ab.Tag.no)]] []) = (Go.Ab.St.mk [[((Go.Ab.AV.int Go.IntKind.u64 w00), Go.Ab.Tag.no), ((Go.Ab.AV.int Go.IntKind.u64 w11), Go.Ab.Tag.no), ((Go.Ab.AV.int Go.IntKind.u64 w22), Go.Ab.Tag.no), ((Go.Ab.AV.int Go.IntKind.u64 w33), Go.Ab.Tag.no)], [((Go.Ab.AV.int Go.IntKind.u64 (0 : Int)), Go.Ab.Tag.no), ((Go.Ab.AV.int Go.IntKind.u64 (0 : Int)), Go.Ab.Tag.no), ((Go.Ab.AV.int Go.IntKind.u64 (0 : Int)), Go.Ab.Tag.no), ((Go.Ab.AV.int Go.IntKind.u64 (0 : Int)), Go.Ab.Tag.no)]] [])) ∧
   (((((0 : Int) ≤ w00) ∧
   (w00 < ((2 : Int) ^ 64))) ∧
   ((((0 : Int) ≤ w11) ∧
   (w11 < ((2 : Int) ^ 64))) ∧
   ((((0 : Int) ≤ w22) ∧
   (w22 < ((2 : Int) ^ 64))) ∧
   (((0 : Int) ≤ w33) ∧
   (w33 < ((2 : Int) ^ 64)))))) ∧
   (∀ (i4 : Int), (∀ (v05 : Int), (∀ (v16 : Int), (∀ (v27 : Int), (∀ (v38 : Int), ((v05 = (Go.Proofs.Ytdiphholophdcaa.V.Sets.notW w00)) →
   ((v16 = (Go.Proofs.Ytdiphholophdcaa.V.Sets.notW w11)) →
   ((v27 = (Go.Proofs.Ytdiphholophdcaa.V.Sets.notW w22)) →
   ((v38 = (Go.Proofs.Ytdiphholophdcaa.V.Sets.notW w33)) →
   (K ((Go.Ab.AV.agg [(Go.Ab.AV.int Go.IntKind.u64 v05), (Go.Ab.AV.int Go.IntKind.u64 v16), (Go.Ab.AV.int Go.IntKind.u64 v27), (Go.Ab.AV.int Go.IntKind.u64 v38)]), Go.Ab.Tag.no) (Go.Ab.St.mk [] []))))))))))))))))))
set_option maxRecDepth 20000 in
theorem vc21 (w0 w1 w2 w3 : Int) (K : SV → St → Prop) (Kp : AV → St → Prop) (h : F21 w0 w1 w2 w3 K Kp) : Env0.codeW (ev 21 0 0) (gen 21) [] (bodyOf Try.f21) (frame0 Try.f21 [(A4 w0 w1 w2 w3, .no)]) ⟨[], []⟩ (endW cx .plain Try.f21 0 0 K Kp) :=
  (by kernel_rfl : F21 w0 w1 w2 w3 K Kp = Env0.codeW (ev 21 0 0) (gen 21) [] (bodyOf Try.f21) (frame0 Try.f21 [(A4 w0 w1 w2 w3, .no)]) ⟨[], []⟩ (endW cx .plain Try.f21 0 0 K Kp)).mp h

set_option maxRecDepth 20000 in
abbrev F22 (a0 a1 a2 a3 b0 b1 b2 b3 : Int) (K : SV → St → Prop) (Kp : AV → St → Prop) : Prop :=
  (∃ a00 : Int, (∃ a11 : Int, (∃ a22 : Int, (∃ a33 : Int, (∃ b04 : Int, (∃ b15 : Int, (∃ b26 : Int, (∃ b37 : Int, (((Go.Ab.Fr.mk [U, U, ((Go.Ab.AV.ptr 0 0), Go.Ab.Tag.no), ((Go.Ab.AV.ptr 1 0), Go.Ab.Tag.no), ((Go.Ab.AV.ptr 2 0), Go.Ab.Tag.no), U, ((Go.Ab.AV.int Go.IntKind.i64 (0 : Int)), Go.Ab.Tag.no), U, U, U, U, U, U, U, U, U, U, U, U] []) = (Go.Ab.Fr.mk [U, U, ((Go.Ab.AV.ptr 0 0), Go.Ab.Tag.no), ((Go.Ab.AV.ptr 1 0), Go.Ab.Tag.no), ((Go.Ab.AV.ptr 2 0), Go.Ab.Tag.no), U, ((Go.Ab.AV.int Go.IntKind.i64 (0 : Int)), Go.Ab.Tag.no), U, U, U, U, U, U, U, U, U, U, U, U] [])) ∧
   (((Go.Ab.St.mk [[((Go.Ab.AV.int Go.IntKind.u64 a0), Go.Ab.Tag.no), ((Go.Ab.AV.int Go.IntKind.u64 a1), Go.Ab.Tag.no), ((Go.Ab.AV.int Go.IntKind.u64 a2), Go.Ab.Tag.no), ((Go.Ab.AV.int Go.IntKind.u64 a3), Go.Ab.Tag.no)], [((Go.Ab.AV.int Go.IntKind.u64 b0), Go.Ab.Tag.no), ((Go.Ab.AV.int Go.IntKind.u64 b1), Go.Ab.Tag.no), ((Go.Ab.AV.int Go.IntKind.u64 b2), Go.Ab.Tag.no), ((Go.Ab.AV.int Go.IntKind.u64 b3), Go.Ab.Tag.no)], [((Go.Ab.AV.int Go.IntKind.u64 (0 : Int)), Go.Ab.Tag.no), ((Go.Ab.AV.int Go.IntKind.u64 (0 : Int)), Go.Ab.Tag.no), ((Go.Ab.AV.int Go.IntKind.u64 (0 : Int)), Go.Ab.Tag.no), ((Go.Ab.AV.int Go.IntKind.u64 (0 : Int)), Go.Ab.Tag.no)]] []) = (Go.Ab.St.mk [[((Go.Ab.AV.int Go.IntKind.u64 a00), Go.Ab.Tag.no), ((Go.Ab.AV.int Go.IntKind.u64 a11), Go.Ab.Tag.no), ((Go.Ab.AV.int Go.IntKind.u64 a22), Go.Ab.Tag.no), ((Go.Ab.AV.int Go.IntKind.u64 a33), Go.Ab.Tag.no)], [((Go.Ab.AV.int Go.IntKind.u64 b04), Go.Ab.Tag.no), ((Go.Ab.AV.int Go.IntKind.u64 b15), Go.Ab.Tag.no), ((Go.Ab.AV.int Go.IntKind.u64 b26), Go.Ab.Tag.no), ((Go.Ab.AV.int Go.IntKind.u64 b37), Go.Ab.Tag.no)], [((Go.Ab.AV.int Go.IntKind.u64 (0 : Int)), Go.Ab.Tag.no), ((Go.Ab.AV.int Go.IntKind.u64 (0 : Int)), Go.Ab.Tag.no), ((Go.Ab.AV.int Go.IntKind.u64 (0 : Int)), Go.Ab.Tag.no), ((Go.Ab.AV.int Go.IntKind.u64 (0 : Int)), Go.Ab.Tag.no)]] [])) ∧
   (∀ (i8 : Int), (∀ (v09 : Int), (∀ (v110 : Int), (∀ (v211 : Int), (∀ (v312 : Int), ((v09 = (Go.Ab.orI Go.IntKind.u64 a00 b04)) →
   ((v110 = (Go.Ab.orI Go.IntKind.u64 a11 b15)) →
   ((v211 = (Go.Ab.orI Go.IntKind.u64 a22 b26)) →
   ((v312 = (Go.Ab.orI Go.IntKind.u64 a33 b37)) →
   (K ((Go.Ab.AV.agg [(Go.Ab.AV.int Go.IntKind.u64 v09), (Go.Ab.AV.int Go.IntKind.u64 v110), (Go.Ab.AV.int Go.IntKind.u64 v211), (Go.Ab.AV.int Go.IntKind.u64 v312)]), Go.Ab.Tag.no) (Go.Ab.St.mk [] [])))))))))))))))))))))
set_option maxRecDepth 20000 in
theorem vc22 (a0 a1 a2 a3 b0 b1 b2 b3 : Int) (K : SV → St → Prop) (Kp : AV → St → Prop) (h : F22 a0 a1 a2 a3 b0 b1 b2 b3 K Kp) : Env0.codeW (ev 22 0 0) (gen 22) [] (bodyOf Try.f22) (frame0 Try.f22 [(A4 a0 a1 a2 a3, .no), (A4 b0 b1 b2 b3, .no)]) ⟨[], []⟩ (endW cx .plain Try.f22 0 0 K Kp) :=
  (by kernel_rfl : F22 a0 a1 a2 a3 b0 b1 b2 b3 K Kp = Env0.codeW (ev 22 0 0) (gen 22) [] (bodyOf Try.f22) (frame0 Try.f22 [(A4 a0 a1 a2 a3, .no), (A4 b0 b1 b2 b3, .no)]) ⟨[], []⟩ (endW cx .plain Try.f22 0 0 K Kp)).mp h

set_option maxRecDepth 20000 in
abbrev F20 (w0 w1 w2 w3 : Int) (a b : Int) (K : SV → St → Prop) (Kp : AV → St → Prop) : Prop :=
  (∀ (r0 : Int), ((r0 = (Go.IntKind.wrap Go.IntKind.i64 a)) →
   (∃ w01 : Int, (∃ w12 : Int, (∃ w23 : Int, (∃ w34 : Int, (∃ a5 : Int, (∃ b6 : Int, (((Go.Ab.Fr.mk [U, U, ((Go.Ab.AV.int Go.IntKind.u8 b), Go.Ab.Tag.no), ((Go.Ab.AV.ptr 0 0), Go.Ab.Tag.no), U, U, ((Go.Ab.AV.ptr 1 0), Go.Ab.Tag.no), ((Go.Ab.AV.int Go.IntKind.i64 r0), Go.Ab.Tag.no), U, U, U, U, U, U, U, U, U, U, U, U, U, U, U, U, U, U] []) = (Go.Ab.Fr.mk [U, U, ((Go.Ab.AV.int Go.IntKind.u8 b6), Go.Ab.Tag.no), ((Go.Ab.AV.ptr 0 0), Go.Ab.Tag.no), U, U, ((Go.Ab.AV.ptr 1 0), Go.Ab.Tag.no), ((Go.Ab.AV.int Go.IntKind.i64 a5), Go.Ab.Tag.no), U, U, U, U, U, U, U, U, U, U, U, U, U, U, U, U, U, U] [])) ∧
   (((Go.Ab.St.mk [[((Go.Ab.AV.int Go.IntKind.u64 w0), Go.Ab.Tag.no), ((Go.Ab.AV.int Go.IntKind.u64 w1), Go.Ab.Tag.no), ((Go.Ab.AV.int Go.IntKind.u64 w2), Go.Ab.Tag.no), ((Go.Ab.AV.int Go.IntKind.u64 w3), Go.Ab.Tag.no)], [((Go.Ab.AV.int Go.IntKind.u64 (0 : Int)), Go.Ab.Tag.no), ((Go.Ab.AV.int Go.IntKind.u64 (0 : Int)), Go.Ab.Tag.no), ((Go.Ab.AV.int Go.IntKind.u64 (0 : Int)), Go.Ab.Tag.no), ((Go.Ab.AV.int Go.IntKind.u64 (0 : Int)), Go.Ab.Tag.no)]] []) = (Go.Ab.St.mk [[((Go.Ab.AV.int Go.IntKind.u64 w01), Go.Ab.Tag.no), ((Go.Ab.AV.int Go.IntKind.u64 w12), Go.Ab.Tag.no), ((Go.Ab.AV.int Go.IntKind.u64 w23), Go.Ab.Tag.no), ((Go.Ab.AV.int Go.IntKind.u64 w34), Go.Ab.Tag.no)], [((Go.Ab.AV.int Go.IntKind.u64 (0 : Int)), Go.Ab.Tag.no), ((Go.Ab.AV.int Go.IntKind.u64 (0 : Int)), Go.Ab.Tag.no), ((Go.Ab.AV.int Go.IntKind.u64 (0 : Int)), Go.Ab.Tag.no), ((Go.Ab.AV.int Go.IntKind.u64 (0 : Int)), Go.Ab.Tag.no)]] [])) ∧
   (((((0 : Int) ≤ a5) ∧
   (a5 < (256 : Int))) ∧
   (((0 : Int) ≤ b6) ∧
   (b6 < (256 : Int)))) ∧
   (∀ (i7 : Int), (∀ (v08 : Int), (∀ (v19 : Int), (∀ (v210 : Int), (∀ (v311 : Int), ((v08 = (Go.Proofs.Ytdiphholophdcaa.V.Sets.addW w01 w12 w23 w34 a5 b6 0)) →
   ((v19 = (Go.Proofs.Ytdiphholophdcaa.V.Sets.addW w01 w12 w23 w34 a5 b6 1)) →
   ((v210 = (Go.Proofs.Ytdiphholophdcaa.V.Sets.addW w01 w12 w23 w34 a5 b6 2)) →
   ((v311 = (Go.Proofs.Ytdiphholophdcaa.V.Sets.addW w01 w12 w23 w34 a5 b6 3)) →
   (K ((Go.Ab.AV.agg [(Go.Ab.AV.int Go.IntKind.u64 v08), (Go.Ab.AV.int Go.IntKind.u64 v19), (Go.Ab.AV.int Go.IntKind.u64 v210), (Go.Ab.AV.int Go.IntKind.u64 v311)]), Go.Ab.Tag.no) (Go.Ab.St.mk [] []))))))))))))))))))))))
set_option maxRecDepth 20000 in
theorem vc20 (w0 w1 w2 w3 : Int) (a b : Int) (K : SV → St → Prop) (Kp : AV → St → Prop) (h : F20 w0 w1 w2 w3 a b K Kp) : Env0.codeW (ev 20 0 0) (gen 20) [] (bodyOf Try.f20) (frame0 Try.f20 [(A4 w0 w1 w2 w3, .no), (.int .u8 a, .no), (.int .u8 b, .no)]) ⟨[], []⟩ (endW cx .plain Try.f20 0 0 K Kp) :=
  (by kernel_rfl : F20 w0 w1 w2 w3 a b K Kp = Env0.codeW (ev 20 0 0) (gen 20) [] (bodyOf Try.f20) (frame0 Try.f20 [(A4 w0 w1 w2 w3, .no), (.int .u8 a, .no), (.int .u8 b, .no)]) ⟨[], []⟩ (endW cx .plain Try.f20 0 0 K Kp)).mp h

set_option maxRecDepth 20000 in
abbrev F20b (w0 w1 w2 w3 : Int) (b i : Int) (Q : Post1) : Prop :=
  (∀ (r0 : Int), ((r0 = (Go.IntKind.wrap Go.IntKind.i64 b)) →
   (∀ (r1 : Bool), ((r1 = (decide (i ≤ r0))) →
   ((Go.Ab.implB r1 Bool.true ((Go.Ab.nonzero (64 : Int)) ∧
   (∀ (r2 : Int), ((r2 = (Go.IntKind.wrap Go.IntKind.i64 (Int.tdiv i (64 : Int)))) →
   ((Go.Ab.inR r2 4) ∧
   (∃ r3 : Int, ((([((Go.Ab.AV.int Go.IntKind.u64 w0), Go.Ab.Tag.no), ((Go.Ab.AV.int Go.IntKind.u64 w1), Go.Ab.Tag.no), ((Go.Ab.AV.int Go.IntKind.u64 w2), Go.Ab.Tag.no), ((Go.Ab.AV.int Go.IntKind.u64 w3), Go.Ab.Tag.no)][(0 + ((Int.toNat r2) * 1))]?) = (Option.some ((Go.Ab.AV.int Go.IntKind.u64 r3), Go.Ab.Tag.no))) ∧
   ((Go.Ab.nonzero (64 : Int)) ∧
   (∀ (r4 : Int), ((r4 = (Int.tmod i (64 : Int))) →
   ((Go.Ab.nonneg r4) ∧
   (∀ (r5 : Int), ((r5 = (Go.IntKind.wrap Go.IntKind.u64 ((1 : Int) * ((2 : Int) ^ (Min.min (Int.toNat r4) 64))))) →
   (∀ (r6 : Int), ((r6 = (Go.Ab.orI Go.IntKind.u64 r3 r5)) →
   ((Go.Ab.inR r2 4) ∧
   ((((0 + ((Int.toNat r2) * 1)) + 1) ≤ 4) ∧
   (∃ n7 : Int, (∃ n8 : Int, (∃ n9 : Int, (∃ n10 : Int, (((List.map (fun (x : Go.Ab.SV) => (x).1) (Go.Ab.replaceAt [((Go.Ab.AV.int Go.IntKind.u64 w0), Go.Ab.Tag.no), ((Go.Ab.AV.int Go.IntKind.u64 w1), Go.Ab.Tag.no), ((Go.Ab.AV.int Go.IntKind.u64 w2), Go.Ab.Tag.no), ((Go.Ab.AV.int Go.IntKind.u64 w3), Go.Ab.Tag.no)] (0 + ((Int.toNat r2) * 1)) (Go.Ab.keptCells (decide (0 < 0)) (0 + ((Int.toNat r2) * 1)) [((Go.Ab.AV.int Go.IntKind.u64 w0), Go.Ab.Tag.no), ((Go.Ab.AV.int Go.IntKind.u64 w1), Go.Ab.Tag.no), ((Go.Ab.AV.int Go.IntKind.u64 w2), Go.Ab.Tag.no), ((Go.Ab.AV.int Go.IntKind.u64 w3), Go.Ab.Tag.no)] (Go.Ab.expand ((Go.Ab.AV.int Go.IntKind.u64 r6), Go.Ab.Tag.no))))) = [(Go.Ab.AV.int Go.IntKind.u64 n7), (Go.Ab.AV.int Go.IntKind.u64 n8), (Go.Ab.AV.int Go.IntKind.u64 n9), (Go.Ab.AV.int Go.IntKind.u64 n10)]) ∧
   (((Go.Ab.replaceAt [((Go.Ab.AV.int Go.IntKind.u64 w0), Go.Ab.Tag.no), ((Go.Ab.AV.int Go.IntKind.u64 w1), Go.Ab.Tag.no), ((Go.Ab.AV.int Go.IntKind.u64 w2), Go.Ab.Tag.no), ((Go.Ab.AV.int Go.IntKind.u64 w3), Go.Ab.Tag.no)] (0 + ((Int.toNat r2) * 1)) (Go.Ab.keptCells (decide (0 < 0)) (0 + ((Int.toNat r2) * 1)) [((Go.Ab.AV.int Go.IntKind.u64 w0), Go.Ab.Tag.no), ((Go.Ab.AV.int Go.IntKind.u64 w1), Go.Ab.Tag.no), ((Go.Ab.AV.int Go.IntKind.u64 w2), Go.Ab.Tag.no), ((Go.Ab.AV.int Go.IntKind.u64 w3), Go.Ab.Tag.no)] (Go.Ab.expand ((Go.Ab.AV.int Go.IntKind.u64 r6), Go.Ab.Tag.no)))) = [((Go.Ab.AV.int Go.IntKind.u64 n7), Go.Ab.Tag.no), ((Go.Ab.AV.int Go.IntKind.u64 n8), Go.Ab.Tag.no), ((Go.Ab.AV.int Go.IntKind.u64 n9), Go.Ab.Tag.no), ((Go.Ab.AV.int Go.IntKind.u64 n10), Go.Ab.Tag.no)]) ∧
   ((∃ r11 : Int, ((([((Go.Ab.AV.int Go.IntKind.u64 w0), Go.Ab.Tag.no), ((Go.Ab.AV.int Go.IntKind.u64 w1), Go.Ab.Tag.no), ((Go.Ab.AV.int Go.IntKind.u64 w2), Go.Ab.Tag.no), ((Go.Ab.AV.int Go.IntKind.u64 w3), Go.Ab.Tag.no)][(0 + ((Int.toNat r2) * 1))]?) = (Option.some ((Go.Ab.AV.int Go.IntKind.u64 r11), Go.Ab.Tag.no))) ∧
   (((Go.Ab.AV.int Go.IntKind.u64 r11), Go.Ab.Tag.no) = ((Go.Ab.AV.int Go.IntKind.u64 r3), Go.Ab.Tag.no)))) ∧
   (∀ (r12 : Int), ((r12 = (Go.IntKind.wrap Go.IntKind.i64 (i + (1 : Int)))) →
   (Q Go.Ab.Ex.normal (Go.Ab.Fr.mk [U, U, ((Go.Ab.AV.int Go.IntKind.u8 b), Go.Ab.Tag.no), ((Go.Ab.AV.ptr 0 0), Go.Ab.Tag.no), U, U, ((Go.Ab.AV.ptr 1 0), Go.Ab.Tag.no), ((Go.Ab.AV.int Go.IntKind.i64 r12), Go.Ab.Tag.no), U, U, U, U, U, ((Go.Ab.AV.bool r1), Go.Ab.Tag.no), U, U, U, U, U, U, U, U, U, U, U, U] []) (Go.Ab.St.mk [[((Go.Ab.AV.int Go.IntKind.u64 n7), Go.Ab.Tag.no), ((Go.Ab.AV.int Go.IntKind.u64 n8), Go.Ab.Tag.no), ((Go.Ab.AV.int Go.IntKind.u64 n9), Go.Ab.Tag.no), ((Go.Ab.AV.int Go.IntKind.u64 n10), Go.Ab.Tag.no)], [((Go.Ab.AV.int Go.IntKind.u64 (0 : Int)), Go.Ab.Tag.no), ((Go.Ab.AV.int Go.IntKind.u64 (0 : Int)), Go.Ab.Tag.no), ((Go.Ab.AV.int Go.IntKind.u64 (0 : Int)), Go.Ab.Tag.no), ((Go.Ab.AV.int Go.IntKind.u64 (0 : Int)), Go.Ab.Tag.no)]] [])))))))))))))))))))))))))))) ∧
   (Go.Ab.implB r1 Bool.false (Q (Go.Ab.Ex.exit 0) (Go.Ab.Fr.mk [U, U, ((Go.Ab.AV.int Go.IntKind.u8 b), Go.Ab.Tag.no), ((Go.Ab.AV.ptr 0 0), Go.Ab.Tag.no), U, U, ((Go.Ab.AV.ptr 1 0), Go.Ab.Tag.no), ((Go.Ab.AV.int Go.IntKind.i64 i), Go.Ab.Tag.no), U, U, U, U, U, ((Go.Ab.AV.bool r1), Go.Ab.Tag.no), U, U, U, U, U, U, U, U, U, U, U, U] []) (Go.Ab.St.mk [[((Go.Ab.AV.int Go.IntKind.u64 w0), Go.Ab.Tag.no), ((Go.Ab.AV.int Go.IntKind.u64 w1), Go.Ab.Tag.no), ((Go.Ab.AV.int Go.IntKind.u64 w2), Go.Ab.Tag.no), ((Go.Ab.AV.int Go.IntKind.u64 w3), Go.Ab.Tag.no)], [((Go.Ab.AV.int Go.IntKind.u64 (0 : Int)), Go.Ab.Tag.no), ((Go.Ab.AV.int Go.IntKind.u64 (0 : Int)), Go.Ab.Tag.no), ((Go.Ab.AV.int Go.IntKind.u64 (0 : Int)), Go.Ab.Tag.no), ((Go.Ab.AV.int Go.IntKind.u64 (0 : Int)), Go.Ab.Tag.no)]] []))))))))
set_option maxRecDepth 20000 in
theorem vc20b (w0 w1 w2 w3 : Int) (b i : Int) (Q : Post1) (h : F20b w0 w1 w2 w3 b i Q) : Env0.codeW (ev 20 0 0) (genD 20 1) [0, 0, 1, 0, 1] (subR [0, 0, 1, 0, 1] (bodyOf Try.f20)) (fr20 b i) ⟨[blk4 w0 w1 w2 w3, blk4 0 0 0 0], []⟩ Q :=
  (by kernel_rfl : F20b w0 w1 w2 w3 b i Q = Env0.codeW (ev 20 0 0) (genD 20 1) [0, 0, 1, 0, 1] (subR [0, 0, 1, 0, 1] (bodyOf Try.f20)) (fr20 b i) ⟨[blk4 w0 w1 w2 w3, blk4 0 0 0 0], []⟩ Q).mp h

set_option maxRecDepth 20000 in
abbrev F10 (w0 w1 w2 w3 : Int) (K : SV → St → Prop) (Kp : AV → St → Prop) : Prop :=
  (((256 = 256) ∧
   ((1 ≤ 256) ∧
   ((∀ (y0 : Go.Ab.SV), ((List.Mem y0 (Go.Ab.expand ((Go.Ab.AV.agg (List.replicate 256 (Go.Ab.AV.bool Bool.false))), (Go.Ab.Tag.agg (List.replicate 256 Go.Ab.Tag.no))))) →
   (((Go.Ab.AV.isCell (y0).1) = Bool.true) ∧
   ((Go.Ab.AV.low (2 + 1) (y0).1) = Bool.true)))) ∧
   ((0 + 256) ≤ 256)))) ∧
   (∀ (cs1 : (List Go.Ab.SV)), ((cs1 = (List.replicate 256 ((Go.Ab.AV.bool Bool.false), Go.Ab.Tag.no))) →
   (∃ w02 : Int, (∃ w13 : Int, (∃ w24 : Int, (∃ w35 : Int, (∃ y6 : Go.Ab.Blk, (((Go.Ab.Fr.mk [U, ((Go.Ab.AV.ptr 0 0), Go.Ab.Tag.no), ((Go.Ab.AV.ptr 1 0), Go.Ab.Tag.no), ((Go.Ab.AV.ptr 2 0), Go.Ab.Tag.no), ((Go.Ab.AV.int Go.IntKind.i64 (0 : Int)), Go.Ab.Tag.no), U, U, U, U, U, U, U, U, U, U, U, U, U, U, U, U, U, U] []) = (Go.Ab.Fr.mk [U, ((Go.Ab.AV.ptr 0 0), Go.Ab.Tag.no), ((Go.Ab.AV.ptr 1 0), Go.Ab.Tag.no), ((Go.Ab.AV.ptr 2 0), Go.Ab.Tag.no), ((Go.Ab.AV.int Go.IntKind.i64 (0 : Int)), Go.Ab.Tag.no), U, U, U, U, U, U, U, U, U, U, U, U, U, U, U, U, U, U] [])) ∧
   (((Go.Ab.St.mk [[((Go.Ab.AV.int Go.IntKind.u64 w0), Go.Ab.Tag.no), ((Go.Ab.AV.int Go.IntKind.u64 w1), Go.Ab.Tag.no), ((Go.Ab.AV.int Go.IntKind.u64 w2), Go.Ab.Tag.no), ((Go.Ab.AV.int Go.IntKind.u64 w3), Go.Ab.Tag.no)], (List.replicate 256 ((Go.Ab.AV.bool Bool.false), Go.Ab.Tag.no)), cs1] []) = (Go.Ab.St.mk [[((Go.Ab.AV.int Go.IntKind.u64 w02), Go.Ab.Tag.no), ((Go.Ab.AV.int Go.IntKind.u64 w13), Go.Ab.Tag.no), ((Go.Ab.AV.int Go.IntKind.u64 w24), Go.Ab.Tag.no), ((Go.Ab.AV.int Go.IntKind.u64 w35), Go.Ab.Tag.no)], Go.Proofs.Ytdiphholophdcaa.V.Sets.Z256, y6] [])) ∧
   ((y6 = Go.Proofs.Ytdiphholophdcaa.V.Sets.Z256) ∧
   (((((0 : Int) ≤ w02) ∧
   (w02 < ((2 : Int) ^ 64))) ∧
   ((((0 : Int) ≤ w13) ∧
   (w13 < ((2 : Int) ^ 64))) ∧
   ((((0 : Int) ≤ w24) ∧
   (w24 < ((2 : Int) ^ 64))) ∧
   (((0 : Int) ≤ w35) ∧
   (w35 < ((2 : Int) ^ 64)))))) ∧
   (∀ (i7 : Int), (∀ (cs8 : Go.Ab.Blk), ((cs8 = (Go.Proofs.Ytdiphholophdcaa.V.Sets.boolsTo 256 w02 w13 w24 w35)) →
   (((0 + 256) ≤ (List.length cs8)) ∧
   ((((List.length (Go.Ab.expand ((Go.Ab.AV.agg (List.map (fun (x : Go.Ab.SV) => (x).1) (List.take 256 (List.drop 0 cs8)))), (Go.Ab.Tag.agg (List.map (fun (x : Go.Ab.SV) => (x).2) (List.take 256 (List.drop 0 cs8))))))) = 256) ∧
   ((1 ≤ 256) ∧
   ((∀ (y9 : Go.Ab.SV), ((List.Mem y9 (Go.Ab.expand ((Go.Ab.AV.agg (List.map (fun (x : Go.Ab.SV) => (x).1) (List.take 256 (List.drop 0 cs8)))), (Go.Ab.Tag.agg (List.map (fun (x : Go.Ab.SV) => (x).2) (List.take 256 (List.drop 0 cs8))))))) →
   (((Go.Ab.AV.isCell (y9).1) = Bool.true) ∧
   ((Go.Ab.AV.low (1 + 1) (y9).1) = Bool.true)))) ∧
   ((0 + 256) ≤ 256)))) ∧
   (∀ (cs10 : (List Go.Ab.SV)), ((cs10 = (Go.Ab.replaceAt Go.Proofs.Ytdiphholophdcaa.V.Sets.Z256 0 (Go.Ab.keptCells (decide (1 < 0)) 0 Go.Proofs.Ytdiphholophdcaa.V.Sets.Z256 (Go.Ab.expand ((Go.Ab.AV.agg (List.map (fun (x : Go.Ab.SV) => (x).1) (List.take 256 (List.drop 0 cs8)))), (Go.Ab.Tag.agg (List.map (fun (x : Go.Ab.SV) => (x).2) (List.take 256 (List.drop 0 cs8))))))))) →
   (((0 + 256) ≤ (List.length cs10)) ∧
   ((∀ (v11 : Go.Ab.SV), ((List.Mem v11 [(Go.Ab.collect (List.take 256 (List.drop 0 cs10)))]) →
   ((Go.Ab.AV.low 0 (v11).1) = Bool.true))) ∧
   (K ((Go.Ab.AV.agg (List.map (fun (x : Go.Ab.SV) => (x).1) (List.take 256 (List.drop 0 cs10)))), Go.Ab.Tag.no) (Go.Ab.St.mk [] [])))))))))))))))))))))))
set_option maxRecDepth 20000 in
theorem vc10 (w0 w1 w2 w3 : Int) (K : SV → St → Prop) (Kp : AV → St → Prop) (h : F10 w0 w1 w2 w3 K Kp) : Env0.codeW (ev 10 0 0) (gen 10) [] (bodyOf Try.f10) (frame0 Try.f10 [(A4 w0 w1 w2 w3, .no)]) ⟨[], []⟩ (endW cx .great Try.f10 0 0 K Kp) :=
  (by kernel_rfl : F10 w0 w1 w2 w3 K Kp = Env0.codeW (ev 10 0 0) (gen 10) [] (bodyOf Try.f10) (frame0 Try.f10 [(A4 w0 w1 w2 w3, .no)]) ⟨[], []⟩ (endW cx .great Try.f10 0 0 K Kp)).mp h

set_option maxRecDepth 20000 in
abbrev F10b (w0 w1 w2 w3 : Int) (i : Int) (cells : Blk) (Q : Post1) : Prop :=
  (∀ (r0 : Bool), ((r0 = (decide (i < (256 : Int)))) →
   ((Go.Ab.implB r0 Bool.true ((Go.Ab.nonzero (64 : Int)) ∧
   (∀ (r1 : Int), ((r1 = (Go.IntKind.wrap Go.IntKind.i64 (Int.tdiv i (64 : Int)))) →
   ((Go.Ab.inR r1 4) ∧
   (∃ r2 : Int, ((([((Go.Ab.AV.int Go.IntKind.u64 w0), Go.Ab.Tag.no), ((Go.Ab.AV.int Go.IntKind.u64 w1), Go.Ab.Tag.no), ((Go.Ab.AV.int Go.IntKind.u64 w2), Go.Ab.Tag.no), ((Go.Ab.AV.int Go.IntKind.u64 w3), Go.Ab.Tag.no)][(0 + ((Int.toNat r1) * 1))]?) = (Option.some ((Go.Ab.AV.int Go.IntKind.u64 r2), Go.Ab.Tag.no))) ∧
   ((Go.Ab.nonzero (64 : Int)) ∧
   (∀ (r3 : Int), ((r3 = (Int.tmod i (64 : Int))) →
   (∀ (r4 : Int), ((r4 = (Go.IntKind.wrap Go.IntKind.u64 r3)) →
   ((Go.Ab.nonneg r4) ∧
   (∀ (r5 : Int), ((r5 = (Int.fdiv r2 ((2 : Int) ^ (Min.min (Int.toNat r4) 64)))) →
   ((Go.Ab.nonzero (2 : Int)) ∧
   (∀ (r6 : Int), ((r6 = (Int.tmod r5 (2 : Int))) →
   (∀ (r7 : Bool), ((r7 = (r6 == (1 : Int))) →
   ((Go.Ab.inR i 256) ∧
   ((((0 + ((Int.toNat i) * 1)) + 1) ≤ (List.length cells)) ∧
   (∀ (cs8 : (List Go.Ab.SV)), ((cs8 = (Go.Ab.replaceAt cells (0 + ((Int.toNat i) * 1)) (Go.Ab.keptCells (decide (2 < 0)) (0 + ((Int.toNat i) * 1)) cells (Go.Ab.expand ((Go.Ab.AV.bool r7), Go.Ab.Tag.no))))) →
   (∀ (r9 : Int), ((r9 = (Go.IntKind.wrap Go.IntKind.i64 (i + (1 : Int)))) →
   (Q Go.Ab.Ex.normal (Go.Ab.Fr.mk [U, ((Go.Ab.AV.ptr 0 0), Go.Ab.Tag.no), ((Go.Ab.AV.ptr 1 0), Go.Ab.Tag.no), ((Go.Ab.AV.ptr 2 0), Go.Ab.Tag.no), ((Go.Ab.AV.int Go.IntKind.i64 r9), Go.Ab.Tag.no), U, U, ((Go.Ab.AV.bool r0), Go.Ab.Tag.no), U, U, U, U, U, U, U, U, U, U, U, U, U, U, U] []) (Go.Ab.St.mk [[((Go.Ab.AV.int Go.IntKind.u64 w0), Go.Ab.Tag.no), ((Go.Ab.AV.int Go.IntKind.u64 w1), Go.Ab.Tag.no), ((Go.Ab.AV.int Go.IntKind.u64 w2), Go.Ab.Tag.no), ((Go.Ab.AV.int Go.IntKind.u64 w3), Go.Ab.Tag.no)], Go.Proofs.Ytdiphholophdcaa.V.Sets.Z256, cs8] [])))))))))))))))))))))))))))) ∧
   (Go.Ab.implB r0 Bool.false (Q (Go.Ab.Ex.exit 0) (Go.Ab.Fr.mk [U, ((Go.Ab.AV.ptr 0 0), Go.Ab.Tag.no), ((Go.Ab.AV.ptr 1 0), Go.Ab.Tag.no), ((Go.Ab.AV.ptr 2 0), Go.Ab.Tag.no), ((Go.Ab.AV.int Go.IntKind.i64 i), Go.Ab.Tag.no), U, U, ((Go.Ab.AV.bool r0), Go.Ab.Tag.no), U, U, U, U, U, U, U, U, U, U, U, U, U, U, U] []) (Go.Ab.St.mk [[((Go.Ab.AV.int Go.IntKind.u64 w0), Go.Ab.Tag.no), ((Go.Ab.AV.int Go.IntKind.u64 w1), Go.Ab.Tag.no), ((Go.Ab.AV.int Go.IntKind.u64 w2), Go.Ab.Tag.no), ((Go.Ab.AV.int Go.IntKind.u64 w3), Go.Ab.Tag.no)], Go.Proofs.Ytdiphholophdcaa.V.Sets.Z256, cells] []))))))
set_option maxRecDepth 20000 in
theorem vc10b (w0 w1 w2 w3 : Int) (i : Int) (cells : Blk) (Q : Post1) (h : F10b w0 w1 w2 w3 i cells Q) : Env0.codeW (ev 10 0 0) (genD 10 1) [0, 0, 1, 0, 1, 1] (subR [0, 0, 1, 0, 1, 1] (bodyOf Try.f10)) (fr10 i) ⟨[blk4 w0 w1 w2 w3, Z256, cells], []⟩ Q :=
  (by kernel_rfl : F10b w0 w1 w2 w3 i cells Q = Env0.codeW (ev 10 0 0) (genD 10 1) [0, 0, 1, 0, 1, 1] (subR [0, 0, 1, 0, 1, 1] (bodyOf Try.f10)) (fr10 i) ⟨[blk4 w0 w1 w2 w3, Z256, cells], []⟩ Q).mp h

set_option maxRecDepth 20000 in
abbrev F14 (w0 w1 w2 w3 : Int) (K : SV → St → Prop) (Kp : AV → St → Prop) : Prop :=
  (∃ w00 : Int, (∃ w11 : Int, (∃ w22 : Int, (∃ w33 : Int, (((Go.Ab.Fr.mk [U, U, U, ((Go.Ab.AV.int Go.IntKind.i64 (0 : Int)), Go.Ab.Tag.no), U, U, (Go.Ab.collect [((Go.Ab.AV.int Go.IntKind.u64 w0), Go.Ab.Tag.no), ((Go.Ab.AV.int Go.IntKind.u64 w1), Go.Ab.Tag.no), ((Go.Ab.AV.int Go.IntKind.u64 w2), Go.Ab.Tag.no), ((Go.Ab.AV.int Go.IntKind.u64 w3), Go.Ab.Tag.no)]), ((Go.Ab.AV.int Go.IntKind.i64 (0 : Int)), Go.Ab.Tag.no), U, U, U, U, U, U, U, U] []) = (Go.Ab.Fr.mk [U, U, U, ((Go.Ab.AV.int Go.IntKind.i64 (0 : Int)), Go.Ab.Tag.no), U, U, ((Go.Ab.AV.agg [(Go.Ab.AV.int Go.IntKind.u64 w00), (Go.Ab.AV.int Go.IntKind.u64 w11), (Go.Ab.AV.int Go.IntKind.u64 w22), (Go.Ab.AV.int Go.IntKind.u64 w33)]), (Go.Ab.Tag.agg [Go.Ab.Tag.no, Go.Ab.Tag.no, Go.Ab.Tag.no, Go.Ab.Tag.no])), ((Go.Ab.AV.int Go.IntKind.i64 (0 : Int)), Go.Ab.Tag.no), U, U, U, U, U, U, U, U] [])) ∧
   (((Go.Ab.St.mk [[((Go.Ab.AV.int Go.IntKind.u64 w0), Go.Ab.Tag.no), ((Go.Ab.AV.int Go.IntKind.u64 w1), Go.Ab.Tag.no), ((Go.Ab.AV.int Go.IntKind.u64 w2), Go.Ab.Tag.no), ((Go.Ab.AV.int Go.IntKind.u64 w3), Go.Ab.Tag.no)]] []) = (Go.Ab.St.mk [[((Go.Ab.AV.int Go.IntKind.u64 w00), Go.Ab.Tag.no), ((Go.Ab.AV.int Go.IntKind.u64 w11), Go.Ab.Tag.no), ((Go.Ab.AV.int Go.IntKind.u64 w22), Go.Ab.Tag.no), ((Go.Ab.AV.int Go.IntKind.u64 w33), Go.Ab.Tag.no)]] [])) ∧
   (((((0 : Int) ≤ w00) ∧
   (w00 < ((2 : Int) ^ 64))) ∧
   ((((0 : Int) ≤ w11) ∧
   (w11 < ((2 : Int) ^ 64))) ∧
   ((((0 : Int) ≤ w22) ∧
   (w22 < ((2 : Int) ^ 64))) ∧
   (((0 : Int) ≤ w33) ∧
   (w33 < ((2 : Int) ^ 64)))))) ∧
   (∀ (i4 : Int), (∀ (n5 : Int), ((n5 = ((((Go.Proofs.Ytdiphholophdcaa.V.Sets.cnt w00) + (Go.Proofs.Ytdiphholophdcaa.V.Sets.cnt w11)) + (Go.Proofs.Ytdiphholophdcaa.V.Sets.cnt w22)) + (Go.Proofs.Ytdiphholophdcaa.V.Sets.cnt w33))) →
   (K ((Go.Ab.AV.int Go.IntKind.i64 n5), Go.Ab.Tag.no) (Go.Ab.St.mk [] []))))))))))))
set_option maxRecDepth 20000 in
theorem vc14 (w0 w1 w2 w3 : Int) (K : SV → St → Prop) (Kp : AV → St → Prop) (h : F14 w0 w1 w2 w3 K Kp) : Env0.codeW (ev 14 0 0) (gen 14) [] (bodyOf Try.f14) (frame0 Try.f14 [(A4 w0 w1 w2 w3, .no)]) ⟨[], []⟩ (endW cx .plain Try.f14 0 0 K Kp) :=
  (by kernel_rfl : F14 w0 w1 w2 w3 K Kp = Env0.codeW (ev 14 0 0) (gen 14) [] (bodyOf Try.f14) (frame0 Try.f14 [(A4 w0 w1 w2 w3, .no)]) ⟨[], []⟩ (endW cx .plain Try.f14 0 0 K Kp)).mp h

set_option maxRecDepth 20000 in
abbrev F11 (w0 w1 w2 w3 : Int) (a b : Int) (K : SV → St → Prop) (Kp : AV → St → Prop) : Prop :=
  (((((0 : Int) ≤ a) ∧
   (a < (256 : Int))) ∧
   (((0 : Int) ≤ b) ∧
   (b < (256 : Int)))) ∧
   (∀ (x0 : Int), ((x0 = (Go.Proofs.Ytdiphholophdcaa.V.Sets.addW w0 w1 w2 w3 a b 0)) →
   (∀ (x1 : Int), ((x1 = (Go.Proofs.Ytdiphholophdcaa.V.Sets.addW w0 w1 w2 w3 a b 1)) →
   (∀ (x2 : Int), ((x2 = (Go.Proofs.Ytdiphholophdcaa.V.Sets.addW w0 w1 w2 w3 a b 2)) →
   (∀ (x3 : Int), ((x3 = (Go.Proofs.Ytdiphholophdcaa.V.Sets.addW w0 w1 w2 w3 a b 3)) →
   (K ((Go.Ab.AV.agg [(Go.Ab.AV.int Go.IntKind.u64 x0), (Go.Ab.AV.int Go.IntKind.u64 x1), (Go.Ab.AV.int Go.IntKind.u64 x2), (Go.Ab.AV.int Go.IntKind.u64 x3)]), Go.Ab.Tag.no) (Go.Ab.St.mk [] [])))))))))))
set_option maxRecDepth 20000 in
theorem vc11 (w0 w1 w2 w3 : Int) (a b : Int) (K : SV → St → Prop) (Kp : AV → St → Prop) (h : F11 w0 w1 w2 w3 a b K Kp) : Env0.codeW (ev 11 0 0) (gen 11) [] (bodyOf Try.f11) (frame0 Try.f11 [(A4 w0 w1 w2 w3, .no), (.int .u8 a, .no), (.int .u8 b, .no)]) ⟨[], []⟩ (endW cx .plain Try.f11 0 0 K Kp) :=
  (by kernel_rfl : F11 w0 w1 w2 w3 a b K Kp = Env0.codeW (ev 11 0 0) (gen 11) [] (bodyOf Try.f11) (frame0 Try.f11 [(A4 w0 w1 w2 w3, .no), (.int .u8 a, .no), (.int .u8 b, .no)]) ⟨[], []⟩ (endW cx .plain Try.f11 0 0 K Kp)).mp h

set_option maxRecDepth 20000 in
abbrev F12 (w0 w1 w2 w3 : Int) (K : SV → St → Prop) (Kp : AV → St → Prop) : Prop :=
  (((((0 : Int) ≤ w0) ∧
   (w0 < ((2 : Int) ^ 64))) ∧
   ((((0 : Int) ≤ w1) ∧
   (w1 < ((2 : Int) ^ 64))) ∧
   ((((0 : Int) ≤ w2) ∧
   (w2 < ((2 : Int) ^ 64))) ∧
   (((0 : Int) ≤ w3) ∧
   (w3 < ((2 : Int) ^ 64)))))) ∧
   (∀ (x0 : Int), ((x0 = (Go.Proofs.Ytdiphholophdcaa.V.Sets.notW w0)) →
   (∀ (x1 : Int), ((x1 = (Go.Proofs.Ytdiphholophdcaa.V.Sets.notW w1)) →
   (∀ (x2 : Int), ((x2 = (Go.Proofs.Ytdiphholophdcaa.V.Sets.notW w2)) →
   (∀ (x3 : Int), ((x3 = (Go.Proofs.Ytdiphholophdcaa.V.Sets.notW w3)) →
   (K ((Go.Ab.AV.agg [(Go.Ab.AV.int Go.IntKind.u64 x0), (Go.Ab.AV.int Go.IntKind.u64 x1), (Go.Ab.AV.int Go.IntKind.u64 x2), (Go.Ab.AV.int Go.IntKind.u64 x3)]), Go.Ab.Tag.no) (Go.Ab.St.mk [] [])))))))))))
set_option maxRecDepth 20000 in
theorem vc12 (w0 w1 w2 w3 : Int) (K : SV → St → Prop) (Kp : AV → St → Prop) (h : F12 w0 w1 w2 w3 K Kp) : Env0.codeW (ev 12 0 0) (gen 12) [] (bodyOf Try.f12) (frame0 Try.f12 [(A4 w0 w1 w2 w3, .no)]) ⟨[], []⟩ (endW cx .plain Try.f12 0 0 K Kp) :=
  (by kernel_rfl : F12 w0 w1 w2 w3 K Kp = Env0.codeW (ev 12 0 0) (gen 12) [] (bodyOf Try.f12) (frame0 Try.f12 [(A4 w0 w1 w2 w3, .no)]) ⟨[], []⟩ (endW cx .plain Try.f12 0 0 K Kp)).mp h

set_option maxRecDepth 20000 in
abbrev F13 (a0 a1 a2 a3 b0 b1 b2 b3 : Int) (K : SV → St → Prop) (Kp : AV → St → Prop) : Prop :=
  (∀ (x0 : Int), ((x0 = (Go.Ab.orI Go.IntKind.u64 a0 b0)) →
   (∀ (x1 : Int), ((x1 = (Go.Ab.orI Go.IntKind.u64 a1 b1)) →
   (∀ (x2 : Int), ((x2 = (Go.Ab.orI Go.IntKind.u64 a2 b2)) →
   (∀ (x3 : Int), ((x3 = (Go.Ab.orI Go.IntKind.u64 a3 b3)) →
   (K ((Go.Ab.AV.agg [(Go.Ab.AV.int Go.IntKind.u64 x0), (Go.Ab.AV.int Go.IntKind.u64 x1), (Go.Ab.AV.int Go.IntKind.u64 x2), (Go.Ab.AV.int Go.IntKind.u64 x3)]), Go.Ab.Tag.no) (Go.Ab.St.mk [] []))))))))))
set_option maxRecDepth 20000 in
theorem vc13 (a0 a1 a2 a3 b0 b1 b2 b3 : Int) (K : SV → St → Prop) (Kp : AV → St → Prop) (h : F13 a0 a1 a2 a3 b0 b1 b2 b3 K Kp) : Env0.codeW (ev 13 0 0) (gen 13) [] (bodyOf Try.f13) (frame0 Try.f13 [(A4 a0 a1 a2 a3, .no), (A4 b0 b1 b2 b3, .no)]) ⟨[], []⟩ (endW cx .plain Try.f13 0 0 K Kp) :=
  (by kernel_rfl : F13 a0 a1 a2 a3 b0 b1 b2 b3 K Kp = Env0.codeW (ev 13 0 0) (gen 13) [] (bodyOf Try.f13) (frame0 Try.f13 [(A4 a0 a1 a2 a3, .no), (A4 b0 b1 b2 b3, .no)]) ⟨[], []⟩ (endW cx .plain Try.f13 0 0 K Kp)).mp h

set_option maxRecDepth 20000 in
abbrev F21b (w0 w1 w2 w3 : Int) (i : Int) (Q : Post1) : Prop :=
  (∀ (r0 : Bool), ((r0 = (decide (i < (4 : Int)))) →
   ((Go.Ab.implB r0 Bool.true ((Go.Ab.inR i 4) ∧
   (∃ r1 : Int, ((([((Go.Ab.AV.int Go.IntKind.u64 w0), Go.Ab.Tag.no), ((Go.Ab.AV.int Go.IntKind.u64 w1), Go.Ab.Tag.no), ((Go.Ab.AV.int Go.IntKind.u64 w2), Go.Ab.Tag.no), ((Go.Ab.AV.int Go.IntKind.u64 w3), Go.Ab.Tag.no)][(0 + ((Int.toNat i) * 1))]?) = (Option.some ((Go.Ab.AV.int Go.IntKind.u64 r1), Go.Ab.Tag.no))) ∧
   (∀ (r2 : Int), ((r2 = (Go.Ab.xorI Go.IntKind.u64 ((((2 ^ 64) - 1) : Nat) : Int) r1)) →
   ((Go.Ab.inR i 4) ∧
   ((((0 + ((Int.toNat i) * 1)) + 1) ≤ 4) ∧
   (∃ n3 : Int, (∃ n4 : Int, (∃ n5 : Int, (∃ n6 : Int, (((List.map (fun (x : Go.Ab.SV) => (x).1) (Go.Ab.replaceAt [((Go.Ab.AV.int Go.IntKind.u64 w0), Go.Ab.Tag.no), ((Go.Ab.AV.int Go.IntKind.u64 w1), Go.Ab.Tag.no), ((Go.Ab.AV.int Go.IntKind.u64 w2), Go.Ab.Tag.no), ((Go.Ab.AV.int Go.IntKind.u64 w3), Go.Ab.Tag.no)] (0 + ((Int.toNat i) * 1)) (Go.Ab.keptCells (decide (0 < 0)) (0 + ((Int.toNat i) * 1)) [((Go.Ab.AV.int Go.IntKind.u64 w0), Go.Ab.Tag.no), ((Go.Ab.AV.int Go.IntKind.u64 w1), Go.Ab.Tag.no), ((Go.Ab.AV.int Go.IntKind.u64 w2), Go.Ab.Tag.no), ((Go.Ab.AV.int Go.IntKind.u64 w3), Go.Ab.Tag.no)] (Go.Ab.expand ((Go.Ab.AV.int Go.IntKind.u64 r2), Go.Ab.Tag.no))))) = [(Go.Ab.AV.int Go.IntKind.u64 n3), (Go.Ab.AV.int Go.IntKind.u64 n4), (Go.Ab.AV.int Go.IntKind.u64 n5), (Go.Ab.AV.int Go.IntKind.u64 n6)]) ∧
   (((Go.Ab.replaceAt [((Go.Ab.AV.int Go.IntKind.u64 w0), Go.Ab.Tag.no), ((Go.Ab.AV.int Go.IntKind.u64 w1), Go.Ab.Tag.no), ((Go.Ab.AV.int Go.IntKind.u64 w2), Go.Ab.Tag.no), ((Go.Ab.AV.int Go.IntKind.u64 w3), Go.Ab.Tag.no)] (0 + ((Int.toNat i) * 1)) (Go.Ab.keptCells (decide (0 < 0)) (0 + ((Int.toNat i) * 1)) [((Go.Ab.AV.int Go.IntKind.u64 w0), Go.Ab.Tag.no), ((Go.Ab.AV.int Go.IntKind.u64 w1), Go.Ab.Tag.no), ((Go.Ab.AV.int Go.IntKind.u64 w2), Go.Ab.Tag.no), ((Go.Ab.AV.int Go.IntKind.u64 w3), Go.Ab.Tag.no)] (Go.Ab.expand ((Go.Ab.AV.int Go.IntKind.u64 r2), Go.Ab.Tag.no)))) = [((Go.Ab.AV.int Go.IntKind.u64 n3), Go.Ab.Tag.no), ((Go.Ab.AV.int Go.IntKind.u64 n4), Go.Ab.Tag.no), ((Go.Ab.AV.int Go.IntKind.u64 n5), Go.Ab.Tag.no), ((Go.Ab.AV.int Go.IntKind.u64 n6), Go.Ab.Tag.no)]) ∧
   (∀ (r7 : Int), ((r7 = (Go.IntKind.wrap Go.IntKind.i64 (i + (1 : Int)))) →
   (Q Go.Ab.Ex.normal (Go.Ab.Fr.mk [U, ((Go.Ab.AV.ptr 0 0), Go.Ab.Tag.no), ((Go.Ab.AV.ptr 1 0), Go.Ab.Tag.no), U, ((Go.Ab.AV.int Go.IntKind.i64 r7), Go.Ab.Tag.no), ((Go.Ab.AV.bool r0), Go.Ab.Tag.no), U, U, U, U, U, U, U, U, U] []) (Go.Ab.St.mk [[((Go.Ab.AV.int Go.IntKind.u64 n3), Go.Ab.Tag.no), ((Go.Ab.AV.int Go.IntKind.u64 n4), Go.Ab.Tag.no), ((Go.Ab.AV.int Go.IntKind.u64 n5), Go.Ab.Tag.no), ((Go.Ab.AV.int Go.IntKind.u64 n6), Go.Ab.Tag.no)], [((Go.Ab.AV.int Go.IntKind.u64 (0 : Int)), Go.Ab.Tag.no), ((Go.Ab.AV.int Go.IntKind.u64 (0 : Int)), Go.Ab.Tag.no), ((Go.Ab.AV.int Go.IntKind.u64 (0 : Int)), Go.Ab.Tag.no), ((Go.Ab.AV.int Go.IntKind.u64 (0 : Int)), Go.Ab.Tag.no)]] [])))))))))))))))))) ∧
   (Go.Ab.implB r0 Bool.false (Q (Go.Ab.Ex.exit 0) (Go.Ab.Fr.mk [U, ((Go.Ab.AV.ptr 0 0), Go.Ab.Tag.no), ((Go.Ab.AV.ptr 1 0), Go.Ab.Tag.no), U, ((Go.Ab.AV.int Go.IntKind.i64 i), Go.Ab.Tag.no), ((Go.Ab.AV.bool r0), Go.Ab.Tag.no), U, U, U, U, U, U, U, U, U] []) (Go.Ab.St.mk [[((Go.Ab.AV.int Go.IntKind.u64 w0), Go.Ab.Tag.no), ((Go.Ab.AV.int Go.IntKind.u64 w1), Go.Ab.Tag.no), ((Go.Ab.AV.int Go.IntKind.u64 w2), Go.Ab.Tag.no), ((Go.Ab.AV.int Go.IntKind.u64 w3), Go.Ab.Tag.no)], [((Go.Ab.AV.int Go.IntKind.u64 (0 : Int)), Go.Ab.Tag.no), ((Go.Ab.AV.int Go.IntKind.u64 (0 : Int)), Go.Ab.Tag.no), ((Go.Ab.AV.int Go.IntKind.u64 (0 : Int)), Go.Ab.Tag.no), ((Go.Ab.AV.int Go.IntKind.u64 (0 : Int)), Go.Ab.Tag.no)]] []))))))
set_option maxRecDepth 20000 in
theorem vc21b (w0 w1 w2 w3 : Int) (i : Int) (Q : Post1) (h : F21b w0 w1 w2 w3 i Q) : Env0.codeW (ev 21 0 0) (genD 21 1) [0, 0, 1, 0, 1] (subR [0, 0, 1, 0, 1] (bodyOf Try.f21)) (fr21 i) ⟨[blk4 w0 w1 w2 w3, blk4 0 0 0 0], []⟩ Q :=
  (by kernel_rfl : F21b w0 w1 w2 w3 i Q = Env0.codeW (ev 21 0 0) (genD 21 1) [0, 0, 1, 0, 1] (subR [0, 0, 1, 0, 1] (bodyOf Try.f21)) (fr21 i) ⟨[blk4 w0 w1 w2 w3, blk4 0 0 0 0], []⟩ Q).mp h

set_option maxRecDepth 20000 in
abbrev F22b (a0 a1 a2 a3 b0 b1 b2 b3 i : Int) (Q : Post1) : Prop :=
  (∀ (r0 : Bool), ((r0 = (decide (i < (4 : Int)))) →
   ((Go.Ab.implB r0 Bool.true ((Go.Ab.inR i 4) ∧
   (∃ r1 : Int, ((([((Go.Ab.AV.int Go.IntKind.u64 a0), Go.Ab.Tag.no), ((Go.Ab.AV.int Go.IntKind.u64 a1), Go.Ab.Tag.no), ((Go.Ab.AV.int Go.IntKind.u64 a2), Go.Ab.Tag.no), ((Go.Ab.AV.int Go.IntKind.u64 a3), Go.Ab.Tag.no)][(0 + ((Int.toNat i) * 1))]?) = (Option.some ((Go.Ab.AV.int Go.IntKind.u64 r1), Go.Ab.Tag.no))) ∧
   ((Go.Ab.inR i 4) ∧
   (∃ r2 : Int, ((([((Go.Ab.AV.int Go.IntKind.u64 b0), Go.Ab.Tag.no), ((Go.Ab.AV.int Go.IntKind.u64 b1), Go.Ab.Tag.no), ((Go.Ab.AV.int Go.IntKind.u64 b2), Go.Ab.Tag.no), ((Go.Ab.AV.int Go.IntKind.u64 b3), Go.Ab.Tag.no)][(0 + ((Int.toNat i) * 1))]?) = (Option.some ((Go.Ab.AV.int Go.IntKind.u64 r2), Go.Ab.Tag.no))) ∧
   (∀ (r3 : Int), ((r3 = (Go.Ab.orI Go.IntKind.u64 r1 r2)) →
   ((Go.Ab.inR i 4) ∧
   ((((0 + ((Int.toNat i) * 1)) + 1) ≤ 4) ∧
   (∃ n4 : Int, (∃ n5 : Int, (∃ n6 : Int, (∃ n7 : Int, (((List.map (fun (x : Go.Ab.SV) => (x).1) (Go.Ab.replaceAt [((Go.Ab.AV.int Go.IntKind.u64 a0), Go.Ab.Tag.no), ((Go.Ab.AV.int Go.IntKind.u64 a1), Go.Ab.Tag.no), ((Go.Ab.AV.int Go.IntKind.u64 a2), Go.Ab.Tag.no), ((Go.Ab.AV.int Go.IntKind.u64 a3), Go.Ab.Tag.no)] (0 + ((Int.toNat i) * 1)) (Go.Ab.keptCells (decide (0 < 0)) (0 + ((Int.toNat i) * 1)) [((Go.Ab.AV.int Go.IntKind.u64 a0), Go.Ab.Tag.no), ((Go.Ab.AV.int Go.IntKind.u64 a1), Go.Ab.Tag.no), ((Go.Ab.AV.int Go.IntKind.u64 a2), Go.Ab.Tag.no), ((Go.Ab.AV.int Go.IntKind.u64 a3), Go.Ab.Tag.no)] (Go.Ab.expand ((Go.Ab.AV.int Go.IntKind.u64 r3), Go.Ab.Tag.no))))) = [(Go.Ab.AV.int Go.IntKind.u64 n4), (Go.Ab.AV.int Go.IntKind.u64 n5), (Go.Ab.AV.int Go.IntKind.u64 n6), (Go.Ab.AV.int Go.IntKind.u64 n7)]) ∧
   (((Go.Ab.replaceAt [((Go.Ab.AV.int Go.IntKind.u64 a0), Go.Ab.Tag.no), ((Go.Ab.AV.int Go.IntKind.u64 a1), Go.Ab.Tag.no), ((Go.Ab.AV.int Go.IntKind.u64 a2), Go.Ab.Tag.no), ((Go.Ab.AV.int Go.IntKind.u64 a3), Go.Ab.Tag.no)] (0 + ((Int.toNat i) * 1)) (Go.Ab.keptCells (decide (0 < 0)) (0 + ((Int.toNat i) * 1)) [((Go.Ab.AV.int Go.IntKind.u64 a0), Go.Ab.Tag.no), ((Go.Ab.AV.int Go.IntKind.u64 a1), Go.Ab.Tag.no), ((Go.Ab.AV.int Go.IntKind.u64 a2), Go.Ab.Tag.no), ((Go.Ab.AV.int Go.IntKind.u64 a3), Go.Ab.Tag.no)] (Go.Ab.expand ((Go.Ab.AV.int Go.IntKind.u64 r3), Go.Ab.Tag.no)))) = [((Go.Ab.AV.int Go.IntKind.u64 n4), Go.Ab.Tag.no), ((Go.Ab.AV.int Go.IntKind.u64 n5), Go.Ab.Tag.no), ((Go.Ab.AV.int Go.IntKind.u64 n6), Go.Ab.Tag.no), ((Go.Ab.AV.int Go.IntKind.u64 n7), Go.Ab.Tag.no)]) ∧
   ((∃ r8 : Int, ((([((Go.Ab.AV.int Go.IntKind.u64 a0), Go.Ab.Tag.no), ((Go.Ab.AV.int Go.IntKind.u64 a1), Go.Ab.Tag.no), ((Go.Ab.AV.int Go.IntKind.u64 a2), Go.Ab.Tag.no), ((Go.Ab.AV.int Go.IntKind.u64 a3), Go.Ab.Tag.no)][(0 + ((Int.toNat i) * 1))]?) = (Option.some ((Go.Ab.AV.int Go.IntKind.u64 r8), Go.Ab.Tag.no))) ∧
   (((Go.Ab.AV.int Go.IntKind.u64 r8), Go.Ab.Tag.no) = ((Go.Ab.AV.int Go.IntKind.u64 r1), Go.Ab.Tag.no)))) ∧
   ((∃ r9 : Int, ((([((Go.Ab.AV.int Go.IntKind.u64 b0), Go.Ab.Tag.no), ((Go.Ab.AV.int Go.IntKind.u64 b1), Go.Ab.Tag.no), ((Go.Ab.AV.int Go.IntKind.u64 b2), Go.Ab.Tag.no), ((Go.Ab.AV.int Go.IntKind.u64 b3), Go.Ab.Tag.no)][(0 + ((Int.toNat i) * 1))]?) = (Option.some ((Go.Ab.AV.int Go.IntKind.u64 r9), Go.Ab.Tag.no))) ∧
   (((Go.Ab.AV.int Go.IntKind.u64 r9), Go.Ab.Tag.no) = ((Go.Ab.AV.int Go.IntKind.u64 r2), Go.Ab.Tag.no)))) ∧
   (∀ (r10 : Int), ((r10 = (Go.IntKind.wrap Go.IntKind.i64 (i + (1 : Int)))) →
   (Q Go.Ab.Ex.normal (Go.Ab.Fr.mk [U, U, ((Go.Ab.AV.ptr 0 0), Go.Ab.Tag.no), ((Go.Ab.AV.ptr 1 0), Go.Ab.Tag.no), ((Go.Ab.AV.ptr 2 0), Go.Ab.Tag.no), U, ((Go.Ab.AV.int Go.IntKind.i64 r10), Go.Ab.Tag.no), ((Go.Ab.AV.bool r0), Go.Ab.Tag.no), U, U, U, U, U, U, U, U, U, U, U] []) (Go.Ab.St.mk [[((Go.Ab.AV.int Go.IntKind.u64 n4), Go.Ab.Tag.no), ((Go.Ab.AV.int Go.IntKind.u64 n5), Go.Ab.Tag.no), ((Go.Ab.AV.int Go.IntKind.u64 n6), Go.Ab.Tag.no), ((Go.Ab.AV.int Go.IntKind.u64 n7), Go.Ab.Tag.no)], [((Go.Ab.AV.int Go.IntKind.u64 b0), Go.Ab.Tag.no), ((Go.Ab.AV.int Go.IntKind.u64 b1), Go.Ab.Tag.no), ((Go.Ab.AV.int Go.IntKind.u64 b2), Go.Ab.Tag.no), ((Go.Ab.AV.int Go.IntKind.u64 b3), Go.Ab.Tag.no)], [((Go.Ab.AV.int Go.IntKind.u64 (0 : Int)), Go.Ab.Tag.no), ((Go.Ab.AV.int Go.IntKind.u64 (0 : Int)), Go.Ab.Tag.no), ((Go.Ab.AV.int Go.IntKind.u64 (0 : Int)), Go.Ab.Tag.no), ((Go.Ab.AV.int Go.IntKind.u64 (0 : Int)), Go.Ab.Tag.no)]] []))))))))))))))))))))))) ∧
   (Go.Ab.implB r0 Bool.false (Q (Go.Ab.Ex.exit 0) (Go.Ab.Fr.mk [U, U, ((Go.Ab.AV.ptr 0 0), Go.Ab.Tag.no), ((Go.Ab.AV.ptr 1 0), Go.Ab.Tag.no), ((Go.Ab.AV.ptr 2 0), Go.Ab.Tag.no), U, ((Go.Ab.AV.int Go.IntKind.i64 i), Go.Ab.Tag.no), ((Go.Ab.AV.bool r0), Go.Ab.Tag.no), U, U, U, U, U, U, U, U, U, U, U] []) (Go.Ab.St.mk [[((Go.Ab.AV.int Go.IntKind.u64 a0), Go.Ab.Tag.no), ((Go.Ab.AV.int Go.IntKind.u64 a1), Go.Ab.Tag.no), ((Go.Ab.AV.int Go.IntKind.u64 a2), Go.Ab.Tag.no), ((Go.Ab.AV.int Go.IntKind.u64 a3), Go.Ab.Tag.no)], [((Go.Ab.AV.int Go.IntKind.u64 b0), Go.Ab.Tag.no), ((Go.Ab.AV.int Go.IntKind.u64 b1), Go.Ab.Tag.no), ((Go.Ab.AV.int Go.IntKind.u64 b2), Go.Ab.Tag.no), ((Go.Ab.AV.int Go.IntKind.u64 b3), Go.Ab.Tag.no)], [((Go.Ab.AV.int Go.IntKind.u64 (0 : Int)), Go.Ab.Tag.no), ((Go.Ab.AV.int Go.IntKind.u64 (0 : Int)), Go.Ab.Tag.no), ((Go.Ab.AV.int Go.IntKind.u64 (0 : Int)), Go.Ab.Tag.no), ((Go.Ab.AV.int Go.IntKind.u64 (0 : Int)), Go.Ab.Tag.no)]] []))))))
set_option maxRecDepth 20000 in
theorem vc22b (a0 a1 a2 a3 b0 b1 b2 b3 i : Int) (Q : Post1) (h : F22b a0 a1 a2 a3 b0 b1 b2 b3 i Q) : Env0.codeW (ev 22 0 0) (genD 22 1) [0, 0, 1, 0, 1] (subR [0, 0, 1, 0, 1] (bodyOf Try.f22)) (fr22 i) ⟨[blk4 a0 a1 a2 a3, blk4 b0 b1 b2 b3, blk4 0 0 0 0], []⟩ Q :=
  (by kernel_rfl : F22b a0 a1 a2 a3 b0 b1 b2 b3 i Q = Env0.codeW (ev 22 0 0) (genD 22 1) [0, 0, 1, 0, 1] (subR [0, 0, 1, 0, 1] (bodyOf Try.f22)) (fr22 i) ⟨[blk4 a0 a1 a2 a3, blk4 b0 b1 b2 b3, blk4 0 0 0 0], []⟩ Q).mp h

set_option maxRecDepth 20000 in
abbrev F14b (w0 w1 w2 w3 n i : Int) (Q : Post1) : Prop :=
  (∀ (r0 : Bool), ((r0 = (decide (i < (4 : Int)))) →
   ((Go.Ab.implB r0 Bool.true ((Go.Ab.inR i 4) ∧
   (∃ r1 : Int, ((((Go.Ab.expand ((Go.Ab.AV.agg [(Go.Ab.AV.int Go.IntKind.u64 w0), (Go.Ab.AV.int Go.IntKind.u64 w1), (Go.Ab.AV.int Go.IntKind.u64 w2), (Go.Ab.AV.int Go.IntKind.u64 w3)]), (Go.Ab.Tag.agg [Go.Ab.Tag.no, Go.Ab.Tag.no, Go.Ab.Tag.no, Go.Ab.Tag.no])))[((Int.toNat i) * 1)]?) = (Option.some ((Go.Ab.AV.int Go.IntKind.u64 r1), Go.Ab.Tag.no))) ∧
   ((((0 : Int) ≤ r1) ∧
   (r1 < ((2 : Int) ^ 64))) ∧
   (∀ (x2 : Int), ((x2 = (Go.Proofs.Ytdiphholophdcaa.V.Sets.cnt r1)) →
   (∀ (r3 : Int), ((r3 = (Go.IntKind.wrap Go.IntKind.i64 (n + x2))) →
   (∀ (r4 : Int), ((r4 = (Go.IntKind.wrap Go.IntKind.i64 (i + (1 : Int)))) →
   (Q Go.Ab.Ex.normal (Go.Ab.Fr.mk [U, U, U, ((Go.Ab.AV.int Go.IntKind.i64 r3), Go.Ab.Tag.no), U, U, ((Go.Ab.AV.agg [(Go.Ab.AV.int Go.IntKind.u64 w0), (Go.Ab.AV.int Go.IntKind.u64 w1), (Go.Ab.AV.int Go.IntKind.u64 w2), (Go.Ab.AV.int Go.IntKind.u64 w3)]), (Go.Ab.Tag.agg [Go.Ab.Tag.no, Go.Ab.Tag.no, Go.Ab.Tag.no, Go.Ab.Tag.no])), ((Go.Ab.AV.int Go.IntKind.i64 r4), Go.Ab.Tag.no), ((Go.Ab.AV.bool r0), Go.Ab.Tag.no), U, U, U, U, U, U, U] []) (Go.Ab.St.mk [[((Go.Ab.AV.int Go.IntKind.u64 w0), Go.Ab.Tag.no), ((Go.Ab.AV.int Go.IntKind.u64 w1), Go.Ab.Tag.no), ((Go.Ab.AV.int Go.IntKind.u64 w2), Go.Ab.Tag.no), ((Go.Ab.AV.int Go.IntKind.u64 w3), Go.Ab.Tag.no)]] []))))))))))))) ∧
   (Go.Ab.implB r0 Bool.false (Q (Go.Ab.Ex.exit 0) (Go.Ab.Fr.mk [U, U, U, ((Go.Ab.AV.int Go.IntKind.i64 n), Go.Ab.Tag.no), U, U, ((Go.Ab.AV.agg [(Go.Ab.AV.int Go.IntKind.u64 w0), (Go.Ab.AV.int Go.IntKind.u64 w1), (Go.Ab.AV.int Go.IntKind.u64 w2), (Go.Ab.AV.int Go.IntKind.u64 w3)]), (Go.Ab.Tag.agg [Go.Ab.Tag.no, Go.Ab.Tag.no, Go.Ab.Tag.no, Go.Ab.Tag.no])), ((Go.Ab.AV.int Go.IntKind.i64 i), Go.Ab.Tag.no), ((Go.Ab.AV.bool r0), Go.Ab.Tag.no), U, U, U, U, U, U, U] []) (Go.Ab.St.mk [[((Go.Ab.AV.int Go.IntKind.u64 w0), Go.Ab.Tag.no), ((Go.Ab.AV.int Go.IntKind.u64 w1), Go.Ab.Tag.no), ((Go.Ab.AV.int Go.IntKind.u64 w2), Go.Ab.Tag.no), ((Go.Ab.AV.int Go.IntKind.u64 w3), Go.Ab.Tag.no)]] []))))))
set_option maxRecDepth 20000 in
theorem vc14b (w0 w1 w2 w3 n i : Int) (Q : Post1) (h : F14b w0 w1 w2 w3 n i Q) : Env0.codeW (ev 14 0 0) (genD 14 1) [0, 0, 1, 0, 1, 1] (subR [0, 0, 1, 0, 1, 1] (bodyOf Try.f14)) (fr14 w0 w1 w2 w3 n i) ⟨[blk4 w0 w1 w2 w3], []⟩ Q :=
  (by kernel_rfl : F14b w0 w1 w2 w3 n i Q = Env0.codeW (ev 14 0 0) (genD 14 1) [0, 0, 1, 0, 1, 1] (subR [0, 0, 1, 0, 1, 1] (bodyOf Try.f14)) (fr14 w0 w1 w2 w3 n i) ⟨[blk4 w0 w1 w2 w3], []⟩ Q).mp h

set_option maxRecDepth 20000 in
abbrev F4 (a0 a1 a2 a3 b0 b1 b2 b3 x y : Int) (K : SV → St → Prop) (Kp : AV → St → Prop) : Prop :=
  ((Go.Ab.inR (0 : Int) 2) ∧
   ((Go.Ab.inR (1 : Int) 2) ∧
   ((((Go.Ab.AV.int Go.IntKind.u8 x), Go.Ab.Tag.no) = ((Go.Ab.AV.int Go.IntKind.u8 x), Go.Ab.Tag.no)) ∧
   ((((Go.Ab.AV.int Go.IntKind.u8 y), Go.Ab.Tag.no) = ((Go.Ab.AV.int Go.IntKind.u8 y), Go.Ab.Tag.no)) ∧
   (((((0 : Int) ≤ a0) ∧
   (a0 < ((2 : Int) ^ 64))) ∧
   ((((0 : Int) ≤ a1) ∧
   (a1 < ((2 : Int) ^ 64))) ∧
   ((((0 : Int) ≤ a2) ∧
   (a2 < ((2 : Int) ^ 64))) ∧
   (((0 : Int) ≤ a3) ∧
   (a3 < ((2 : Int) ^ 64)))))) ∧
   (∀ (x0 : (List Go.Ab.AV)), ((x0 = (Go.Proofs.Ytdiphholophdcaa.V.Sets.ofL a0 a1 a2 a3)) →
   ((((Go.Ab.AV.low 0 (Go.Ab.AV.agg x0)) = Bool.true) ∧
   (Go.Ab.Tag.no = Go.Ab.Tag.no)) ∧
   (((((0 : Int) ≤ b0) ∧
   (b0 < ((2 : Int) ^ 64))) ∧
   ((((0 : Int) ≤ b1) ∧
   (b1 < ((2 : Int) ^ 64))) ∧
   ((((0 : Int) ≤ b2) ∧
   (b2 < ((2 : Int) ^ 64))) ∧
   (((0 : Int) ≤ b3) ∧
   (b3 < ((2 : Int) ^ 64)))))) ∧
   (∀ (x1 : (List Go.Ab.AV)), ((x1 = (Go.Proofs.Ytdiphholophdcaa.V.Sets.ofL b0 b1 b2 b3)) →
   ((((Go.Ab.AV.low 0 (Go.Ab.AV.agg x1)) = Bool.true) ∧
   (Go.Ab.Tag.no = Go.Ab.Tag.no)) ∧
   ((((List.length (Go.Ab.expand ((Go.Ab.AV.agg x0), Go.Ab.Tag.no))) = 256) ∧
   ((1 ≤ 256) ∧
   ((∀ (y2 : Go.Ab.SV), ((List.Mem y2 (Go.Ab.expand ((Go.Ab.AV.agg x0), Go.Ab.Tag.no))) →
   (((Go.Ab.AV.isCell (y2).1) = Bool.true) ∧
   ((Go.Ab.AV.low ((3 + 0) + 1) (y2).1) = Bool.true)))) ∧
   ((0 + 256) ≤ 256)))) ∧
   (∀ (cs3 : (List Go.Ab.SV)), ((cs3 = (Go.Ab.replaceAt (List.replicate 256 ((Go.Ab.AV.bool Bool.false), Go.Ab.Tag.no)) 0 (Go.Ab.keptCells (decide ((3 + 0) < 0)) 0 (List.replicate 256 ((Go.Ab.AV.bool Bool.false), Go.Ab.Tag.no)) (Go.Ab.expand ((Go.Ab.AV.agg x0), Go.Ab.Tag.no))))) →
   ((((List.length (Go.Ab.expand ((Go.Ab.AV.agg x1), Go.Ab.Tag.no))) = 256) ∧
   ((1 ≤ 256) ∧
   ((∀ (y4 : Go.Ab.SV), ((List.Mem y4 (Go.Ab.expand ((Go.Ab.AV.agg x1), Go.Ab.Tag.no))) →
   (((Go.Ab.AV.isCell (y4).1) = Bool.true) ∧
   ((Go.Ab.AV.low (4 + 1) (y4).1) = Bool.true)))) ∧
   ((0 + 256) ≤ 256)))) ∧
   (∀ (cs5 : (List Go.Ab.SV)), ((cs5 = (Go.Ab.replaceAt (List.replicate 256 ((Go.Ab.AV.bool Bool.false), Go.Ab.Tag.no)) 0 (Go.Ab.keptCells (decide (4 < 0)) 0 (List.replicate 256 ((Go.Ab.AV.bool Bool.false), Go.Ab.Tag.no)) (Go.Ab.expand ((Go.Ab.AV.agg x1), Go.Ab.Tag.no))))) →
   (((Go.Ab.collect [((Go.Ab.AV.int Go.IntKind.u64 a0), Go.Ab.Tag.no), ((Go.Ab.AV.int Go.IntKind.u64 a1), Go.Ab.Tag.no), ((Go.Ab.AV.int Go.IntKind.u64 a2), Go.Ab.Tag.no), ((Go.Ab.AV.int Go.IntKind.u64 a3), Go.Ab.Tag.no)]) = ((Go.Ab.AV.agg [(Go.Ab.AV.int Go.IntKind.u64 a0), (Go.Ab.AV.int Go.IntKind.u64 a1), (Go.Ab.AV.int Go.IntKind.u64 a2), (Go.Ab.AV.int Go.IntKind.u64 a3)]), (Go.Ab.Tag.agg [Go.Ab.Tag.no, Go.Ab.Tag.no, Go.Ab.Tag.no, Go.Ab.Tag.no]))) ∧
   (((Go.Ab.collect [((Go.Ab.AV.int Go.IntKind.u64 b0), Go.Ab.Tag.no), ((Go.Ab.AV.int Go.IntKind.u64 b1), Go.Ab.Tag.no), ((Go.Ab.AV.int Go.IntKind.u64 b2), Go.Ab.Tag.no), ((Go.Ab.AV.int Go.IntKind.u64 b3), Go.Ab.Tag.no)]) = ((Go.Ab.AV.agg [(Go.Ab.AV.int Go.IntKind.u64 b0), (Go.Ab.AV.int Go.IntKind.u64 b1), (Go.Ab.AV.int Go.IntKind.u64 b2), (Go.Ab.AV.int Go.IntKind.u64 b3)]), (Go.Ab.Tag.agg [Go.Ab.Tag.no, Go.Ab.Tag.no, Go.Ab.Tag.no, Go.Ab.Tag.no]))) ∧
   (((Go.Ab.collect [((Go.Ab.AV.int Go.IntKind.u64 b0), Go.Ab.Tag.no), ((Go.Ab.AV.int Go.IntKind.u64 b1), Go.Ab.Tag.no), ((Go.Ab.AV.int Go.IntKind.u64 b2), Go.Ab.Tag.no), ((Go.Ab.AV.int Go.IntKind.u64 b3), Go.Ab.Tag.no)]) = ((Go.Ab.AV.agg [(Go.Ab.AV.int Go.IntKind.u64 b0), (Go.Ab.AV.int Go.IntKind.u64 b1), (Go.Ab.AV.int Go.IntKind.u64 b2), (Go.Ab.AV.int Go.IntKind.u64 b3)]), (Go.Ab.Tag.agg [Go.Ab.Tag.no, Go.Ab.Tag.no, Go.Ab.Tag.no, Go.Ab.Tag.no]))) ∧
   (((((0 : Int) ≤ x) ∧
   (x < (256 : Int))) ∧
   (((0 : Int) ≤ y) ∧
   (y < (256 : Int)))) ∧
   (∀ (x6 : Int), ((x6 = (Go.Proofs.Ytdiphholophdcaa.V.Sets.addW a0 a1 a2 a3 x y 0)) →
   (∀ (x7 : Int), ((x7 = (Go.Proofs.Ytdiphholophdcaa.V.Sets.addW a0 a1 a2 a3 x y 1)) →
   (∀ (x8 : Int), ((x8 = (Go.Proofs.Ytdiphholophdcaa.V.Sets.addW a0 a1 a2 a3 x y 2)) →
   (∀ (x9 : Int), ((x9 = (Go.Proofs.Ytdiphholophdcaa.V.Sets.addW a0 a1 a2 a3 x y 3)) →
   (((((0 : Int) ≤ a0) ∧
   (a0 < ((2 : Int) ^ 64))) ∧
   ((((0 : Int) ≤ a1) ∧
   (a1 < ((2 : Int) ^ 64))) ∧
   ((((0 : Int) ≤ a2) ∧
   (a2 < ((2 : Int) ^ 64))) ∧
   (((0 : Int) ≤ a3) ∧
   (a3 < ((2 : Int) ^ 64)))))) ∧
   (∀ (x10 : Int), ((x10 = (Go.Proofs.Ytdiphholophdcaa.V.Sets.notW a0)) →
   (∀ (x11 : Int), ((x11 = (Go.Proofs.Ytdiphholophdcaa.V.Sets.notW a1)) →
   (∀ (x12 : Int), ((x12 = (Go.Proofs.Ytdiphholophdcaa.V.Sets.notW a2)) →
   (∀ (x13 : Int), ((x13 = (Go.Proofs.Ytdiphholophdcaa.V.Sets.notW a3)) →
   (∀ (x14 : Int), ((x14 = (Go.Ab.orI Go.IntKind.u64 a0 b0)) →
   (∀ (x15 : Int), ((x15 = (Go.Ab.orI Go.IntKind.u64 a1 b1)) →
   (∀ (x16 : Int), ((x16 = (Go.Ab.orI Go.IntKind.u64 a2 b2)) →
   (∀ (x17 : Int), ((x17 = (Go.Ab.orI Go.IntKind.u64 a3 b3)) →
   (((Go.Ab.collect [((Go.Ab.AV.int Go.IntKind.u64 a0), Go.Ab.Tag.no), ((Go.Ab.AV.int Go.IntKind.u64 a1), Go.Ab.Tag.no), ((Go.Ab.AV.int Go.IntKind.u64 a2), Go.Ab.Tag.no), ((Go.Ab.AV.int Go.IntKind.u64 a3), Go.Ab.Tag.no)]) = ((Go.Ab.AV.agg [(Go.Ab.AV.int Go.IntKind.u64 a0), (Go.Ab.AV.int Go.IntKind.u64 a1), (Go.Ab.AV.int Go.IntKind.u64 a2), (Go.Ab.AV.int Go.IntKind.u64 a3)]), (Go.Ab.Tag.agg [Go.Ab.Tag.no, Go.Ab.Tag.no, Go.Ab.Tag.no, Go.Ab.Tag.no]))) ∧
   (((Go.Ab.collect [((Go.Ab.AV.int Go.IntKind.u64 a0), Go.Ab.Tag.no), ((Go.Ab.AV.int Go.IntKind.u64 a1), Go.Ab.Tag.no), ((Go.Ab.AV.int Go.IntKind.u64 a2), Go.Ab.Tag.no), ((Go.Ab.AV.int Go.IntKind.u64 a3), Go.Ab.Tag.no)]) = ((Go.Ab.AV.agg [(Go.Ab.AV.int Go.IntKind.u64 a0), (Go.Ab.AV.int Go.IntKind.u64 a1), (Go.Ab.AV.int Go.IntKind.u64 a2), (Go.Ab.AV.int Go.IntKind.u64 a3)]), (Go.Ab.Tag.agg [Go.Ab.Tag.no, Go.Ab.Tag.no, Go.Ab.Tag.no, Go.Ab.Tag.no]))) ∧
   (((Go.Ab.collect [((Go.Ab.AV.int Go.IntKind.u64 a0), Go.Ab.Tag.no), ((Go.Ab.AV.int Go.IntKind.u64 a1), Go.Ab.Tag.no), ((Go.Ab.AV.int Go.IntKind.u64 a2), Go.Ab.Tag.no), ((Go.Ab.AV.int Go.IntKind.u64 a3), Go.Ab.Tag.no)]) = ((Go.Ab.AV.agg [(Go.Ab.AV.int Go.IntKind.u64 a0), (Go.Ab.AV.int Go.IntKind.u64 a1), (Go.Ab.AV.int Go.IntKind.u64 a2), (Go.Ab.AV.int Go.IntKind.u64 a3)]), (Go.Ab.Tag.agg [Go.Ab.Tag.no, Go.Ab.Tag.no, Go.Ab.Tag.no, Go.Ab.Tag.no]))) ∧
   (((Go.Ab.collect [((Go.Ab.AV.int Go.IntKind.u64 a0), Go.Ab.Tag.no), ((Go.Ab.AV.int Go.IntKind.u64 a1), Go.Ab.Tag.no), ((Go.Ab.AV.int Go.IntKind.u64 a2), Go.Ab.Tag.no), ((Go.Ab.AV.int Go.IntKind.u64 a3), Go.Ab.Tag.no)]) = ((Go.Ab.AV.agg [(Go.Ab.AV.int Go.IntKind.u64 a0), (Go.Ab.AV.int Go.IntKind.u64 a1), (Go.Ab.AV.int Go.IntKind.u64 a2), (Go.Ab.AV.int Go.IntKind.u64 a3)]), (Go.Ab.Tag.agg [Go.Ab.Tag.no, Go.Ab.Tag.no, Go.Ab.Tag.no, Go.Ab.Tag.no]))) ∧
   (((Go.Ab.collect [((Go.Ab.AV.int Go.IntKind.u64 a0), Go.Ab.Tag.no), ((Go.Ab.AV.int Go.IntKind.u64 a1), Go.Ab.Tag.no), ((Go.Ab.AV.int Go.IntKind.u64 a2), Go.Ab.Tag.no), ((Go.Ab.AV.int Go.IntKind.u64 a3), Go.Ab.Tag.no)]) = ((Go.Ab.AV.agg [(Go.Ab.AV.int Go.IntKind.u64 a0), (Go.Ab.AV.int Go.IntKind.u64 a1), (Go.Ab.AV.int Go.IntKind.u64 a2), (Go.Ab.AV.int Go.IntKind.u64 a3)]), (Go.Ab.Tag.agg [Go.Ab.Tag.no, Go.Ab.Tag.no, Go.Ab.Tag.no, Go.Ab.Tag.no]))) ∧
   (((Go.Ab.collect [((Go.Ab.AV.int Go.IntKind.u64 a0), Go.Ab.Tag.no), ((Go.Ab.AV.int Go.IntKind.u64 a1), Go.Ab.Tag.no), ((Go.Ab.AV.int Go.IntKind.u64 a2), Go.Ab.Tag.no), ((Go.Ab.AV.int Go.IntKind.u64 a3), Go.Ab.Tag.no)]) = ((Go.Ab.AV.agg [(Go.Ab.AV.int Go.IntKind.u64 a0), (Go.Ab.AV.int Go.IntKind.u64 a1), (Go.Ab.AV.int Go.IntKind.u64 a2), (Go.Ab.AV.int Go.IntKind.u64 a3)]), (Go.Ab.Tag.agg [Go.Ab.Tag.no, Go.Ab.Tag.no, Go.Ab.Tag.no, Go.Ab.Tag.no]))) ∧
   (((Go.Ab.collect [((Go.Ab.AV.int Go.IntKind.u64 b0), Go.Ab.Tag.no), ((Go.Ab.AV.int Go.IntKind.u64 b1), Go.Ab.Tag.no), ((Go.Ab.AV.int Go.IntKind.u64 b2), Go.Ab.Tag.no), ((Go.Ab.AV.int Go.IntKind.u64 b3), Go.Ab.Tag.no)]) = ((Go.Ab.AV.agg [(Go.Ab.AV.int Go.IntKind.u64 b0), (Go.Ab.AV.int Go.IntKind.u64 b1), (Go.Ab.AV.int Go.IntKind.u64 b2), (Go.Ab.AV.int Go.IntKind.u64 b3)]), (Go.Ab.Tag.agg [Go.Ab.Tag.no, Go.Ab.Tag.no, Go.Ab.Tag.no, Go.Ab.Tag.no]))) ∧
   (((Go.Ab.collect [((Go.Ab.AV.int Go.IntKind.u64 b0), Go.Ab.Tag.no), ((Go.Ab.AV.int Go.IntKind.u64 b1), Go.Ab.Tag.no), ((Go.Ab.AV.int Go.IntKind.u64 b2), Go.Ab.Tag.no), ((Go.Ab.AV.int Go.IntKind.u64 b3), Go.Ab.Tag.no)]) = ((Go.Ab.AV.agg [(Go.Ab.AV.int Go.IntKind.u64 b0), (Go.Ab.AV.int Go.IntKind.u64 b1), (Go.Ab.AV.int Go.IntKind.u64 b2), (Go.Ab.AV.int Go.IntKind.u64 b3)]), (Go.Ab.Tag.agg [Go.Ab.Tag.no, Go.Ab.Tag.no, Go.Ab.Tag.no, Go.Ab.Tag.no]))) ∧
   (((Go.Ab.collect [((Go.Ab.AV.int Go.IntKind.u64 b0), Go.Ab.Tag.no), ((Go.Ab.AV.int Go.IntKind.u64 b1), Go.Ab.Tag.no), ((Go.Ab.AV.int Go.IntKind.u64 b2), Go.Ab.Tag.no), ((Go.Ab.AV.int Go.IntKind.u64 b3), Go.Ab.Tag.no)]) = ((Go.Ab.AV.agg [(Go.Ab.AV.int Go.IntKind.u64 b0), (Go.Ab.AV.int Go.IntKind.u64 b1), (Go.Ab.AV.int Go.IntKind.u64 b2), (Go.Ab.AV.int Go.IntKind.u64 b3)]), (Go.Ab.Tag.agg [Go.Ab.Tag.no, Go.Ab.Tag.no, Go.Ab.Tag.no, Go.Ab.Tag.no]))) ∧
   (∃ a018 : Int, (∃ a119 : Int, (∃ a220 : Int, (∃ a321 : Int, (∃ b022 : Int, (∃ b123 : Int, (∃ b224 : Int, (∃ b325 : Int, (∃ x26 : Int, (∃ y27 : Int, (∃ X28 : Go.Ab.Blk, (∃ Y29 : Go.Ab.Blk, (∃ m030 : Int, (∃ m131 : Int, (∃ m232 : Int, (∃ m333 : Int, (∃ n034 : Int, (∃ n135 : Int, (∃ n236 : Int, (∃ n337 : Int, (∃ u038 : Int, (∃ u139 : Int, (∃ u240 : Int, (∃ u341 : Int, (((Go.Ab.Fr.mk [U, U, U, ((Go.Ab.AV.ptr 0 0), Go.Ab.Tag.no), U, U, U, ((Go.Ab.AV.int Go.IntKind.u8 x), Go.Ab.Tag.no), ((Go.Ab.AV.int Go.IntKind.u8 y), Go.Ab.Tag.no), ((Go.Ab.AV.ptr 3 0), Go.Ab.Tag.no), ((Go.Ab.AV.ptr 4 0), Go.Ab.Tag.no), ((Go.Ab.AV.int Go.IntKind.i64 (0 : Int)), Go.Ab.Tag.no), ((Go.Ab.AV.ptr (5 + 0) 0), Go.Ab.Tag.no), ((Go.Ab.AV.ptr (5 + (0 + 1)) 0), Go.Ab.Tag.no), ((Go.Ab.AV.ptr (5 + ((0 + 1) + 1)) 0), Go.Ab.Tag.no), ((Go.Ab.AV.int Go.IntKind.i64 (0 : Int)), Go.Ab.Tag.no), U, U, U, U, U, U, U, U, U, U, U, U, U, U, U, U, U, U, U, U, U, U, U, U, U, U, U, U, U, U, U, U, U, U, U, U, U, U, U, U, U, U, U, U, U, U, U, U, U, U, U, U, U, U, U, U, U, U, U, U, U, U, U, U, U, U, U, U, U, U, U, U, U, U, U, U, U, U, U, U, U, U, U, U, U, U, U, U, U, U, U, U, U, U, U, U, U, U] []) = (Go.Ab.Fr.mk [U, U, U, ((Go.Ab.AV.ptr 0 0), Go.Ab.Tag.no), U, U, U, ((Go.Ab.AV.int Go.IntKind.u8 x26), Go.Ab.Tag.no), ((Go.Ab.AV.int Go.IntKind.u8 y27), Go.Ab.Tag.no), ((Go.Ab.AV.ptr 3 0), Go.Ab.Tag.no), ((Go.Ab.AV.ptr 4 0), Go.Ab.Tag.no), ((Go.Ab.AV.int Go.IntKind.i64 (0 : Int)), Go.Ab.Tag.no), ((Go.Ab.AV.ptr 5 0), Go.Ab.Tag.no), ((Go.Ab.AV.ptr 6 0), Go.Ab.Tag.no), ((Go.Ab.AV.ptr 7 0), Go.Ab.Tag.no), ((Go.Ab.AV.int Go.IntKind.i64 (0 : Int)), Go.Ab.Tag.no), U, U, U, U, U, U, U, U, U, U, U, U, U, U, U, U, U, U, U, U, U, U, U, U, U, U, U, U, U, U, U, U, U, U, U, U, U, U, U, U, U, U, U, U, U, U, U, U, U, U, U, U, U, U, U, U, U, U, U, U, U, U, U, U, U, U, U, U, U, U, U, U, U, U, U, U, U, U, U, U, U, U, U, U, U, U, U, U, U, U, U, U, U, U, U, U, U, U] [])) ∧
   (((Go.Ab.St.mk [[((Go.Ab.AV.int Go.IntKind.u64 a0), Go.Ab.Tag.no), ((Go.Ab.AV.int Go.IntKind.u64 a1), Go.Ab.Tag.no), ((Go.Ab.AV.int Go.IntKind.u64 a2), Go.Ab.Tag.no), ((Go.Ab.AV.int Go.IntKind.u64 a3), Go.Ab.Tag.no)], [((Go.Ab.AV.int Go.IntKind.u64 b0), Go.Ab.Tag.no), ((Go.Ab.AV.int Go.IntKind.u64 b1), Go.Ab.Tag.no), ((Go.Ab.AV.int Go.IntKind.u64 b2), Go.Ab.Tag.no), ((Go.Ab.AV.int Go.IntKind.u64 b3), Go.Ab.Tag.no)], [((Go.Ab.AV.int Go.IntKind.u8 x), Go.Ab.Tag.no), ((Go.Ab.AV.int Go.IntKind.u8 y), Go.Ab.Tag.no)], cs3, cs5, [((Go.Ab.AV.int Go.IntKind.u64 x6), Go.Ab.Tag.no), ((Go.Ab.AV.int Go.IntKind.u64 x7), Go.Ab.Tag.no), ((Go.Ab.AV.int Go.IntKind.u64 x8), Go.Ab.Tag.no), ((Go.Ab.AV.int Go.IntKind.u64 x9), Go.Ab.Tag.no)], [((Go.Ab.AV.int Go.IntKind.u64 x10), Go.Ab.Tag.no), ((Go.Ab.AV.int Go.IntKind.u64 x11), Go.Ab.Tag.no), ((Go.Ab.AV.int Go.IntKind.u64 x12), Go.Ab.Tag.no), ((Go.Ab.AV.int Go.IntKind.u64 x13), Go.Ab.Tag.no)], [((Go.Ab.AV.int Go.IntKind.u64 x14), Go.Ab.Tag.no), ((Go.Ab.AV.int Go.IntKind.u64 x15), Go.Ab.Tag.no), ((Go.Ab.AV.int Go.IntKind.u64 x16), Go.Ab.Tag.no), ((Go.Ab.AV.int Go.IntKind.u64 x17), Go.Ab.Tag.no)]] []) = (Go.Ab.St.mk [[((Go.Ab.AV.int Go.IntKind.u64 a018), Go.Ab.Tag.no), ((Go.Ab.AV.int Go.IntKind.u64 a119), Go.Ab.Tag.no), ((Go.Ab.AV.int Go.IntKind.u64 a220), Go.Ab.Tag.no), ((Go.Ab.AV.int Go.IntKind.u64 a321), Go.Ab.Tag.no)], [((Go.Ab.AV.int Go.IntKind.u64 b022), Go.Ab.Tag.no), ((Go.Ab.AV.int Go.IntKind.u64 b123), Go.Ab.Tag.no), ((Go.Ab.AV.int Go.IntKind.u64 b224), Go.Ab.Tag.no), ((Go.Ab.AV.int Go.IntKind.u64 b325), Go.Ab.Tag.no)], [((Go.Ab.AV.int Go.IntKind.u8 x26), Go.Ab.Tag.no), ((Go.Ab.AV.int Go.IntKind.u8 y27), Go.Ab.Tag.no)], X28, Y29, [((Go.Ab.AV.int Go.IntKind.u64 m030), Go.Ab.Tag.no), ((Go.Ab.AV.int Go.IntKind.u64 m131), Go.Ab.Tag.no), ((Go.Ab.AV.int Go.IntKind.u64 m232), Go.Ab.Tag.no), ((Go.Ab.AV.int Go.IntKind.u64 m333), Go.Ab.Tag.no)], [((Go.Ab.AV.int Go.IntKind.u64 n034), Go.Ab.Tag.no), ((Go.Ab.AV.int Go.IntKind.u64 n135), Go.Ab.Tag.no), ((Go.Ab.AV.int Go.IntKind.u64 n236), Go.Ab.Tag.no), ((Go.Ab.AV.int Go.IntKind.u64 n337), Go.Ab.Tag.no)], [((Go.Ab.AV.int Go.IntKind.u64 u038), Go.Ab.Tag.no), ((Go.Ab.AV.int Go.IntKind.u64 u139), Go.Ab.Tag.no), ((Go.Ab.AV.int Go.IntKind.u64 u240), Go.Ab.Tag.no), ((Go.Ab.AV.int Go.IntKind.u64 u341), Go.Ab.Tag.no)]] [])) ∧
   ((X28 = (Go.Proofs.Ytdiphholophdcaa.V.Sets.boolsTo 256 a018 a119 a220 a321)) ∧
   ((Y29 = (Go.Proofs.Ytdiphholophdcaa.V.Sets.boolsTo 256 b022 b123 b224 b325)) ∧
   ((∀ (c42 : Nat), ((c42 < 256) →
   ((Go.Proofs.Ytdiphholophdcaa.V.hasZ m030 m131 m232 m333 ((c42 : Nat) : Int)) = (Bool.or (Go.Proofs.Ytdiphholophdcaa.V.hasZ a018 a119 a220 a321 ((c42 : Nat) : Int)) (Bool.and (decide (x26 ≤ ((c42 : Nat) : Int))) (decide (((c42 : Nat) : Int) ≤ y27))))))) ∧
   ((∀ (c43 : Nat), ((c43 < 256) →
   ((Go.Proofs.Ytdiphholophdcaa.V.hasZ n034 n135 n236 n337 ((c43 : Nat) : Int)) = (Bool.not (Go.Proofs.Ytdiphholophdcaa.V.hasZ a018 a119 a220 a321 ((c43 : Nat) : Int)))))) ∧
   ((∀ (c44 : Nat), ((c44 < 256) →
   ((Go.Proofs.Ytdiphholophdcaa.V.hasZ u038 u139 u240 u341 ((c44 : Nat) : Int)) = (Bool.or (Go.Proofs.Ytdiphholophdcaa.V.hasZ a018 a119 a220 a321 ((c44 : Nat) : Int)) (Go.Proofs.Ytdiphholophdcaa.V.hasZ b022 b123 b224 b325 ((c44 : Nat) : Int)))))) ∧
   (((((0 : Int) ≤ a018) ∧
   (a018 < ((2 : Int) ^ 64))) ∧
   ((((0 : Int) ≤ a119) ∧
   (a119 < ((2 : Int) ^ 64))) ∧
   ((((0 : Int) ≤ a220) ∧
   (a220 < ((2 : Int) ^ 64))) ∧
   (((0 : Int) ≤ a321) ∧
   (a321 < ((2 : Int) ^ 64)))))) ∧
   (∀ (i45 : Int), (∀ (n46 : Int), ((n46 = ((((Go.Proofs.Ytdiphholophdcaa.V.Sets.cnt a018) + (Go.Proofs.Ytdiphholophdcaa.V.Sets.cnt a119)) + (Go.Proofs.Ytdiphholophdcaa.V.Sets.cnt a220)) + (Go.Proofs.Ytdiphholophdcaa.V.Sets.cnt a321))) →
   (((((0 : Int) ≤ a018) ∧
   (a018 < ((2 : Int) ^ 64))) ∧
   ((((0 : Int) ≤ a119) ∧
   (a119 < ((2 : Int) ^ 64))) ∧
   ((((0 : Int) ≤ a220) ∧
   (a220 < ((2 : Int) ^ 64))) ∧
   (((0 : Int) ≤ a321) ∧
   (a321 < ((2 : Int) ^ 64)))))) ∧
   (∀ (x47 : Int), ((x47 = ((((Go.Proofs.Ytdiphholophdcaa.V.Sets.cnt a018) + (Go.Proofs.Ytdiphholophdcaa.V.Sets.cnt a119)) + (Go.Proofs.Ytdiphholophdcaa.V.Sets.cnt a220)) + (Go.Proofs.Ytdiphholophdcaa.V.Sets.cnt a321))) →
   (∀ (r48 : Bool), ((r48 = (x47 == n46)) →
   ((Go.Ab.implB r48 Bool.true ((((((0 : Int) ≤ n034) ∧
   (n034 < ((2 : Int) ^ 64))) ∧
   ((((0 : Int) ≤ n135) ∧
   (n135 < ((2 : Int) ^ 64))) ∧
   ((((0 : Int) ≤ n236) ∧
   (n236 < ((2 : Int) ^ 64))) ∧
   (((0 : Int) ≤ n337) ∧
   (n337 < ((2 : Int) ^ 64)))))) ∧
   (∀ (x49 : Int), ((x49 = ((((Go.Proofs.Ytdiphholophdcaa.V.Sets.cnt n034) + (Go.Proofs.Ytdiphholophdcaa.V.Sets.cnt n135)) + (Go.Proofs.Ytdiphholophdcaa.V.Sets.cnt n236)) + (Go.Proofs.Ytdiphholophdcaa.V.Sets.cnt n337))) →
   (((∀ (r50 : Int), ((r50 = (Go.IntKind.wrap Go.IntKind.i64 ((256 : Int) - n46))) →
   ((∀ (r51 : Bool), ((r51 = (x49 == r50)) →
   ((Go.Ab.implB r51 Bool.true ((((((0 : Int) ≤ n034) ∧
   (n034 < ((2 : Int) ^ 64))) ∧
   ((((0 : Int) ≤ n135) ∧
   (n135 < ((2 : Int) ^ 64))) ∧
   ((((0 : Int) ≤ n236) ∧
   (n236 < ((2 : Int) ^ 64))) ∧
   (((0 : Int) ≤ n337) ∧
   (n337 < ((2 : Int) ^ 64)))))) ∧
   (∀ (x52 : Int), ((x52 = (Go.Proofs.Ytdiphholophdcaa.V.Sets.notW n034)) →
   (∀ (x53 : Int), ((x53 = (Go.Proofs.Ytdiphholophdcaa.V.Sets.notW n135)) →
   (∀ (x54 : Int), ((x54 = (Go.Proofs.Ytdiphholophdcaa.V.Sets.notW n236)) →
   (∀ (x55 : Int), ((x55 = (Go.Proofs.Ytdiphholophdcaa.V.Sets.notW n337)) →
   (((∀ (r56 : Bool), ((r56 = (Bool.and (x52 == a018) (Bool.and (x53 == a119) (Bool.and (x54 == a220) (Bool.and (x55 == a321) Bool.true))))) →
   ((Go.Ab.implB r56 Bool.true (((Go.Ab.collect [((Go.Ab.AV.int Go.IntKind.u64 a018), Go.Ab.Tag.no), ((Go.Ab.AV.int Go.IntKind.u64 a119), Go.Ab.Tag.no), ((Go.Ab.AV.int Go.IntKind.u64 a220), Go.Ab.Tag.no), ((Go.Ab.AV.int Go.IntKind.u64 a321), Go.Ab.Tag.no)]) = ((Go.Ab.AV.agg [(Go.Ab.AV.int Go.IntKind.u64 a018), (Go.Ab.AV.int Go.IntKind.u64 a119), (Go.Ab.AV.int Go.IntKind.u64 a220), (Go.Ab.AV.int Go.IntKind.u64 a321)]), (Go.Ab.Tag.agg [Go.Ab.Tag.no, Go.Ab.Tag.no, Go.Ab.Tag.no, Go.Ab.Tag.no]))) ∧
   (((Go.Ab.collect [((Go.Ab.AV.int Go.IntKind.u64 n034), Go.Ab.Tag.no), ((Go.Ab.AV.int Go.IntKind.u64 n135), Go.Ab.Tag.no), ((Go.Ab.AV.int Go.IntKind.u64 n236), Go.Ab.Tag.no), ((Go.Ab.AV.int Go.IntKind.u64 n337), Go.Ab.Tag.no)]) = ((Go.Ab.AV.agg [(Go.Ab.AV.int Go.IntKind.u64 n034), (Go.Ab.AV.int Go.IntKind.u64 n135), (Go.Ab.AV.int Go.IntKind.u64 n236), (Go.Ab.AV.int Go.IntKind.u64 n337)]), (Go.Ab.Tag.agg [Go.Ab.Tag.no, Go.Ab.Tag.no, Go.Ab.Tag.no, Go.Ab.Tag.no]))) ∧
   (((Go.Ab.collect [((Go.Ab.AV.int Go.IntKind.u64 n034), Go.Ab.Tag.no), ((Go.Ab.AV.int Go.IntKind.u64 n135), Go.Ab.Tag.no), ((Go.Ab.AV.int Go.IntKind.u64 n236), Go.Ab.Tag.no), ((Go.Ab.AV.int Go.IntKind.u64 n337), Go.Ab.Tag.no)]) = ((Go.Ab.AV.agg [(Go.Ab.AV.int Go.IntKind.u64 n034), (Go.Ab.AV.int Go.IntKind.u64 n135), (Go.Ab.AV.int Go.IntKind.u64 n236), (Go.Ab.AV.int Go.IntKind.u64 n337)]), (Go.Ab.Tag.agg [Go.Ab.Tag.no, Go.Ab.Tag.no, Go.Ab.Tag.no, Go.Ab.Tag.no]))) ∧
   (((Go.Ab.collect [((Go.Ab.AV.int Go.IntKind.u64 a018), Go.Ab.Tag.no), ((Go.Ab.AV.int Go.IntKind.u64 a119), Go.Ab.Tag.no), ((Go.Ab.AV.int Go.IntKind.u64 a220), Go.Ab.Tag.no), ((Go.Ab.AV.int Go.IntKind.u64 a321), Go.Ab.Tag.no)]) = ((Go.Ab.AV.agg [(Go.Ab.AV.int Go.IntKind.u64 a018), (Go.Ab.AV.int Go.IntKind.u64 a119), (Go.Ab.AV.int Go.IntKind.u64 a220), (Go.Ab.AV.int Go.IntKind.u64 a321)]), (Go.Ab.Tag.agg [Go.Ab.Tag.no, Go.Ab.Tag.no, Go.Ab.Tag.no, Go.Ab.Tag.no]))) ∧
   (((Go.Ab.collect [((Go.Ab.AV.int Go.IntKind.u64 a018), Go.Ab.Tag.no), ((Go.Ab.AV.int Go.IntKind.u64 a119), Go.Ab.Tag.no), ((Go.Ab.AV.int Go.IntKind.u64 a220), Go.Ab.Tag.no), ((Go.Ab.AV.int Go.IntKind.u64 a321), Go.Ab.Tag.no)]) = ((Go.Ab.AV.agg [(Go.Ab.AV.int Go.IntKind.u64 a018), (Go.Ab.AV.int Go.IntKind.u64 a119), (Go.Ab.AV.int Go.IntKind.u64 a220), (Go.Ab.AV.int Go.IntKind.u64 a321)]), (Go.Ab.Tag.agg [Go.Ab.Tag.no, Go.Ab.Tag.no, Go.Ab.Tag.no, Go.Ab.Tag.no]))) ∧
   (K ((Go.Ab.AV.bool Bool.true), Go.Ab.Tag.no) (Go.Ab.St.mk [] [])))))))) ∧
   (Go.Ab.implB r56 Bool.false (((Go.Ab.collect [((Go.Ab.AV.int Go.IntKind.u64 a018), Go.Ab.Tag.no), ((Go.Ab.AV.int Go.IntKind.u64 a119), Go.Ab.Tag.no), ((Go.Ab.AV.int Go.IntKind.u64 a220), Go.Ab.Tag.no), ((Go.Ab.AV.int Go.IntKind.u64 a321), Go.Ab.Tag.no)]) = ((Go.Ab.AV.agg [(Go.Ab.AV.int Go.IntKind.u64 a018), (Go.Ab.AV.int Go.IntKind.u64 a119), (Go.Ab.AV.int Go.IntKind.u64 a220), (Go.Ab.AV.int Go.IntKind.u64 a321)]), (Go.Ab.Tag.agg [Go.Ab.Tag.no, Go.Ab.Tag.no, Go.Ab.Tag.no, Go.Ab.Tag.no]))) ∧
   (((Go.Ab.collect [((Go.Ab.AV.int Go.IntKind.u64 n034), Go.Ab.Tag.no), ((Go.Ab.AV.int Go.IntKind.u64 n135), Go.Ab.Tag.no), ((Go.Ab.AV.int Go.IntKind.u64 n236), Go.Ab.Tag.no), ((Go.Ab.AV.int Go.IntKind.u64 n337), Go.Ab.Tag.no)]) = ((Go.Ab.AV.agg [(Go.Ab.AV.int Go.IntKind.u64 n034), (Go.Ab.AV.int Go.IntKind.u64 n135), (Go.Ab.AV.int Go.IntKind.u64 n236), (Go.Ab.AV.int Go.IntKind.u64 n337)]), (Go.Ab.Tag.agg [Go.Ab.Tag.no, Go.Ab.Tag.no, Go.Ab.Tag.no, Go.Ab.Tag.no]))) ∧
   (((Go.Ab.collect [((Go.Ab.AV.int Go.IntKind.u64 n034), Go.Ab.Tag.no), ((Go.Ab.AV.int Go.IntKind.u64 n135), Go.Ab.Tag.no), ((Go.Ab.AV.int Go.IntKind.u64 n236), Go.Ab.Tag.no), ((Go.Ab.AV.int Go.IntKind.u64 n337), Go.Ab.Tag.no)]) = ((Go.Ab.AV.agg [(Go.Ab.AV.int Go.IntKind.u64 n034), (Go.Ab.AV.int Go.IntKind.u64 n135), (Go.Ab.AV.int Go.IntKind.u64 n236), (Go.Ab.AV.int Go.IntKind.u64 n337)]), (Go.Ab.Tag.agg [Go.Ab.Tag.no, Go.Ab.Tag.no, Go.Ab.Tag.no, Go.Ab.Tag.no]))) ∧
   (((Go.Ab.collect [((Go.Ab.AV.int Go.IntKind.u64 a018), Go.Ab.Tag.no), ((Go.Ab.AV.int Go.IntKind.u64 a119), Go.Ab.Tag.no), ((Go.Ab.AV.int Go.IntKind.u64 a220), Go.Ab.Tag.no), ((Go.Ab.AV.int Go.IntKind.u64 a321), Go.Ab.Tag.no)]) = ((Go.Ab.AV.agg [(Go.Ab.AV.int Go.IntKind.u64 a018), (Go.Ab.AV.int Go.IntKind.u64 a119), (Go.Ab.AV.int Go.IntKind.u64 a220), (Go.Ab.AV.int Go.IntKind.u64 a321)]), (Go.Ab.Tag.agg [Go.Ab.Tag.no, Go.Ab.Tag.no, Go.Ab.Tag.no, Go.Ab.Tag.no]))) ∧
   (((Go.Ab.collect [((Go.Ab.AV.int Go.IntKind.u64 a018), Go.Ab.Tag.no), ((Go.Ab.AV.int Go.IntKind.u64 a119), Go.Ab.Tag.no), ((Go.Ab.AV.int Go.IntKind.u64 a220), Go.Ab.Tag.no), ((Go.Ab.AV.int Go.IntKind.u64 a321), Go.Ab.Tag.no)]) = ((Go.Ab.AV.agg [(Go.Ab.AV.int Go.IntKind.u64 a018), (Go.Ab.AV.int Go.IntKind.u64 a119), (Go.Ab.AV.int Go.IntKind.u64 a220), (Go.Ab.AV.int Go.IntKind.u64 a321)]), (Go.Ab.Tag.agg [Go.Ab.Tag.no, Go.Ab.Tag.no, Go.Ab.Tag.no, Go.Ab.Tag.no]))) ∧
   (K ((Go.Ab.AV.bool Bool.false), Go.Ab.Tag.no) (Go.Ab.St.mk [] []))))))))))) ∧
   True) ∧
   True)))))))))) ∧
   True)) ∧
   (Go.Ab.implB r51 Bool.false (True ∧
   (True ∧
   (True ∧
   (True ∧
   (((Go.Ab.collect [((Go.Ab.AV.int Go.IntKind.u64 a018), Go.Ab.Tag.no), ((Go.Ab.AV.int Go.IntKind.u64 a119), Go.Ab.Tag.no), ((Go.Ab.AV.int Go.IntKind.u64 a220), Go.Ab.Tag.no), ((Go.Ab.AV.int Go.IntKind.u64 a321), Go.Ab.Tag.no)]) = ((Go.Ab.AV.agg [(Go.Ab.AV.int Go.IntKind.u64 a018), (Go.Ab.AV.int Go.IntKind.u64 a119), (Go.Ab.AV.int Go.IntKind.u64 a220), (Go.Ab.AV.int Go.IntKind.u64 a321)]), (Go.Ab.Tag.agg [Go.Ab.Tag.no, Go.Ab.Tag.no, Go.Ab.Tag.no, Go.Ab.Tag.no]))) ∧
   (((Go.Ab.collect [((Go.Ab.AV.int Go.IntKind.u64 n034), Go.Ab.Tag.no), ((Go.Ab.AV.int Go.IntKind.u64 n135), Go.Ab.Tag.no), ((Go.Ab.AV.int Go.IntKind.u64 n236), Go.Ab.Tag.no), ((Go.Ab.AV.int Go.IntKind.u64 n337), Go.Ab.Tag.no)]) = ((Go.Ab.AV.agg [(Go.Ab.AV.int Go.IntKind.u64 n034), (Go.Ab.AV.int Go.IntKind.u64 n135), (Go.Ab.AV.int Go.IntKind.u64 n236), (Go.Ab.AV.int Go.IntKind.u64 n337)]), (Go.Ab.Tag.agg [Go.Ab.Tag.no, Go.Ab.Tag.no, Go.Ab.Tag.no, Go.Ab.Tag.no]))) ∧
   (K ((Go.Ab.AV.bool Bool.false), Go.Ab.Tag.no) (Go.Ab.St.mk [] [])))))))))))) ∧
   True))) ∧
   True) ∧
   True)))) ∧
   True)) ∧
   (Go.Ab.implB r48 Bool.false (True ∧
   (True ∧
   (True ∧
   (True ∧
   (True ∧
   (True ∧
   (True ∧
   (True ∧
   (True ∧
   (((Go.Ab.collect [((Go.Ab.AV.int Go.IntKind.u64 a018), Go.Ab.Tag.no), ((Go.Ab.AV.int Go.IntKind.u64 a119), Go.Ab.Tag.no), ((Go.Ab.AV.int Go.IntKind.u64 a220), Go.Ab.Tag.no), ((Go.Ab.AV.int Go.IntKind.u64 a321), Go.Ab.Tag.no)]) = ((Go.Ab.AV.agg [(Go.Ab.AV.int Go.IntKind.u64 a018), (Go.Ab.AV.int Go.IntKind.u64 a119), (Go.Ab.AV.int Go.IntKind.u64 a220), (Go.Ab.AV.int Go.IntKind.u64 a321)]), (Go.Ab.Tag.agg [Go.Ab.Tag.no, Go.Ab.Tag.no, Go.Ab.Tag.no, Go.Ab.Tag.no]))) ∧
   (K ((Go.Ab.AV.bool Bool.false), Go.Ab.Tag.no) (Go.Ab.St.mk [] []))))))))))))))))))))))))))))))))))))))))))))))))))))))))))))))))))))))))))))))))))))))))))))))))))))))))))))))
set_option maxRecDepth 20000 in
theorem vc4 (a0 a1 a2 a3 b0 b1 b2 b3 x y : Int) (K : SV → St → Prop) (Kp : AV → St → Prop) (h : F4 a0 a1 a2 a3 b0 b1 b2 b3 x y K Kp) : Env0.codeW (ev 4 0 0) (gen 4) [] (bodyOf Try.f4) (frame0 Try.f4 [(A4 a0 a1 a2 a3, .no), (A4 b0 b1 b2 b3, .no), (.agg [.int .u8 x, .int .u8 y], .no)]) ⟨[], []⟩ (endW cx .plain Try.f4 0 0 K Kp) :=
  (by kernel_rfl : F4 a0 a1 a2 a3 b0 b1 b2 b3 x y K Kp = Env0.codeW (ev 4 0 0) (gen 4) [] (bodyOf Try.f4) (frame0 Try.f4 [(A4 a0 a1 a2 a3, .no), (A4 b0 b1 b2 b3, .no), (.agg [.int .u8 x, .int .u8 y], .no)]) ⟨[], []⟩ (endW cx .plain Try.f4 0 0 K Kp)).mp h

set_option maxRecDepth 20000 in
abbrev F4b (a0 a1 a2 a3 b0 b1 b2 b3 x y : Int) (X Y : Blk) (m0 m1 m2 m3 n0 n1 n2 n3 u0 u1 u2 u3 n i : Int) (Q : Post1) : Prop :=
  (∀ (r0 : Bool), ((r0 = (decide (i < (256 : Int)))) →
   ((Go.Ab.implB r0 Bool.true (∀ (r1 : Int), ((r1 = (Go.IntKind.wrap Go.IntKind.u8 i)) →
   ((((0 : Int) ≤ r1) ∧
   (r1 < (256 : Int))) ∧
   (∀ (x2 : Bool), ((x2 = (Go.Proofs.Ytdiphholophdcaa.V.hasZ a0 a1 a2 a3 r1)) →
   ((Go.Ab.inR i 256) ∧
   (∃ r3 : Bool, (((X[(0 + ((Int.toNat i) * 1))]?) = (Option.some ((Go.Ab.AV.bool r3), Go.Ab.Tag.no))) ∧
   (∀ (r4 : Bool), ((r4 = (Bool.not (x2 == r3))) →
   ((Go.Ab.implB r4 Bool.false ((((((0 : Int) ≤ r1) ∧
   (r1 < (256 : Int))) ∧
   (∀ (x5 : Bool), ((x5 = (Go.Proofs.Ytdiphholophdcaa.V.hasZ m0 m1 m2 m3 r1)) →
   ((((Go.Ab.inR i 256) ∧
   ((∃ r6 : Bool, (((X[(0 + ((Int.toNat i) * 1))]?) = (Option.some ((Go.Ab.AV.bool r6), Go.Ab.Tag.no))) ∧
   (((Go.Ab.implB r6 Bool.false (((∀ (r7 : Bool), ((r7 = (decide (r1 ≥ x))) →
   (((Go.Ab.implB r7 Bool.true (((∀ (r8 : Bool), ((r8 = (decide (r1 ≤ y))) →
   ((((∀ (r9 : Bool), ((r9 = (Bool.not (x5 == r8))) →
   ((Go.Ab.implB r9 Bool.false ((((((0 : Int) ≤ r1) ∧
   (r1 < (256 : Int))) ∧
   (∀ (x10 : Bool), ((x10 = (Go.Proofs.Ytdiphholophdcaa.V.hasZ n0 n1 n2 n3 r1)) →
   ((((Go.Ab.inR i 256) ∧
   ((∃ r11 : Bool, (((X[(0 + ((Int.toNat i) * 1))]?) = (Option.some ((Go.Ab.AV.bool r11), Go.Ab.Tag.no))) ∧
   ((∀ (r12 : Bool), ((r12 = (x10 == r11)) →
   ((Go.Ab.implB r12 Bool.false ((((((0 : Int) ≤ r1) ∧
   (r1 < (256 : Int))) ∧
   (∀ (x13 : Bool), ((x13 = (Go.Proofs.Ytdiphholophdcaa.V.hasZ u0 u1 u2 u3 r1)) →
   ((((Go.Ab.inR i 256) ∧
   ((∃ r14 : Bool, (((X[(0 + ((Int.toNat i) * 1))]?) = (Option.some ((Go.Ab.AV.bool r14), Go.Ab.Tag.no))) ∧
   (((Go.Ab.implB r14 Bool.false (((Go.Ab.inR i 256) ∧
   ((∃ r15 : Bool, (((Y[(0 + ((Int.toNat i) * 1))]?) = (Option.some ((Go.Ab.AV.bool r15), Go.Ab.Tag.no))) ∧
   (((∀ (r16 : Bool), ((r16 = (Bool.not (x13 == r15))) →
   (((Go.Ab.collect [((Go.Ab.AV.int Go.IntKind.u64 a0), Go.Ab.Tag.no), ((Go.Ab.AV.int Go.IntKind.u64 a1), Go.Ab.Tag.no), ((Go.Ab.AV.int Go.IntKind.u64 a2), Go.Ab.Tag.no), ((Go.Ab.AV.int Go.IntKind.u64 a3), Go.Ab.Tag.no)]) = ((Go.Ab.AV.agg [(Go.Ab.AV.int Go.IntKind.u64 a0), (Go.Ab.AV.int Go.IntKind.u64 a1), (Go.Ab.AV.int Go.IntKind.u64 a2), (Go.Ab.AV.int Go.IntKind.u64 a3)]), (Go.Ab.Tag.agg [Go.Ab.Tag.no, Go.Ab.Tag.no, Go.Ab.Tag.no, Go.Ab.Tag.no]))) ∧
   ((∃ r17 : Bool, (((X[(0 + ((Int.toNat i) * 1))]?) = (Option.some ((Go.Ab.AV.bool r17), Go.Ab.Tag.no))) ∧
   (((Go.Ab.AV.bool r17), Go.Ab.Tag.no) = ((Go.Ab.AV.bool r3), Go.Ab.Tag.no)))) ∧
   ((∃ r18 : Bool, (((X[(0 + ((Int.toNat i) * 1))]?) = (Option.some ((Go.Ab.AV.bool r18), Go.Ab.Tag.no))) ∧
   (((Go.Ab.AV.bool r18), Go.Ab.Tag.no) = ((Go.Ab.AV.bool r3), Go.Ab.Tag.no)))) ∧
   (((Go.Ab.collect [((Go.Ab.AV.int Go.IntKind.u64 m0), Go.Ab.Tag.no), ((Go.Ab.AV.int Go.IntKind.u64 m1), Go.Ab.Tag.no), ((Go.Ab.AV.int Go.IntKind.u64 m2), Go.Ab.Tag.no), ((Go.Ab.AV.int Go.IntKind.u64 m3), Go.Ab.Tag.no)]) = ((Go.Ab.AV.agg [(Go.Ab.AV.int Go.IntKind.u64 m0), (Go.Ab.AV.int Go.IntKind.u64 m1), (Go.Ab.AV.int Go.IntKind.u64 m2), (Go.Ab.AV.int Go.IntKind.u64 m3)]), (Go.Ab.Tag.agg [Go.Ab.Tag.no, Go.Ab.Tag.no, Go.Ab.Tag.no, Go.Ab.Tag.no]))) ∧
   ((∃ r19 : Bool, (((X[(0 + ((Int.toNat i) * 1))]?) = (Option.some ((Go.Ab.AV.bool r19), Go.Ab.Tag.no))) ∧
   (((Go.Ab.AV.bool r19), Go.Ab.Tag.no) = ((Go.Ab.AV.bool r6), Go.Ab.Tag.no)))) ∧
   ((∃ r20 : Bool, (((X[(0 + ((Int.toNat i) * 1))]?) = (Option.some ((Go.Ab.AV.bool r20), Go.Ab.Tag.no))) ∧
   (((Go.Ab.AV.bool r20), Go.Ab.Tag.no) = ((Go.Ab.AV.bool r6), Go.Ab.Tag.no)))) ∧
   (((Go.Ab.collect [((Go.Ab.AV.int Go.IntKind.u64 n0), Go.Ab.Tag.no), ((Go.Ab.AV.int Go.IntKind.u64 n1), Go.Ab.Tag.no), ((Go.Ab.AV.int Go.IntKind.u64 n2), Go.Ab.Tag.no), ((Go.Ab.AV.int Go.IntKind.u64 n3), Go.Ab.Tag.no)]) = ((Go.Ab.AV.agg [(Go.Ab.AV.int Go.IntKind.u64 n0), (Go.Ab.AV.int Go.IntKind.u64 n1), (Go.Ab.AV.int Go.IntKind.u64 n2), (Go.Ab.AV.int Go.IntKind.u64 n3)]), (Go.Ab.Tag.agg [Go.Ab.Tag.no, Go.Ab.Tag.no, Go.Ab.Tag.no, Go.Ab.Tag.no]))) ∧
   ((∃ r21 : Bool, (((X[(0 + ((Int.toNat i) * 1))]?) = (Option.some ((Go.Ab.AV.bool r21), Go.Ab.Tag.no))) ∧
   (((Go.Ab.AV.bool r21), Go.Ab.Tag.no) = ((Go.Ab.AV.bool r11), Go.Ab.Tag.no)))) ∧
   ((∃ r22 : Bool, (((X[(0 + ((Int.toNat i) * 1))]?) = (Option.some ((Go.Ab.AV.bool r22), Go.Ab.Tag.no))) ∧
   (((Go.Ab.AV.bool r22), Go.Ab.Tag.no) = ((Go.Ab.AV.bool r11), Go.Ab.Tag.no)))) ∧
   (((Go.Ab.collect [((Go.Ab.AV.int Go.IntKind.u64 u0), Go.Ab.Tag.no), ((Go.Ab.AV.int Go.IntKind.u64 u1), Go.Ab.Tag.no), ((Go.Ab.AV.int Go.IntKind.u64 u2), Go.Ab.Tag.no), ((Go.Ab.AV.int Go.IntKind.u64 u3), Go.Ab.Tag.no)]) = ((Go.Ab.AV.agg [(Go.Ab.AV.int Go.IntKind.u64 u0), (Go.Ab.AV.int Go.IntKind.u64 u1), (Go.Ab.AV.int Go.IntKind.u64 u2), (Go.Ab.AV.int Go.IntKind.u64 u3)]), (Go.Ab.Tag.agg [Go.Ab.Tag.no, Go.Ab.Tag.no, Go.Ab.Tag.no, Go.Ab.Tag.no]))) ∧
   ((∃ r23 : Bool, (((X[(0 + ((Int.toNat i) * 1))]?) = (Option.some ((Go.Ab.AV.bool r23), Go.Ab.Tag.no))) ∧
   (((Go.Ab.AV.bool r23), Go.Ab.Tag.no) = ((Go.Ab.AV.bool r14), Go.Ab.Tag.no)))) ∧
   ((∃ r24 : Bool, (((X[(0 + ((Int.toNat i) * 1))]?) = (Option.some ((Go.Ab.AV.bool r24), Go.Ab.Tag.no))) ∧
   (((Go.Ab.AV.bool r24), Go.Ab.Tag.no) = ((Go.Ab.AV.bool r14), Go.Ab.Tag.no)))) ∧
   ((∃ r25 : Bool, (((Y[(0 + ((Int.toNat i) * 1))]?) = (Option.some ((Go.Ab.AV.bool r25), Go.Ab.Tag.no))) ∧
   (((Go.Ab.AV.bool r25), Go.Ab.Tag.no) = ((Go.Ab.AV.bool r15), Go.Ab.Tag.no)))) ∧
   ((Go.Ab.implB r16 Bool.true (Q Go.Ab.Ex.ret (Go.Ab.Fr.mk [U, U, U, ((Go.Ab.AV.ptr 0 0), Go.Ab.Tag.no), U, U, ((Go.Ab.AV.bool Bool.false), Go.Ab.Tag.no), ((Go.Ab.AV.int Go.IntKind.u8 x), Go.Ab.Tag.no), ((Go.Ab.AV.int Go.IntKind.u8 y), Go.Ab.Tag.no), ((Go.Ab.AV.ptr 3 0), Go.Ab.Tag.no), ((Go.Ab.AV.ptr 4 0), Go.Ab.Tag.no), ((Go.Ab.AV.int Go.IntKind.i64 n), Go.Ab.Tag.no), ((Go.Ab.AV.ptr 5 0), Go.Ab.Tag.no), ((Go.Ab.AV.ptr 6 0), Go.Ab.Tag.no), ((Go.Ab.AV.ptr 7 0), Go.Ab.Tag.no), ((Go.Ab.AV.int Go.IntKind.i64 i), Go.Ab.Tag.no), U, U, U, U, U, U, U, U, U, U, U, U, U, U, U, U, U, U, U, ((Go.Ab.AV.bool r0), Go.Ab.Tag.no), U, U, U, U, U, U, U, U, U, U, U, U, ((Go.Ab.AV.agg [(Go.Ab.AV.int Go.IntKind.u64 m0), (Go.Ab.AV.int Go.IntKind.u64 m1), (Go.Ab.AV.int Go.IntKind.u64 m2), (Go.Ab.AV.int Go.IntKind.u64 m3)]), (Go.Ab.Tag.agg [Go.Ab.Tag.no, Go.Ab.Tag.no, Go.Ab.Tag.no, Go.Ab.Tag.no])), ((Go.Ab.AV.int Go.IntKind.u8 r1), Go.Ab.Tag.no), ((Go.Ab.AV.bool x5), Go.Ab.Tag.no), ((Go.Ab.AV.int Go.IntKind.i64 i), Go.Ab.Tag.no), ((Go.Ab.AV.ptr 3 (0 + ((Int.toNat i) * 1))), (Go.Ab.Tag.agg [])), ((Go.Ab.AV.bool r6), Go.Ab.Tag.no), ((Go.Ab.AV.bool Bool.false), Go.Ab.Tag.no), ((Go.Ab.AV.int Go.IntKind.u8 r1), Go.Ab.Tag.no), ((Go.Ab.AV.int Go.IntKind.u8 x), Go.Ab.Tag.no), ((Go.Ab.AV.bool r7), Go.Ab.Tag.no), ((Go.Ab.AV.bool Bool.true), Go.Ab.Tag.no), ((Go.Ab.AV.int Go.IntKind.u8 r1), Go.Ab.Tag.no), ((Go.Ab.AV.int Go.IntKind.u8 y), Go.Ab.Tag.no), ((Go.Ab.AV.bool r8), Go.Ab.Tag.no), ((Go.Ab.AV.bool r8), Go.Ab.Tag.no), ((Go.Ab.AV.bool r8), Go.Ab.Tag.no), ((Go.Ab.AV.bool r9), Go.Ab.Tag.no), U, U, ((Go.Ab.AV.agg [(Go.Ab.AV.int Go.IntKind.u64 n0), (Go.Ab.AV.int Go.IntKind.u64 n1), (Go.Ab.AV.int Go.IntKind.u64 n2), (Go.Ab.AV.int Go.IntKind.u64 n3)]), (Go.Ab.Tag.agg [Go.Ab.Tag.no, Go.Ab.Tag.no, Go.Ab.Tag.no, Go.Ab.Tag.no])), ((Go.Ab.AV.int Go.IntKind.u8 r1), Go.Ab.Tag.no), ((Go.Ab.AV.bool x10), Go.Ab.Tag.no), ((Go.Ab.AV.int Go.IntKind.i64 i), Go.Ab.Tag.no), ((Go.Ab.AV.ptr 3 (0 + ((Int.toNat i) * 1))), (Go.Ab.Tag.agg [])), ((Go.Ab.AV.bool r11), Go.Ab.Tag.no), ((Go.Ab.AV.bool r12), Go.Ab.Tag.no), U, U, ((Go.Ab.AV.agg [(Go.Ab.AV.int Go.IntKind.u64 u0), (Go.Ab.AV.int Go.IntKind.u64 u1), (Go.Ab.AV.int Go.IntKind.u64 u2), (Go.Ab.AV.int Go.IntKind.u64 u3)]), (Go.Ab.Tag.agg [Go.Ab.Tag.no, Go.Ab.Tag.no, Go.Ab.Tag.no, Go.Ab.Tag.no])), ((Go.Ab.AV.int Go.IntKind.u8 r1), Go.Ab.Tag.no), ((Go.Ab.AV.bool x13), Go.Ab.Tag.no), ((Go.Ab.AV.int Go.IntKind.i64 i), Go.Ab.Tag.no), ((Go.Ab.AV.ptr 3 (0 + ((Int.toNat i) * 1))), (Go.Ab.Tag.agg [])), ((Go.Ab.AV.bool r14), Go.Ab.Tag.no), ((Go.Ab.AV.bool Bool.false), Go.Ab.Tag.no), ((Go.Ab.AV.int Go.IntKind.i64 i), Go.Ab.Tag.no), ((Go.Ab.AV.ptr 4 (0 + ((Int.toNat i) * 1))), (Go.Ab.Tag.agg [])), ((Go.Ab.AV.bool r15), Go.Ab.Tag.no), ((Go.Ab.AV.bool r15), Go.Ab.Tag.no), ((Go.Ab.AV.bool r16), Go.Ab.Tag.no), ((Go.Ab.AV.bool r16), Go.Ab.Tag.no), U, U, U, U, U, U, U, U, U, U, U, U, U, U, U, U, U, U, U, U, U, U, U, U, U] []) (Go.Ab.St.mk [[((Go.Ab.AV.int Go.IntKind.u64 a0), Go.Ab.Tag.no), ((Go.Ab.AV.int Go.IntKind.u64 a1), Go.Ab.Tag.no), ((Go.Ab.AV.int Go.IntKind.u64 a2), Go.Ab.Tag.no), ((Go.Ab.AV.int Go.IntKind.u64 a3), Go.Ab.Tag.no)], [((Go.Ab.AV.int Go.IntKind.u64 b0), Go.Ab.Tag.no), ((Go.Ab.AV.int Go.IntKind.u64 b1), Go.Ab.Tag.no), ((Go.Ab.AV.int Go.IntKind.u64 b2), Go.Ab.Tag.no), ((Go.Ab.AV.int Go.IntKind.u64 b3), Go.Ab.Tag.no)], [((Go.Ab.AV.int Go.IntKind.u8 x), Go.Ab.Tag.no), ((Go.Ab.AV.int Go.IntKind.u8 y), Go.Ab.Tag.no)], X, Y, [((Go.Ab.AV.int Go.IntKind.u64 m0), Go.Ab.Tag.no), ((Go.Ab.AV.int Go.IntKind.u64 m1), Go.Ab.Tag.no), ((Go.Ab.AV.int Go.IntKind.u64 m2), Go.Ab.Tag.no), ((Go.Ab.AV.int Go.IntKind.u64 m3), Go.Ab.Tag.no)], [((Go.Ab.AV.int Go.IntKind.u64 n0), Go.Ab.Tag.no), ((Go.Ab.AV.int Go.IntKind.u64 n1), Go.Ab.Tag.no), ((Go.Ab.AV.int Go.IntKind.u64 n2), Go.Ab.Tag.no), ((Go.Ab.AV.int Go.IntKind.u64 n3), Go.Ab.Tag.no)], [((Go.Ab.AV.int Go.IntKind.u64 u0), Go.Ab.Tag.no), ((Go.Ab.AV.int Go.IntKind.u64 u1), Go.Ab.Tag.no), ((Go.Ab.AV.int Go.IntKind.u64 u2), Go.Ab.Tag.no), ((Go.Ab.AV.int Go.IntKind.u64 u3), Go.Ab.Tag.no)]] []))) ∧
   (Go.Ab.implB r16 Bool.false ((Go.Ab.inR i 256) ∧
   (∃ r26 : Bool, (((X[(0 + ((Int.toNat i) * 1))]?) = (Option.some ((Go.Ab.AV.bool r26), Go.Ab.Tag.no))) ∧
   ((Go.Ab.implB r26 Bool.true (∀ (r27 : Int), ((r27 = (Go.IntKind.wrap Go.IntKind.i64 (n + (1 : Int)))) →
   (∀ (r28 : Int), ((r28 = (Go.IntKind.wrap Go.IntKind.i64 (i + (1 : Int)))) →
   (Q Go.Ab.Ex.normal (Go.Ab.Fr.mk [U, U, U, ((Go.Ab.AV.ptr 0 0), Go.Ab.Tag.no), U, U, U, ((Go.Ab.AV.int Go.IntKind.u8 x), Go.Ab.Tag.no), ((Go.Ab.AV.int Go.IntKind.u8 y), Go.Ab.Tag.no), ((Go.Ab.AV.ptr 3 0), Go.Ab.Tag.no), ((Go.Ab.AV.ptr 4 0), Go.Ab.Tag.no), ((Go.Ab.AV.int Go.IntKind.i64 r27), Go.Ab.Tag.no), ((Go.Ab.AV.ptr 5 0), Go.Ab.Tag.no), ((Go.Ab.AV.ptr 6 0), Go.Ab.Tag.no), ((Go.Ab.AV.ptr 7 0), Go.Ab.Tag.no), ((Go.Ab.AV.int Go.IntKind.i64 r28), Go.Ab.Tag.no), U, U, U, U, U, U, U, U, U, U, U, U, U, U, U, U, U, U, U, ((Go.Ab.AV.bool r0), Go.Ab.Tag.no), U, U, U, U, U, U, U, U, U, U, U, U, ((Go.Ab.AV.agg [(Go.Ab.AV.int Go.IntKind.u64 m0), (Go.Ab.AV.int Go.IntKind.u64 m1), (Go.Ab.AV.int Go.IntKind.u64 m2), (Go.Ab.AV.int Go.IntKind.u64 m3)]), (Go.Ab.Tag.agg [Go.Ab.Tag.no, Go.Ab.Tag.no, Go.Ab.Tag.no, Go.Ab.Tag.no])), ((Go.Ab.AV.int Go.IntKind.u8 r1), Go.Ab.Tag.no), ((Go.Ab.AV.bool x5), Go.Ab.Tag.no), ((Go.Ab.AV.int Go.IntKind.i64 i), Go.Ab.Tag.no), ((Go.Ab.AV.ptr 3 (0 + ((Int.toNat i) * 1))), (Go.Ab.Tag.agg [])), ((Go.Ab.AV.bool r6), Go.Ab.Tag.no), ((Go.Ab.AV.bool Bool.false), Go.Ab.Tag.no), ((Go.Ab.AV.int Go.IntKind.u8 r1), Go.Ab.Tag.no), ((Go.Ab.AV.int Go.IntKind.u8 x), Go.Ab.Tag.no), ((Go.Ab.AV.bool r7), Go.Ab.Tag.no), ((Go.Ab.AV.bool Bool.true), Go.Ab.Tag.no), ((Go.Ab.AV.int Go.IntKind.u8 r1), Go.Ab.Tag.no), ((Go.Ab.AV.int Go.IntKind.u8 y), Go.Ab.Tag.no), ((Go.Ab.AV.bool r8), Go.Ab.Tag.no), ((Go.Ab.AV.bool r8), Go.Ab.Tag.no), ((Go.Ab.AV.bool r8), Go.Ab.Tag.no), ((Go.Ab.AV.bool r9), Go.Ab.Tag.no), U, U, ((Go.Ab.AV.agg [(Go.Ab.AV.int Go.IntKind.u64 n0), (Go.Ab.AV.int Go.IntKind.u64 n1), (Go.Ab.AV.int Go.IntKind.u64 n2), (Go.Ab.AV.int Go.IntKind.u64 n3)]), (Go.Ab.Tag.agg [Go.Ab.Tag.no, Go.Ab.Tag.no, Go.Ab.Tag.no, Go.Ab.Tag.no])), ((Go.Ab.AV.int Go.IntKind.u8 r1), Go.Ab.Tag.no), ((Go.Ab.AV.bool x10), Go.Ab.Tag.no), ((Go.Ab.AV.int Go.IntKind.i64 i), Go.Ab.Tag.no), ((Go.Ab.AV.ptr 3 (0 + ((Int.toNat i) * 1))), (Go.Ab.Tag.agg [])), ((Go.Ab.AV.bool r11), Go.Ab.Tag.no), ((Go.Ab.AV.bool r12), Go.Ab.Tag.no), U, U, ((Go.Ab.AV.agg [(Go.Ab.AV.int Go.IntKind.u64 u0), (Go.Ab.AV.int Go.IntKind.u64 u1), (Go.Ab.AV.int Go.IntKind.u64 u2), (Go.Ab.AV.int Go.IntKind.u64 u3)]), (Go.Ab.Tag.agg [Go.Ab.Tag.no, Go.Ab.Tag.no, Go.Ab.Tag.no, Go.Ab.Tag.no])), ((Go.Ab.AV.int Go.IntKind.u8 r1), Go.Ab.Tag.no), ((Go.Ab.AV.bool x13), Go.Ab.Tag.no), ((Go.Ab.AV.int Go.IntKind.i64 i), Go.Ab.Tag.no), ((Go.Ab.AV.ptr 3 (0 + ((Int.toNat i) * 1))), (Go.Ab.Tag.agg [])), ((Go.Ab.AV.bool r14), Go.Ab.Tag.no), ((Go.Ab.AV.bool Bool.false), Go.Ab.Tag.no), ((Go.Ab.AV.int Go.IntKind.i64 i), Go.Ab.Tag.no), ((Go.Ab.AV.ptr 4 (0 + ((Int.toNat i) * 1))), (Go.Ab.Tag.agg [])), ((Go.Ab.AV.bool r15), Go.Ab.Tag.no), ((Go.Ab.AV.bool r15), Go.Ab.Tag.no), ((Go.Ab.AV.bool r16), Go.Ab.Tag.no), ((Go.Ab.AV.bool r16), Go.Ab.Tag.no), U, U, ((Go.Ab.AV.bool r26), Go.Ab.Tag.no), U, U, U, U, U, U, U, U, U, U, U, U, U, U, U, U, U, U, U, U, U, U] []) (Go.Ab.St.mk [[((Go.Ab.AV.int Go.IntKind.u64 a0), Go.Ab.Tag.no), ((Go.Ab.AV.int Go.IntKind.u64 a1), Go.Ab.Tag.no), ((Go.Ab.AV.int Go.IntKind.u64 a2), Go.Ab.Tag.no), ((Go.Ab.AV.int Go.IntKind.u64 a3), Go.Ab.Tag.no)], [((Go.Ab.AV.int Go.IntKind.u64 b0), Go.Ab.Tag.no), ((Go.Ab.AV.int Go.IntKind.u64 b1), Go.Ab.Tag.no), ((Go.Ab.AV.int Go.IntKind.u64 b2), Go.Ab.Tag.no), ((Go.Ab.AV.int Go.IntKind.u64 b3), Go.Ab.Tag.no)], [((Go.Ab.AV.int Go.IntKind.u8 x), Go.Ab.Tag.no), ((Go.Ab.AV.int Go.IntKind.u8 y), Go.Ab.Tag.no)], X, Y, [((Go.Ab.AV.int Go.IntKind.u64 m0), Go.Ab.Tag.no), ((Go.Ab.AV.int Go.IntKind.u64 m1), Go.Ab.Tag.no), ((Go.Ab.AV.int Go.IntKind.u64 m2), Go.Ab.Tag.no), ((Go.Ab.AV.int Go.IntKind.u64 m3), Go.Ab.Tag.no)], [((Go.Ab.AV.int Go.IntKind.u64 n0), Go.Ab.Tag.no), ((Go.Ab.AV.int Go.IntKind.u64 n1), Go.Ab.Tag.no), ((Go.Ab.AV.int Go.IntKind.u64 n2), Go.Ab.Tag.no), ((Go.Ab.AV.int Go.IntKind.u64 n3), Go.Ab.Tag.no)], [((Go.Ab.AV.int Go.IntKind.u64 u0), Go.Ab.Tag.no), ((Go.Ab.AV.int Go.IntKind.u64 u1), Go.Ab.Tag.no), ((Go.Ab.AV.int Go.IntKind.u64 u2), Go.Ab.Tag.no), ((Go.Ab.AV.int Go.IntKind.u64 u3), Go.Ab.Tag.no)]] []))))))) ∧
   (Go.Ab.implB r26 Bool.false (∀ (r29 : Int), ((r29 = (Go.IntKind.wrap Go.IntKind.i64 (i + (1 : Int)))) →
   (Q Go.Ab.Ex.normal (Go.Ab.Fr.mk [U, U, U, ((Go.Ab.AV.ptr 0 0), Go.Ab.Tag.no), U, U, U, ((Go.Ab.AV.int Go.IntKind.u8 x), Go.Ab.Tag.no), ((Go.Ab.AV.int Go.IntKind.u8 y), Go.Ab.Tag.no), ((Go.Ab.AV.ptr 3 0), Go.Ab.Tag.no), ((Go.Ab.AV.ptr 4 0), Go.Ab.Tag.no), ((Go.Ab.AV.int Go.IntKind.i64 n), Go.Ab.Tag.no), ((Go.Ab.AV.ptr 5 0), Go.Ab.Tag.no), ((Go.Ab.AV.ptr 6 0), Go.Ab.Tag.no), ((Go.Ab.AV.ptr 7 0), Go.Ab.Tag.no), ((Go.Ab.AV.int Go.IntKind.i64 r29), Go.Ab.Tag.no), U, U, U, U, U, U, U, U, U, U, U, U, U, U, U, U, U, U, U, ((Go.Ab.AV.bool r0), Go.Ab.Tag.no), U, U, U, U, U, U, U, U, U, U, U, U, ((Go.Ab.AV.agg [(Go.Ab.AV.int Go.IntKind.u64 m0), (Go.Ab.AV.int Go.IntKind.u64 m1), (Go.Ab.AV.int Go.IntKind.u64 m2), (Go.Ab.AV.int Go.IntKind.u64 m3)]), (Go.Ab.Tag.agg [Go.Ab.Tag.no, Go.Ab.Tag.no, Go.Ab.Tag.no, Go.Ab.Tag.no])), ((Go.Ab.AV.int Go.IntKind.u8 r1), Go.Ab.Tag.no), ((Go.Ab.AV.bool x5), Go.Ab.Tag.no), ((Go.Ab.AV.int Go.IntKind.i64 i), Go.Ab.Tag.no), ((Go.Ab.AV.ptr 3 (0 + ((Int.toNat i) * 1))), (Go.Ab.Tag.agg [])), ((Go.Ab.AV.bool r6), Go.Ab.Tag.no), ((Go.Ab.AV.bool Bool.false), Go.Ab.Tag.no), ((Go.Ab.AV.int Go.IntKind.u8 r1), Go.Ab.Tag.no), ((Go.Ab.AV.int Go.IntKind.u8 x), Go.Ab.Tag.no), ((Go.Ab.AV.bool r7), Go.Ab.Tag.no), ((Go.Ab.AV.bool Bool.true), Go.Ab.Tag.no), ((Go.Ab.AV.int Go.IntKind.u8 r1), Go.Ab.Tag.no), ((Go.Ab.AV.int Go.IntKind.u8 y), Go.Ab.Tag.no), ((Go.Ab.AV.bool r8), Go.Ab.Tag.no), ((Go.Ab.AV.bool r8), Go.Ab.Tag.no), ((Go.Ab.AV.bool r8), Go.Ab.Tag.no), ((Go.Ab.AV.bool r9), Go.Ab.Tag.no), U, U, ((Go.Ab.AV.agg [(Go.Ab.AV.int Go.IntKind.u64 n0), (Go.Ab.AV.int Go.IntKind.u64 n1), (Go.Ab.AV.int Go.IntKind.u64 n2), (Go.Ab.AV.int Go.IntKind.u64 n3)]), (Go.Ab.Tag.agg [Go.Ab.Tag.no, Go.Ab.Tag.no, Go.Ab.Tag.no, Go.Ab.Tag.no])), ((Go.Ab.AV.int Go.IntKind.u8 r1), Go.Ab.Tag.no), ((Go.Ab.AV.bool x10), Go.Ab.Tag.no), ((Go.Ab.AV.int Go.IntKind.i64 i), Go.Ab.Tag.no), ((Go.Ab.AV.ptr 3 (0 + ((Int.toNat i) * 1))), (Go.Ab.Tag.agg [])), ((Go.Ab.AV.bool r11), Go.Ab.Tag.no), ((Go.Ab.AV.bool r12), Go.Ab.Tag.no), U, U, ((Go.Ab.AV.agg [(Go.Ab.AV.int Go.IntKind.u64 u0), (Go.Ab.AV.int Go.IntKind.u64 u1), (Go.Ab.AV.int Go.IntKind.u64 u2), (Go.Ab.AV.int Go.IntKind.u64 u3)]), (Go.Ab.Tag.agg [Go.Ab.Tag.no, Go.Ab.Tag.no, Go.Ab.Tag.no, Go.Ab.Tag.no])), ((Go.Ab.AV.int Go.IntKind.u8 r1), Go.Ab.Tag.no), ((Go.Ab.AV.bool x13), Go.Ab.Tag.no), ((Go.Ab.AV.int Go.IntKind.i64 i), Go.Ab.Tag.no), ((Go.Ab.AV.ptr 3 (0 + ((Int.toNat i) * 1))), (Go.Ab.Tag.agg [])), ((Go.Ab.AV.bool r14), Go.Ab.Tag.no), ((Go.Ab.AV.bool Bool.false), Go.Ab.Tag.no), ((Go.Ab.AV.int Go.IntKind.i64 i), Go.Ab.Tag.no), ((Go.Ab.AV.ptr 4 (0 + ((Int.toNat i) * 1))), (Go.Ab.Tag.agg [])), ((Go.Ab.AV.bool r15), Go.Ab.Tag.no), ((Go.Ab.AV.bool r15), Go.Ab.Tag.no), ((Go.Ab.AV.bool r16), Go.Ab.Tag.no), ((Go.Ab.AV.bool r16), Go.Ab.Tag.no), U, U, ((Go.Ab.AV.bool r26), Go.Ab.Tag.no), U, U, U, U, U, U, U, U, U, U, U, U, U, U, U, U, U, U, U, U, U, U] []) (Go.Ab.St.mk [[((Go.Ab.AV.int Go.IntKind.u64 a0), Go.Ab.Tag.no), ((Go.Ab.AV.int Go.IntKind.u64 a1), Go.Ab.Tag.no), ((Go.Ab.AV.int Go.IntKind.u64 a2), Go.Ab.Tag.no), ((Go.Ab.AV.int Go.IntKind.u64 a3), Go.Ab.Tag.no)], [((Go.Ab.AV.int Go.IntKind.u64 b0), Go.Ab.Tag.no), ((Go.Ab.AV.int Go.IntKind.u64 b1), Go.Ab.Tag.no), ((Go.Ab.AV.int Go.IntKind.u64 b2), Go.Ab.Tag.no), ((Go.Ab.AV.int Go.IntKind.u64 b3), Go.Ab.Tag.no)], [((Go.Ab.AV.int Go.IntKind.u8 x), Go.Ab.Tag.no), ((Go.Ab.AV.int Go.IntKind.u8 y), Go.Ab.Tag.no)], X, Y, [((Go.Ab.AV.int Go.IntKind.u64 m0), Go.Ab.Tag.no), ((Go.Ab.AV.int Go.IntKind.u64 m1), Go.Ab.Tag.no), ((Go.Ab.AV.int Go.IntKind.u64 m2), Go.Ab.Tag.no), ((Go.Ab.AV.int Go.IntKind.u64 m3), Go.Ab.Tag.no)], [((Go.Ab.AV.int Go.IntKind.u64 n0), Go.Ab.Tag.no), ((Go.Ab.AV.int Go.IntKind.u64 n1), Go.Ab.Tag.no), ((Go.Ab.AV.int Go.IntKind.u64 n2), Go.Ab.Tag.no), ((Go.Ab.AV.int Go.IntKind.u64 n3), Go.Ab.Tag.no)], [((Go.Ab.AV.int Go.IntKind.u64 u0), Go.Ab.Tag.no), ((Go.Ab.AV.int Go.IntKind.u64 u1), Go.Ab.Tag.no), ((Go.Ab.AV.int Go.IntKind.u64 u2), Go.Ab.Tag.no), ((Go.Ab.AV.int Go.IntKind.u64 u3), Go.Ab.Tag.no)]] [])))))))))))))))))))))))))) ∧
   True) ∧
   True))) ∧
   True)) ∧
   True)) ∧
   (Go.Ab.implB r14 Bool.true (True ∧
   (True ∧
   (((∀ (r30 : Bool), ((r30 = (Bool.not (x13 == Bool.true))) →
   (((Go.Ab.collect [((Go.Ab.AV.int Go.IntKind.u64 a0), Go.Ab.Tag.no), ((Go.Ab.AV.int Go.IntKind.u64 a1), Go.Ab.Tag.no), ((Go.Ab.AV.int Go.IntKind.u64 a2), Go.Ab.Tag.no), ((Go.Ab.AV.int Go.IntKind.u64 a3), Go.Ab.Tag.no)]) = ((Go.Ab.AV.agg [(Go.Ab.AV.int Go.IntKind.u64 a0), (Go.Ab.AV.int Go.IntKind.u64 a1), (Go.Ab.AV.int Go.IntKind.u64 a2), (Go.Ab.AV.int Go.IntKind.u64 a3)]), (Go.Ab.Tag.agg [Go.Ab.Tag.no, Go.Ab.Tag.no, Go.Ab.Tag.no, Go.Ab.Tag.no]))) ∧
   ((∃ r31 : Bool, (((X[(0 + ((Int.toNat i) * 1))]?) = (Option.some ((Go.Ab.AV.bool r31), Go.Ab.Tag.no))) ∧
   (((Go.Ab.AV.bool r31), Go.Ab.Tag.no) = ((Go.Ab.AV.bool r3), Go.Ab.Tag.no)))) ∧
   ((∃ r32 : Bool, (((X[(0 + ((Int.toNat i) * 1))]?) = (Option.some ((Go.Ab.AV.bool r32), Go.Ab.Tag.no))) ∧
   (((Go.Ab.AV.bool r32), Go.Ab.Tag.no) = ((Go.Ab.AV.bool r3), Go.Ab.Tag.no)))) ∧
   (((Go.Ab.collect [((Go.Ab.AV.int Go.IntKind.u64 m0), Go.Ab.Tag.no), ((Go.Ab.AV.int Go.IntKind.u64 m1), Go.Ab.Tag.no), ((Go.Ab.AV.int Go.IntKind.u64 m2), Go.Ab.Tag.no), ((Go.Ab.AV.int Go.IntKind.u64 m3), Go.Ab.Tag.no)]) = ((Go.Ab.AV.agg [(Go.Ab.AV.int Go.IntKind.u64 m0), (Go.Ab.AV.int Go.IntKind.u64 m1), (Go.Ab.AV.int Go.IntKind.u64 m2), (Go.Ab.AV.int Go.IntKind.u64 m3)]), (Go.Ab.Tag.agg [Go.Ab.Tag.no, Go.Ab.Tag.no, Go.Ab.Tag.no, Go.Ab.Tag.no]))) ∧
   ((∃ r33 : Bool, (((X[(0 + ((Int.toNat i) * 1))]?) = (Option.some ((Go.Ab.AV.bool r33), Go.Ab.Tag.no))) ∧
   (((Go.Ab.AV.bool r33), Go.Ab.Tag.no) = ((Go.Ab.AV.bool r6), Go.Ab.Tag.no)))) ∧
   ((∃ r34 : Bool, (((X[(0 + ((Int.toNat i) * 1))]?) = (Option.some ((Go.Ab.AV.bool r34), Go.Ab.Tag.no))) ∧
   (((Go.Ab.AV.bool r34), Go.Ab.Tag.no) = ((Go.Ab.AV.bool r6), Go.Ab.Tag.no)))) ∧
   (((Go.Ab.collect [((Go.Ab.AV.int Go.IntKind.u64 n0), Go.Ab.Tag.no), ((Go.Ab.AV.int Go.IntKind.u64 n1), Go.Ab.Tag.no), ((Go.Ab.AV.int Go.IntKind.u64 n2), Go.Ab.Tag.no), ((Go.Ab.AV.int Go.IntKind.u64 n3), Go.Ab.Tag.no)]) = ((Go.Ab.AV.agg [(Go.Ab.AV.int Go.IntKind.u64 n0), (Go.Ab.AV.int Go.IntKind.u64 n1), (Go.Ab.AV.int Go.IntKind.u64 n2), (Go.Ab.AV.int Go.IntKind.u64 n3)]), (Go.Ab.Tag.agg [Go.Ab.Tag.no, Go.Ab.Tag.no, Go.Ab.Tag.no, Go.Ab.Tag.no]))) ∧
   ((∃ r35 : Bool, (((X[(0 + ((Int.toNat i) * 1))]?) = (Option.some ((Go.Ab.AV.bool r35), Go.Ab.Tag.no))) ∧
   (((Go.Ab.AV.bool r35), Go.Ab.Tag.no) = ((Go.Ab.AV.bool r11), Go.Ab.Tag.no)))) ∧
   ((∃ r36 : Bool, (((X[(0 + ((Int.toNat i) * 1))]?) = (Option.some ((Go.Ab.AV.bool r36), Go.Ab.Tag.no))) ∧
   (((Go.Ab.AV.bool r36), Go.Ab.Tag.no) = ((Go.Ab.AV.bool r11), Go.Ab.Tag.no)))) ∧
   (((Go.Ab.collect [((Go.Ab.AV.int Go.IntKind.u64 u0), Go.Ab.Tag.no), ((Go.Ab.AV.int Go.IntKind.u64 u1), Go.Ab.Tag.no), ((Go.Ab.AV.int Go.IntKind.u64 u2), Go.Ab.Tag.no), ((Go.Ab.AV.int Go.IntKind.u64 u3), Go.Ab.Tag.no)]) = ((Go.Ab.AV.agg [(Go.Ab.AV.int Go.IntKind.u64 u0), (Go.Ab.AV.int Go.IntKind.u64 u1), (Go.Ab.AV.int Go.IntKind.u64 u2), (Go.Ab.AV.int Go.IntKind.u64 u3)]), (Go.Ab.Tag.agg [Go.Ab.Tag.no, Go.Ab.Tag.no, Go.Ab.Tag.no, Go.Ab.Tag.no]))) ∧
   ((∃ r37 : Bool, (((X[(0 + ((Int.toNat i) * 1))]?) = (Option.some ((Go.Ab.AV.bool r37), Go.Ab.Tag.no))) ∧
   (((Go.Ab.AV.bool r37), Go.Ab.Tag.no) = ((Go.Ab.AV.bool r14), Go.Ab.Tag.no)))) ∧
   ((∃ r38 : Bool, (((X[(0 + ((Int.toNat i) * 1))]?) = (Option.some ((Go.Ab.AV.bool r38), Go.Ab.Tag.no))) ∧
   (((Go.Ab.AV.bool r38), Go.Ab.Tag.no) = ((Go.Ab.AV.bool r14), Go.Ab.Tag.no)))) ∧
   ((Go.Ab.implB r30 Bool.true (Q Go.Ab.Ex.ret (Go.Ab.Fr.mk [U, U, U, ((Go.Ab.AV.ptr 0 0), Go.Ab.Tag.no), U, U, ((Go.Ab.AV.bool Bool.false), Go.Ab.Tag.no), ((Go.Ab.AV.int Go.IntKind.u8 x), Go.Ab.Tag.no), ((Go.Ab.AV.int Go.IntKind.u8 y), Go.Ab.Tag.no), ((Go.Ab.AV.ptr 3 0), Go.Ab.Tag.no), ((Go.Ab.AV.ptr 4 0), Go.Ab.Tag.no), ((Go.Ab.AV.int Go.IntKind.i64 n), Go.Ab.Tag.no), ((Go.Ab.AV.ptr 5 0), Go.Ab.Tag.no), ((Go.Ab.AV.ptr 6 0), Go.Ab.Tag.no), ((Go.Ab.AV.ptr 7 0), Go.Ab.Tag.no), ((Go.Ab.AV.int Go.IntKind.i64 i), Go.Ab.Tag.no), U, U, U, U, U, U, U, U, U, U, U, U, U, U, U, U, U, U, U, ((Go.Ab.AV.bool r0), Go.Ab.Tag.no), U, U, U, U, U, U, U, U, U, U, U, U, ((Go.Ab.AV.agg [(Go.Ab.AV.int Go.IntKind.u64 m0), (Go.Ab.AV.int Go.IntKind.u64 m1), (Go.Ab.AV.int Go.IntKind.u64 m2), (Go.Ab.AV.int Go.IntKind.u64 m3)]), (Go.Ab.Tag.agg [Go.Ab.Tag.no, Go.Ab.Tag.no, Go.Ab.Tag.no, Go.Ab.Tag.no])), ((Go.Ab.AV.int Go.IntKind.u8 r1), Go.Ab.Tag.no), ((Go.Ab.AV.bool x5), Go.Ab.Tag.no), ((Go.Ab.AV.int Go.IntKind.i64 i), Go.Ab.Tag.no), ((Go.Ab.AV.ptr 3 (0 + ((Int.toNat i) * 1))), (Go.Ab.Tag.agg [])), ((Go.Ab.AV.bool r6), Go.Ab.Tag.no), ((Go.Ab.AV.bool Bool.false), Go.Ab.Tag.no), ((Go.Ab.AV.int Go.IntKind.u8 r1), Go.Ab.Tag.no), ((Go.Ab.AV.int Go.IntKind.u8 x), Go.Ab.Tag.no), ((Go.Ab.AV.bool r7), Go.Ab.Tag.no), ((Go.Ab.AV.bool Bool.true), Go.Ab.Tag.no), ((Go.Ab.AV.int Go.IntKind.u8 r1), Go.Ab.Tag.no), ((Go.Ab.AV.int Go.IntKind.u8 y), Go.Ab.Tag.no), ((Go.Ab.AV.bool r8), Go.Ab.Tag.no), ((Go.Ab.AV.bool r8), Go.Ab.Tag.no), ((Go.Ab.AV.bool r8), Go.Ab.Tag.no), ((Go.Ab.AV.bool r9), Go.Ab.Tag.no), U, U, ((Go.Ab.AV.agg [(Go.Ab.AV.int Go.IntKind.u64 n0), (Go.Ab.AV.int Go.IntKind.u64 n1), (Go.Ab.AV.int Go.IntKind.u64 n2), (Go.Ab.AV.int Go.IntKind.u64 n3)]), (Go.Ab.Tag.agg [Go.Ab.Tag.no, Go.Ab.Tag.no, Go.Ab.Tag.no, Go.Ab.Tag.no])), ((Go.Ab.AV.int Go.IntKind.u8 r1), Go.Ab.Tag.no), ((Go.Ab.AV.bool x10), Go.Ab.Tag.no), ((Go.Ab.AV.int Go.IntKind.i64 i), Go.Ab.Tag.no), ((Go.Ab.AV.ptr 3 (0 + ((Int.toNat i) * 1))), (Go.Ab.Tag.agg [])), ((Go.Ab.AV.bool r11), Go.Ab.Tag.no), ((Go.Ab.AV.bool r12), Go.Ab.Tag.no), U, U, ((Go.Ab.AV.agg [(Go.Ab.AV.int Go.IntKind.u64 u0), (Go.Ab.AV.int Go.IntKind.u64 u1), (Go.Ab.AV.int Go.IntKind.u64 u2), (Go.Ab.AV.int Go.IntKind.u64 u3)]), (Go.Ab.Tag.agg [Go.Ab.Tag.no, Go.Ab.Tag.no, Go.Ab.Tag.no, Go.Ab.Tag.no])), ((Go.Ab.AV.int Go.IntKind.u8 r1), Go.Ab.Tag.no), ((Go.Ab.AV.bool x13), Go.Ab.Tag.no), ((Go.Ab.AV.int Go.IntKind.i64 i), Go.Ab.Tag.no), ((Go.Ab.AV.ptr 3 (0 + ((Int.toNat i) * 1))), (Go.Ab.Tag.agg [])), ((Go.Ab.AV.bool r14), Go.Ab.Tag.no), ((Go.Ab.AV.bool Bool.true), Go.Ab.Tag.no), ((Go.Ab.AV.tup []), Go.Ab.Tag.no), ((Go.Ab.AV.tup []), Go.Ab.Tag.no), ((Go.Ab.AV.tup []), Go.Ab.Tag.no), ((Go.Ab.AV.bool Bool.true), Go.Ab.Tag.no), ((Go.Ab.AV.bool r30), Go.Ab.Tag.no), ((Go.Ab.AV.bool r30), Go.Ab.Tag.no), U, U, U, U, U, U, U, U, U, U, U, U, U, U, U, U, U, U, U, U, U, U, U, U, U] []) (Go.Ab.St.mk [[((Go.Ab.AV.int Go.IntKind.u64 a0), Go.Ab.Tag.no), ((Go.Ab.AV.int Go.IntKind.u64 a1), Go.Ab.Tag.no), ((Go.Ab.AV.int Go.IntKind.u64 a2), Go.Ab.Tag.no), ((Go.Ab.AV.int Go.IntKind.u64 a3), Go.Ab.Tag.no)], [((Go.Ab.AV.int Go.IntKind.u64 b0), Go.Ab.Tag.no), ((Go.Ab.AV.int Go.IntKind.u64 b1), Go.Ab.Tag.no), ((Go.Ab.AV.int Go.IntKind.u64 b2), Go.Ab.Tag.no), ((Go.Ab.AV.int Go.IntKind.u64 b3), Go.Ab.Tag.no)], [((Go.Ab.AV.int Go.IntKind.u8 x), Go.Ab.Tag.no), ((Go.Ab.AV.int Go.IntKind.u8 y), Go.Ab.Tag.no)], X, Y, [((Go.Ab.AV.int Go.IntKind.u64 m0), Go.Ab.Tag.no), ((Go.Ab.AV.int Go.IntKind.u64 m1), Go.Ab.Tag.no), ((Go.Ab.AV.int Go.IntKind.u64 m2), Go.Ab.Tag.no), ((Go.Ab.AV.int Go.IntKind.u64 m3), Go.Ab.Tag.no)], [((Go.Ab.AV.int Go.IntKind.u64 n0), Go.Ab.Tag.no), ((Go.Ab.AV.int Go.IntKind.u64 n1), Go.Ab.Tag.no), ((Go.Ab.AV.int Go.IntKind.u64 n2), Go.Ab.Tag.no), ((Go.Ab.AV.int Go.IntKind.u64 n3), Go.Ab.Tag.no)], [((Go.Ab.AV.int Go.IntKind.u64 u0), Go.Ab.Tag.no), ((Go.Ab.AV.int Go.IntKind.u64 u1), Go.Ab.Tag.no), ((Go.Ab.AV.int Go.IntKind.u64 u2), Go.Ab.Tag.no), ((Go.Ab.AV.int Go.IntKind.u64 u3), Go.Ab.Tag.no)]] []))) ∧
   (Go.Ab.implB r30 Bool.false ((Go.Ab.inR i 256) ∧
   (∃ r39 : Bool, (((X[(0 + ((Int.toNat i) * 1))]?) = (Option.some ((Go.Ab.AV.bool r39), Go.Ab.Tag.no))) ∧
   ((Go.Ab.implB r39 Bool.true (∀ (r40 : Int), ((r40 = (Go.IntKind.wrap Go.IntKind.i64 (n + (1 : Int)))) →
   (∀ (r41 : Int), ((r41 = (Go.IntKind.wrap Go.IntKind.i64 (i + (1 : Int)))) →
   (Q Go.Ab.Ex.normal (Go.Ab.Fr.mk [U, U, U, ((Go.Ab.AV.ptr 0 0), Go.Ab.Tag.no), U, U, U, ((Go.Ab.AV.int Go.IntKind.u8 x), Go.Ab.Tag.no), ((Go.Ab.AV.int Go.IntKind.u8 y), Go.Ab.Tag.no), ((Go.Ab.AV.ptr 3 0), Go.Ab.Tag.no), ((Go.Ab.AV.ptr 4 0), Go.Ab.Tag.no), ((Go.Ab.AV.int Go.IntKind.i64 r40), Go.Ab.Tag.no), ((Go.Ab.AV.ptr 5 0), Go.Ab.Tag.no), ((Go.Ab.AV.ptr 6 0), Go.Ab.Tag.no), ((Go.Ab.AV.ptr 7 0), Go.Ab.Tag.no), ((Go.Ab.AV.int Go.IntKind.i64 r41), Go.Ab.Tag.no), U, U, U, U, U, U, U, U, U, U, U, U, U, U, U, U, U, U, U, ((Go.Ab.AV.bool r0), Go.Ab.Tag.no), U, U, U, U, U, U, U, U, U, U, U, U, ((Go.Ab.AV.agg [(Go.Ab.AV.int Go.IntKind.u64 m0), (Go.Ab.AV.int Go.IntKind.u64 m1), (Go.Ab.AV.int Go.IntKind.u64 m2), (Go.Ab.AV.int Go.IntKind.u64 m3)]), (Go.Ab.Tag.agg [Go.Ab.Tag.no, Go.Ab.Tag.no, Go.Ab.Tag.no, Go.Ab.Tag.no])), ((Go.Ab.AV.int Go.IntKind.u8 r1), Go.Ab.Tag.no), ((Go.Ab.AV.bool x5), Go.Ab.Tag.no), ((Go.Ab.AV.int Go.IntKind.i64 i), Go.Ab.Tag.no), ((Go.Ab.AV.ptr 3 (0 + ((Int.toNat i) * 1))), (Go.Ab.Tag.agg [])), ((Go.Ab.AV.bool r6), Go.Ab.Tag.no), ((Go.Ab.AV.bool Bool.false), Go.Ab.Tag.no), ((Go.Ab.AV.int Go.IntKind.u8 r1), Go.Ab.Tag.no), ((Go.Ab.AV.int Go.IntKind.u8 x), Go.Ab.Tag.no), ((Go.Ab.AV.bool r7), Go.Ab.Tag.no), ((Go.Ab.AV.bool Bool.true), Go.Ab.Tag.no), ((Go.Ab.AV.int Go.IntKind.u8 r1), Go.Ab.Tag.no), ((Go.Ab.AV.int Go.IntKind.u8 y), Go.Ab.Tag.no), ((Go.Ab.AV.bool r8), Go.Ab.Tag.no), ((Go.Ab.AV.bool r8), Go.Ab.Tag.no), ((Go.Ab.AV.bool r8), Go.Ab.Tag.no), ((Go.Ab.AV.bool r9), Go.Ab.Tag.no), U, U, ((Go.Ab.AV.agg [(Go.Ab.AV.int Go.IntKind.u64 n0), (Go.Ab.AV.int Go.IntKind.u64 n1), (Go.Ab.AV.int Go.IntKind.u64 n2), (Go.Ab.AV.int Go.IntKind.u64 n3)]), (Go.Ab.Tag.agg [Go.Ab.Tag.no, Go.Ab.Tag.no, Go.Ab.Tag.no, Go.Ab.Tag.no])), ((Go.Ab.AV.int Go.IntKind.u8 r1), Go.Ab.Tag.no), ((Go.Ab.AV.bool x10), Go.Ab.Tag.no), ((Go.Ab.AV.int Go.IntKind.i64 i), Go.Ab.Tag.no), ((Go.Ab.AV.ptr 3 (0 + ((Int.toNat i) * 1))), (Go.Ab.Tag.agg [])), ((Go.Ab.AV.bool r11), Go.Ab.Tag.no), ((Go.Ab.AV.bool r12), Go.Ab.Tag.no), U, U, ((Go.Ab.AV.agg [(Go.Ab.AV.int Go.IntKind.u64 u0), (Go.Ab.AV.int Go.IntKind.u64 u1), (Go.Ab.AV.int Go.IntKind.u64 u2), (Go.Ab.AV.int Go.IntKind.u64 u3)]), (Go.Ab.Tag.agg [Go.Ab.Tag.no, Go.Ab.Tag.no, Go.Ab.Tag.no, Go.Ab.Tag.no])), ((Go.Ab.AV.int Go.IntKind.u8 r1), Go.Ab.Tag.no), ((Go.Ab.AV.bool x13), Go.Ab.Tag.no), ((Go.Ab.AV.int Go.IntKind.i64 i), Go.Ab.Tag.no), ((Go.Ab.AV.ptr 3 (0 + ((Int.toNat i) * 1))), (Go.Ab.Tag.agg [])), ((Go.Ab.AV.bool r14), Go.Ab.Tag.no), ((Go.Ab.AV.bool Bool.true), Go.Ab.Tag.no), ((Go.Ab.AV.tup []), Go.Ab.Tag.no), ((Go.Ab.AV.tup []), Go.Ab.Tag.no), ((Go.Ab.AV.tup []), Go.Ab.Tag.no), ((Go.Ab.AV.bool Bool.true), Go.Ab.Tag.no), ((Go.Ab.AV.bool r30), Go.Ab.Tag.no), ((Go.Ab.AV.bool r30), Go.Ab.Tag.no), U, U, ((Go.Ab.AV.bool r39), Go.Ab.Tag.no), U, U, U, U, U, U, U, U, U, U, U, U, U, U, U, U, U, U, U, U, U, U] []) (Go.Ab.St.mk [[((Go.Ab.AV.int Go.IntKind.u64 a0), Go.Ab.Tag.no), ((Go.Ab.AV.int Go.IntKind.u64 a1), Go.Ab.Tag.no), ((Go.Ab.AV.int Go.IntKind.u64 a2), Go.Ab.Tag.no), ((Go.Ab.AV.int Go.IntKind.u64 a3), Go.Ab.Tag.no)], [((Go.Ab.AV.int Go.IntKind.u64 b0), Go.Ab.Tag.no), ((Go.Ab.AV.int Go.IntKind.u64 b1), Go.Ab.Tag.no), ((Go.Ab.AV.int Go.IntKind.u64 b2), Go.Ab.Tag.no), ((Go.Ab.AV.int Go.IntKind.u64 b3), Go.Ab.Tag.no)], [((Go.Ab.AV.int Go.IntKind.u8 x), Go.Ab.Tag.no), ((Go.Ab.AV.int Go.IntKind.u8 y), Go.Ab.Tag.no)], X, Y, [((Go.Ab.AV.int Go.IntKind.u64 m0), Go.Ab.Tag.no), ((Go.Ab.AV.int Go.IntKind.u64 m1), Go.Ab.Tag.no), ((Go.Ab.AV.int Go.IntKind.u64 m2), Go.Ab.Tag.no), ((Go.Ab.AV.int Go.IntKind.u64 m3), Go.Ab.Tag.no)], [((Go.Ab.AV.int Go.IntKind.u64 n0), Go.Ab.Tag.no), ((Go.Ab.AV.int Go.IntKind.u64 n1), Go.Ab.Tag.no), ((Go.Ab.AV.int Go.IntKind.u64 n2), Go.Ab.Tag.no), ((Go.Ab.AV.int Go.IntKind.u64 n3), Go.Ab.Tag.no)], [((Go.Ab.AV.int Go.IntKind.u64 u0), Go.Ab.Tag.no), ((Go.Ab.AV.int Go.IntKind.u64 u1), Go.Ab.Tag.no), ((Go.Ab.AV.int Go.IntKind.u64 u2), Go.Ab.Tag.no), ((Go.Ab.AV.int Go.IntKind.u64 u3), Go.Ab.Tag.no)]] []))))))) ∧
   (Go.Ab.implB r39 Bool.false (∀ (r42 : Int), ((r42 = (Go.IntKind.wrap Go.IntKind.i64 (i + (1 : Int)))) →
   (Q Go.Ab.Ex.normal (Go.Ab.Fr.mk [U, U, U, ((Go.Ab.AV.ptr 0 0), Go.Ab.Tag.no), U, U, U, ((Go.Ab.AV.int Go.IntKind.u8 x), Go.Ab.Tag.no), ((Go.Ab.AV.int Go.IntKind.u8 y), Go.Ab.Tag.no), ((Go.Ab.AV.ptr 3 0), Go.Ab.Tag.no), ((Go.Ab.AV.ptr 4 0), Go.Ab.Tag.no), ((Go.Ab.AV.int Go.IntKind.i64 n), Go.Ab.Tag.no), ((Go.Ab.AV.ptr 5 0), Go.Ab.Tag.no), ((Go.Ab.AV.ptr 6 0), Go.Ab.Tag.no), ((Go.Ab.AV.ptr 7 0), Go.Ab.Tag.no), ((Go.Ab.AV.int Go.IntKind.i64 r42), Go.Ab.Tag.no), U, U, U, U, U, U, U, U, U, U, U, U, U, U, U, U, U, U, U, ((Go.Ab.AV.bool r0), Go.Ab.Tag.no), U, U, U, U, U, U, U, U, U, U, U, U, ((Go.Ab.AV.agg [(Go.Ab.AV.int Go.IntKind.u64 m0), (Go.Ab.AV.int Go.IntKind.u64 m1), (Go.Ab.AV.int Go.IntKind.u64 m2), (Go.Ab.AV.int Go.IntKind.u64 m3)]), (Go.Ab.Tag.agg [Go.Ab.Tag.no, Go.Ab.Tag.no, Go.Ab.Tag.no, Go.Ab.Tag.no])), ((Go.Ab.AV.int Go.IntKind.u8 r1), Go.Ab.Tag.no), ((Go.Ab.AV.bool x5), Go.Ab.Tag.no), ((Go.Ab.AV.int Go.IntKind.i64 i), Go.Ab.Tag.no), ((Go.Ab.AV.ptr 3 (0 + ((Int.toNat i) * 1))), (Go.Ab.Tag.agg [])), ((Go.Ab.AV.bool r6), Go.Ab.Tag.no), ((Go.Ab.AV.bool Bool.false), Go.Ab.Tag.no), ((Go.Ab.AV.int Go.IntKind.u8 r1), Go.Ab.Tag.no), ((Go.Ab.AV.int Go.IntKind.u8 x), Go.Ab.Tag.no), ((Go.Ab.AV.bool r7), Go.Ab.Tag.no), ((Go.Ab.AV.bool Bool.true), Go.Ab.Tag.no), ((Go.Ab.AV.int Go.IntKind.u8 r1), Go.Ab.Tag.no), ((Go.Ab.AV.int Go.IntKind.u8 y), Go.Ab.Tag.no), ((Go.Ab.AV.bool r8), Go.Ab.Tag.no), ((Go.Ab.AV.bool r8), Go.Ab.Tag.no), ((Go.Ab.AV.bool r8), Go.Ab.Tag.no), ((Go.Ab.AV.bool r9), Go.Ab.Tag.no), U, U, ((Go.Ab.AV.agg [(Go.Ab.AV.int Go.IntKind.u64 n0), (Go.Ab.AV.int Go.IntKind.u64 n1), (Go.Ab.AV.int Go.IntKind.u64 n2), (Go.Ab.AV.int Go.IntKind.u64 n3)]), (Go.Ab.Tag.agg [Go.Ab.Tag.no, Go.Ab.Tag.no, Go.Ab.Tag.no, Go.Ab.Tag.no])), ((Go.Ab.AV.int Go.IntKind.u8 r1), Go.Ab.Tag.no), ((Go.Ab.AV.bool x10), Go.Ab.Tag.no), ((Go.Ab.AV.int Go.IntKind.i64 i), Go.Ab.Tag.no), ((Go.Ab.AV.ptr 3 (0 + ((Int.toNat i) * 1))), (Go.Ab.Tag.agg [])), ((Go.Ab.AV.bool r11), Go.Ab.Tag.no), ((Go.Ab.AV.bool r12), Go.Ab.Tag.no), U, U, ((Go.Ab.AV.agg [(Go.Ab.AV.int Go.IntKind.u64 u0), (Go.Ab.AV.int Go.IntKind.u64 u1), (Go.Ab.AV.int Go.IntKind.u64 u2), (Go.Ab.AV.int Go.IntKind.u64 u3)]), (Go.Ab.Tag.agg [Go.Ab.Tag.no, Go.Ab.Tag.no, Go.Ab.Tag.no, Go.Ab.Tag.no])), ((Go.Ab.AV.int Go.IntKind.u8 r1), Go.Ab.Tag.no), ((Go.Ab.AV.bool x13), Go.Ab.Tag.no), ((Go.Ab.AV.int Go.IntKind.i64 i), Go.Ab.Tag.no), ((Go.Ab.AV.ptr 3 (0 + ((Int.toNat i) * 1))), (Go.Ab.Tag.agg [])), ((Go.Ab.AV.bool r14), Go.Ab.Tag.no), ((Go.Ab.AV.bool Bool.true), Go.Ab.Tag.no), ((Go.Ab.AV.tup []), Go.Ab.Tag.no), ((Go.Ab.AV.tup []), Go.Ab.Tag.no), ((Go.Ab.AV.tup []), Go.Ab.Tag.no), ((Go.Ab.AV.bool Bool.true), Go.Ab.Tag.no), ((Go.Ab.AV.bool r30), Go.Ab.Tag.no), ((Go.Ab.AV.bool r30), Go.Ab.Tag.no), U, U, ((Go.Ab.AV.bool r39), Go.Ab.Tag.no), U, U, U, U, U, U, U, U, U, U, U, U, U, U, U, U, U, U, U, U, U, U] []) (Go.Ab.St.mk [[((Go.Ab.AV.int Go.IntKind.u64 a0), Go.Ab.Tag.no), ((Go.Ab.AV.int Go.IntKind.u64 a1), Go.Ab.Tag.no), ((Go.Ab.AV.int Go.IntKind.u64 a2), Go.Ab.Tag.no), ((Go.Ab.AV.int Go.IntKind.u64 a3), Go.Ab.Tag.no)], [((Go.Ab.AV.int Go.IntKind.u64 b0), Go.Ab.Tag.no), ((Go.Ab.AV.int Go.IntKind.u64 b1), Go.Ab.Tag.no), ((Go.Ab.AV.int Go.IntKind.u64 b2), Go.Ab.Tag.no), ((Go.Ab.AV.int Go.IntKind.u64 b3), Go.Ab.Tag.no)], [((Go.Ab.AV.int Go.IntKind.u8 x), Go.Ab.Tag.no), ((Go.Ab.AV.int Go.IntKind.u8 y), Go.Ab.Tag.no)], X, Y, [((Go.Ab.AV.int Go.IntKind.u64 m0), Go.Ab.Tag.no), ((Go.Ab.AV.int Go.IntKind.u64 m1), Go.Ab.Tag.no), ((Go.Ab.AV.int Go.IntKind.u64 m2), Go.Ab.Tag.no), ((Go.Ab.AV.int Go.IntKind.u64 m3), Go.Ab.Tag.no)], [((Go.Ab.AV.int Go.IntKind.u64 n0), Go.Ab.Tag.no), ((Go.Ab.AV.int Go.IntKind.u64 n1), Go.Ab.Tag.no), ((Go.Ab.AV.int Go.IntKind.u64 n2), Go.Ab.Tag.no), ((Go.Ab.AV.int Go.IntKind.u64 n3), Go.Ab.Tag.no)], [((Go.Ab.AV.int Go.IntKind.u64 u0), Go.Ab.Tag.no), ((Go.Ab.AV.int Go.IntKind.u64 u1), Go.Ab.Tag.no), ((Go.Ab.AV.int Go.IntKind.u64 u2), Go.Ab.Tag.no), ((Go.Ab.AV.int Go.IntKind.u64 u3), Go.Ab.Tag.no)]] []))))))))))))))))))))))))) ∧
   True) ∧
   True))))) ∧
   True))) ∧
   True)) ∧
   True) ∧
   True)))) ∧
   True) ∧
   True)) ∧
   (Go.Ab.implB r12 Bool.true (True ∧
   (True ∧
   (True ∧
   (True ∧
   (True ∧
   (True ∧
   (True ∧
   (True ∧
   (((Go.Ab.collect [((Go.Ab.AV.int Go.IntKind.u64 a0), Go.Ab.Tag.no), ((Go.Ab.AV.int Go.IntKind.u64 a1), Go.Ab.Tag.no), ((Go.Ab.AV.int Go.IntKind.u64 a2), Go.Ab.Tag.no), ((Go.Ab.AV.int Go.IntKind.u64 a3), Go.Ab.Tag.no)]) = ((Go.Ab.AV.agg [(Go.Ab.AV.int Go.IntKind.u64 a0), (Go.Ab.AV.int Go.IntKind.u64 a1), (Go.Ab.AV.int Go.IntKind.u64 a2), (Go.Ab.AV.int Go.IntKind.u64 a3)]), (Go.Ab.Tag.agg [Go.Ab.Tag.no, Go.Ab.Tag.no, Go.Ab.Tag.no, Go.Ab.Tag.no]))) ∧
   ((∃ r43 : Bool, (((X[(0 + ((Int.toNat i) * 1))]?) = (Option.some ((Go.Ab.AV.bool r43), Go.Ab.Tag.no))) ∧
   (((Go.Ab.AV.bool r43), Go.Ab.Tag.no) = ((Go.Ab.AV.bool r3), Go.Ab.Tag.no)))) ∧
   ((∃ r44 : Bool, (((X[(0 + ((Int.toNat i) * 1))]?) = (Option.some ((Go.Ab.AV.bool r44), Go.Ab.Tag.no))) ∧
   (((Go.Ab.AV.bool r44), Go.Ab.Tag.no) = ((Go.Ab.AV.bool r3), Go.Ab.Tag.no)))) ∧
   (((Go.Ab.collect [((Go.Ab.AV.int Go.IntKind.u64 m0), Go.Ab.Tag.no), ((Go.Ab.AV.int Go.IntKind.u64 m1), Go.Ab.Tag.no), ((Go.Ab.AV.int Go.IntKind.u64 m2), Go.Ab.Tag.no), ((Go.Ab.AV.int Go.IntKind.u64 m3), Go.Ab.Tag.no)]) = ((Go.Ab.AV.agg [(Go.Ab.AV.int Go.IntKind.u64 m0), (Go.Ab.AV.int Go.IntKind.u64 m1), (Go.Ab.AV.int Go.IntKind.u64 m2), (Go.Ab.AV.int Go.IntKind.u64 m3)]), (Go.Ab.Tag.agg [Go.Ab.Tag.no, Go.Ab.Tag.no, Go.Ab.Tag.no, Go.Ab.Tag.no]))) ∧
   ((∃ r45 : Bool, (((X[(0 + ((Int.toNat i) * 1))]?) = (Option.some ((Go.Ab.AV.bool r45), Go.Ab.Tag.no))) ∧
   (((Go.Ab.AV.bool r45), Go.Ab.Tag.no) = ((Go.Ab.AV.bool r6), Go.Ab.Tag.no)))) ∧
   ((∃ r46 : Bool, (((X[(0 + ((Int.toNat i) * 1))]?) = (Option.some ((Go.Ab.AV.bool r46), Go.Ab.Tag.no))) ∧
   (((Go.Ab.AV.bool r46), Go.Ab.Tag.no) = ((Go.Ab.AV.bool r6), Go.Ab.Tag.no)))) ∧
   (((Go.Ab.collect [((Go.Ab.AV.int Go.IntKind.u64 n0), Go.Ab.Tag.no), ((Go.Ab.AV.int Go.IntKind.u64 n1), Go.Ab.Tag.no), ((Go.Ab.AV.int Go.IntKind.u64 n2), Go.Ab.Tag.no), ((Go.Ab.AV.int Go.IntKind.u64 n3), Go.Ab.Tag.no)]) = ((Go.Ab.AV.agg [(Go.Ab.AV.int Go.IntKind.u64 n0), (Go.Ab.AV.int Go.IntKind.u64 n1), (Go.Ab.AV.int Go.IntKind.u64 n2), (Go.Ab.AV.int Go.IntKind.u64 n3)]), (Go.Ab.Tag.agg [Go.Ab.Tag.no, Go.Ab.Tag.no, Go.Ab.Tag.no, Go.Ab.Tag.no]))) ∧
   ((∃ r47 : Bool, (((X[(0 + ((Int.toNat i) * 1))]?) = (Option.some ((Go.Ab.AV.bool r47), Go.Ab.Tag.no))) ∧
   (((Go.Ab.AV.bool r47), Go.Ab.Tag.no) = ((Go.Ab.AV.bool r11), Go.Ab.Tag.no)))) ∧
   ((∃ r48 : Bool, (((X[(0 + ((Int.toNat i) * 1))]?) = (Option.some ((Go.Ab.AV.bool r48), Go.Ab.Tag.no))) ∧
   (((Go.Ab.AV.bool r48), Go.Ab.Tag.no) = ((Go.Ab.AV.bool r11), Go.Ab.Tag.no)))) ∧
   ((Q Go.Ab.Ex.ret (Go.Ab.Fr.mk [U, U, U, ((Go.Ab.AV.ptr 0 0), Go.Ab.Tag.no), U, U, ((Go.Ab.AV.bool Bool.false), Go.Ab.Tag.no), ((Go.Ab.AV.int Go.IntKind.u8 x), Go.Ab.Tag.no), ((Go.Ab.AV.int Go.IntKind.u8 y), Go.Ab.Tag.no), ((Go.Ab.AV.ptr 3 0), Go.Ab.Tag.no), ((Go.Ab.AV.ptr 4 0), Go.Ab.Tag.no), ((Go.Ab.AV.int Go.IntKind.i64 n), Go.Ab.Tag.no), ((Go.Ab.AV.ptr 5 0), Go.Ab.Tag.no), ((Go.Ab.AV.ptr 6 0), Go.Ab.Tag.no), ((Go.Ab.AV.ptr 7 0), Go.Ab.Tag.no), ((Go.Ab.AV.int Go.IntKind.i64 i), Go.Ab.Tag.no), U, U, U, U, U, U, U, U, U, U, U, U, U, U, U, U, U, U, U, ((Go.Ab.AV.bool r0), Go.Ab.Tag.no), U, U, U, U, U, U, U, U, U, U, U, U, ((Go.Ab.AV.agg [(Go.Ab.AV.int Go.IntKind.u64 m0), (Go.Ab.AV.int Go.IntKind.u64 m1), (Go.Ab.AV.int Go.IntKind.u64 m2), (Go.Ab.AV.int Go.IntKind.u64 m3)]), (Go.Ab.Tag.agg [Go.Ab.Tag.no, Go.Ab.Tag.no, Go.Ab.Tag.no, Go.Ab.Tag.no])), ((Go.Ab.AV.int Go.IntKind.u8 r1), Go.Ab.Tag.no), ((Go.Ab.AV.bool x5), Go.Ab.Tag.no), ((Go.Ab.AV.int Go.IntKind.i64 i), Go.Ab.Tag.no), ((Go.Ab.AV.ptr 3 (0 + ((Int.toNat i) * 1))), (Go.Ab.Tag.agg [])), ((Go.Ab.AV.bool r6), Go.Ab.Tag.no), ((Go.Ab.AV.bool Bool.false), Go.Ab.Tag.no), ((Go.Ab.AV.int Go.IntKind.u8 r1), Go.Ab.Tag.no), ((Go.Ab.AV.int Go.IntKind.u8 x), Go.Ab.Tag.no), ((Go.Ab.AV.bool r7), Go.Ab.Tag.no), ((Go.Ab.AV.bool Bool.true), Go.Ab.Tag.no), ((Go.Ab.AV.int Go.IntKind.u8 r1), Go.Ab.Tag.no), ((Go.Ab.AV.int Go.IntKind.u8 y), Go.Ab.Tag.no), ((Go.Ab.AV.bool r8), Go.Ab.Tag.no), ((Go.Ab.AV.bool r8), Go.Ab.Tag.no), ((Go.Ab.AV.bool r8), Go.Ab.Tag.no), ((Go.Ab.AV.bool r9), Go.Ab.Tag.no), U, U, ((Go.Ab.AV.agg [(Go.Ab.AV.int Go.IntKind.u64 n0), (Go.Ab.AV.int Go.IntKind.u64 n1), (Go.Ab.AV.int Go.IntKind.u64 n2), (Go.Ab.AV.int Go.IntKind.u64 n3)]), (Go.Ab.Tag.agg [Go.Ab.Tag.no, Go.Ab.Tag.no, Go.Ab.Tag.no, Go.Ab.Tag.no])), ((Go.Ab.AV.int Go.IntKind.u8 r1), Go.Ab.Tag.no), ((Go.Ab.AV.bool x10), Go.Ab.Tag.no), ((Go.Ab.AV.int Go.IntKind.i64 i), Go.Ab.Tag.no), ((Go.Ab.AV.ptr 3 (0 + ((Int.toNat i) * 1))), (Go.Ab.Tag.agg [])), ((Go.Ab.AV.bool r11), Go.Ab.Tag.no), ((Go.Ab.AV.bool r12), Go.Ab.Tag.no), U, U, ((Go.Ab.AV.tup []), Go.Ab.Tag.no), ((Go.Ab.AV.tup []), Go.Ab.Tag.no), ((Go.Ab.AV.tup []), Go.Ab.Tag.no), ((Go.Ab.AV.tup []), Go.Ab.Tag.no), ((Go.Ab.AV.tup []), Go.Ab.Tag.no), ((Go.Ab.AV.tup []), Go.Ab.Tag.no), ((Go.Ab.AV.tup []), Go.Ab.Tag.no), ((Go.Ab.AV.tup []), Go.Ab.Tag.no), ((Go.Ab.AV.tup []), Go.Ab.Tag.no), ((Go.Ab.AV.tup []), Go.Ab.Tag.no), ((Go.Ab.AV.tup []), Go.Ab.Tag.no), ((Go.Ab.AV.tup []), Go.Ab.Tag.no), ((Go.Ab.AV.bool Bool.true), Go.Ab.Tag.no), U, U, U, U, U, U, U, U, U, U, U, U, U, U, U, U, U, U, U, U, U, U, U, U, U] []) (Go.Ab.St.mk [[((Go.Ab.AV.int Go.IntKind.u64 a0), Go.Ab.Tag.no), ((Go.Ab.AV.int Go.IntKind.u64 a1), Go.Ab.Tag.no), ((Go.Ab.AV.int Go.IntKind.u64 a2), Go.Ab.Tag.no), ((Go.Ab.AV.int Go.IntKind.u64 a3), Go.Ab.Tag.no)], [((Go.Ab.AV.int Go.IntKind.u64 b0), Go.Ab.Tag.no), ((Go.Ab.AV.int Go.IntKind.u64 b1), Go.Ab.Tag.no), ((Go.Ab.AV.int Go.IntKind.u64 b2), Go.Ab.Tag.no), ((Go.Ab.AV.int Go.IntKind.u64 b3), Go.Ab.Tag.no)], [((Go.Ab.AV.int Go.IntKind.u8 x), Go.Ab.Tag.no), ((Go.Ab.AV.int Go.IntKind.u8 y), Go.Ab.Tag.no)], X, Y, [((Go.Ab.AV.int Go.IntKind.u64 m0), Go.Ab.Tag.no), ((Go.Ab.AV.int Go.IntKind.u64 m1), Go.Ab.Tag.no), ((Go.Ab.AV.int Go.IntKind.u64 m2), Go.Ab.Tag.no), ((Go.Ab.AV.int Go.IntKind.u64 m3), Go.Ab.Tag.no)], [((Go.Ab.AV.int Go.IntKind.u64 n0), Go.Ab.Tag.no), ((Go.Ab.AV.int Go.IntKind.u64 n1), Go.Ab.Tag.no), ((Go.Ab.AV.int Go.IntKind.u64 n2), Go.Ab.Tag.no), ((Go.Ab.AV.int Go.IntKind.u64 n3), Go.Ab.Tag.no)], [((Go.Ab.AV.int Go.IntKind.u64 u0), Go.Ab.Tag.no), ((Go.Ab.AV.int Go.IntKind.u64 u1), Go.Ab.Tag.no), ((Go.Ab.AV.int Go.IntKind.u64 u2), Go.Ab.Tag.no), ((Go.Ab.AV.int Go.IntKind.u64 u3), Go.Ab.Tag.no)]] [])) ∧
   True)))))))))))))))))))))) ∧
   True))) ∧
   True)) ∧
   True) ∧
   True)))) ∧
   True) ∧
   True)) ∧
   (Go.Ab.implB r9 Bool.true (True ∧
   (True ∧
   (True ∧
   (True ∧
   (True ∧
   (True ∧
   (True ∧
   (True ∧
   (True ∧
   (True ∧
   (True ∧
   (True ∧
   (True ∧
   (True ∧
   (True ∧
   (((Go.Ab.collect [((Go.Ab.AV.int Go.IntKind.u64 a0), Go.Ab.Tag.no), ((Go.Ab.AV.int Go.IntKind.u64 a1), Go.Ab.Tag.no), ((Go.Ab.AV.int Go.IntKind.u64 a2), Go.Ab.Tag.no), ((Go.Ab.AV.int Go.IntKind.u64 a3), Go.Ab.Tag.no)]) = ((Go.Ab.AV.agg [(Go.Ab.AV.int Go.IntKind.u64 a0), (Go.Ab.AV.int Go.IntKind.u64 a1), (Go.Ab.AV.int Go.IntKind.u64 a2), (Go.Ab.AV.int Go.IntKind.u64 a3)]), (Go.Ab.Tag.agg [Go.Ab.Tag.no, Go.Ab.Tag.no, Go.Ab.Tag.no, Go.Ab.Tag.no]))) ∧
   ((∃ r49 : Bool, (((X[(0 + ((Int.toNat i) * 1))]?) = (Option.some ((Go.Ab.AV.bool r49), Go.Ab.Tag.no))) ∧
   (((Go.Ab.AV.bool r49), Go.Ab.Tag.no) = ((Go.Ab.AV.bool r3), Go.Ab.Tag.no)))) ∧
   ((∃ r50 : Bool, (((X[(0 + ((Int.toNat i) * 1))]?) = (Option.some ((Go.Ab.AV.bool r50), Go.Ab.Tag.no))) ∧
   (((Go.Ab.AV.bool r50), Go.Ab.Tag.no) = ((Go.Ab.AV.bool r3), Go.Ab.Tag.no)))) ∧
   (((Go.Ab.collect [((Go.Ab.AV.int Go.IntKind.u64 m0), Go.Ab.Tag.no), ((Go.Ab.AV.int Go.IntKind.u64 m1), Go.Ab.Tag.no), ((Go.Ab.AV.int Go.IntKind.u64 m2), Go.Ab.Tag.no), ((Go.Ab.AV.int Go.IntKind.u64 m3), Go.Ab.Tag.no)]) = ((Go.Ab.AV.agg [(Go.Ab.AV.int Go.IntKind.u64 m0), (Go.Ab.AV.int Go.IntKind.u64 m1), (Go.Ab.AV.int Go.IntKind.u64 m2), (Go.Ab.AV.int Go.IntKind.u64 m3)]), (Go.Ab.Tag.agg [Go.Ab.Tag.no, Go.Ab.Tag.no, Go.Ab.Tag.no, Go.Ab.Tag.no]))) ∧
   ((∃ r51 : Bool, (((X[(0 + ((Int.toNat i) * 1))]?) = (Option.some ((Go.Ab.AV.bool r51), Go.Ab.Tag.no))) ∧
   (((Go.Ab.AV.bool r51), Go.Ab.Tag.no) = ((Go.Ab.AV.bool r6), Go.Ab.Tag.no)))) ∧
   ((∃ r52 : Bool, (((X[(0 + ((Int.toNat i) * 1))]?) = (Option.some ((Go.Ab.AV.bool r52), Go.Ab.Tag.no))) ∧
   (((Go.Ab.AV.bool r52), Go.Ab.Tag.no) = ((Go.Ab.AV.bool r6), Go.Ab.Tag.no)))) ∧
   ((Q Go.Ab.Ex.ret (Go.Ab.Fr.mk [U, U, U, ((Go.Ab.AV.ptr 0 0), Go.Ab.Tag.no), U, U, ((Go.Ab.AV.bool Bool.false), Go.Ab.Tag.no), ((Go.Ab.AV.int Go.IntKind.u8 x), Go.Ab.Tag.no), ((Go.Ab.AV.int Go.IntKind.u8 y), Go.Ab.Tag.no), ((Go.Ab.AV.ptr 3 0), Go.Ab.Tag.no), ((Go.Ab.AV.ptr 4 0), Go.Ab.Tag.no), ((Go.Ab.AV.int Go.IntKind.i64 n), Go.Ab.Tag.no), ((Go.Ab.AV.ptr 5 0), Go.Ab.Tag.no), ((Go.Ab.AV.ptr 6 0), Go.Ab.Tag.no), ((Go.Ab.AV.ptr 7 0), Go.Ab.Tag.no), ((Go.Ab.AV.int Go.IntKind.i64 i), Go.Ab.Tag.no), U, U, U, U, U, U, U, U, U, U, U, U, U, U, U, U, U, U, U, ((Go.Ab.AV.bool r0), Go.Ab.Tag.no), U, U, U, U, U, U, U, U, U, U, U, U, ((Go.Ab.AV.agg [(Go.Ab.AV.int Go.IntKind.u64 m0), (Go.Ab.AV.int Go.IntKind.u64 m1), (Go.Ab.AV.int Go.IntKind.u64 m2), (Go.Ab.AV.int Go.IntKind.u64 m3)]), (Go.Ab.Tag.agg [Go.Ab.Tag.no, Go.Ab.Tag.no, Go.Ab.Tag.no, Go.Ab.Tag.no])), ((Go.Ab.AV.int Go.IntKind.u8 r1), Go.Ab.Tag.no), ((Go.Ab.AV.bool x5), Go.Ab.Tag.no), ((Go.Ab.AV.int Go.IntKind.i64 i), Go.Ab.Tag.no), ((Go.Ab.AV.ptr 3 (0 + ((Int.toNat i) * 1))), (Go.Ab.Tag.agg [])), ((Go.Ab.AV.bool r6), Go.Ab.Tag.no), ((Go.Ab.AV.bool Bool.false), Go.Ab.Tag.no), ((Go.Ab.AV.int Go.IntKind.u8 r1), Go.Ab.Tag.no), ((Go.Ab.AV.int Go.IntKind.u8 x), Go.Ab.Tag.no), ((Go.Ab.AV.bool r7), Go.Ab.Tag.no), ((Go.Ab.AV.bool Bool.true), Go.Ab.Tag.no), ((Go.Ab.AV.int Go.IntKind.u8 r1), Go.Ab.Tag.no), ((Go.Ab.AV.int Go.IntKind.u8 y), Go.Ab.Tag.no), ((Go.Ab.AV.bool r8), Go.Ab.Tag.no), ((Go.Ab.AV.bool r8), Go.Ab.Tag.no), ((Go.Ab.AV.bool r8), Go.Ab.Tag.no), ((Go.Ab.AV.bool r9), Go.Ab.Tag.no), U, U, ((Go.Ab.AV.tup []), Go.Ab.Tag.no), ((Go.Ab.AV.tup []), Go.Ab.Tag.no), ((Go.Ab.AV.tup []), Go.Ab.Tag.no), ((Go.Ab.AV.tup []), Go.Ab.Tag.no), ((Go.Ab.AV.tup []), Go.Ab.Tag.no), ((Go.Ab.AV.tup []), Go.Ab.Tag.no), ((Go.Ab.AV.tup []), Go.Ab.Tag.no), U, U, ((Go.Ab.AV.tup []), Go.Ab.Tag.no), ((Go.Ab.AV.tup []), Go.Ab.Tag.no), ((Go.Ab.AV.tup []), Go.Ab.Tag.no), ((Go.Ab.AV.tup []), Go.Ab.Tag.no), ((Go.Ab.AV.tup []), Go.Ab.Tag.no), ((Go.Ab.AV.tup []), Go.Ab.Tag.no), ((Go.Ab.AV.tup []), Go.Ab.Tag.no), ((Go.Ab.AV.tup []), Go.Ab.Tag.no), ((Go.Ab.AV.tup []), Go.Ab.Tag.no), ((Go.Ab.AV.tup []), Go.Ab.Tag.no), ((Go.Ab.AV.tup []), Go.Ab.Tag.no), ((Go.Ab.AV.tup []), Go.Ab.Tag.no), ((Go.Ab.AV.bool Bool.true), Go.Ab.Tag.no), U, U, U, U, U, U, U, U, U, U, U, U, U, U, U, U, U, U, U, U, U, U, U, U, U] []) (Go.Ab.St.mk [[((Go.Ab.AV.int Go.IntKind.u64 a0), Go.Ab.Tag.no), ((Go.Ab.AV.int Go.IntKind.u64 a1), Go.Ab.Tag.no), ((Go.Ab.AV.int Go.IntKind.u64 a2), Go.Ab.Tag.no), ((Go.Ab.AV.int Go.IntKind.u64 a3), Go.Ab.Tag.no)], [((Go.Ab.AV.int Go.IntKind.u64 b0), Go.Ab.Tag.no), ((Go.Ab.AV.int Go.IntKind.u64 b1), Go.Ab.Tag.no), ((Go.Ab.AV.int Go.IntKind.u64 b2), Go.Ab.Tag.no), ((Go.Ab.AV.int Go.IntKind.u64 b3), Go.Ab.Tag.no)], [((Go.Ab.AV.int Go.IntKind.u8 x), Go.Ab.Tag.no), ((Go.Ab.AV.int Go.IntKind.u8 y), Go.Ab.Tag.no)], X, Y, [((Go.Ab.AV.int Go.IntKind.u64 m0), Go.Ab.Tag.no), ((Go.Ab.AV.int Go.IntKind.u64 m1), Go.Ab.Tag.no), ((Go.Ab.AV.int Go.IntKind.u64 m2), Go.Ab.Tag.no), ((Go.Ab.AV.int Go.IntKind.u64 m3), Go.Ab.Tag.no)], [((Go.Ab.AV.int Go.IntKind.u64 n0), Go.Ab.Tag.no), ((Go.Ab.AV.int Go.IntKind.u64 n1), Go.Ab.Tag.no), ((Go.Ab.AV.int Go.IntKind.u64 n2), Go.Ab.Tag.no), ((Go.Ab.AV.int Go.IntKind.u64 n3), Go.Ab.Tag.no)], [((Go.Ab.AV.int Go.IntKind.u64 u0), Go.Ab.Tag.no), ((Go.Ab.AV.int Go.IntKind.u64 u1), Go.Ab.Tag.no), ((Go.Ab.AV.int Go.IntKind.u64 u2), Go.Ab.Tag.no), ((Go.Ab.AV.int Go.IntKind.u64 u3), Go.Ab.Tag.no)]] [])) ∧
   True)))))))))))))))))))))))))) ∧
   True) ∧
   True) ∧
   True))) ∧
   True) ∧
   True)) ∧
   (Go.Ab.implB r7 Bool.false (True ∧
   (True ∧
   ((((∀ (r53 : Bool), ((r53 = (Bool.not (x5 == Bool.false))) →
   ((Go.Ab.implB r53 Bool.false ((((((0 : Int) ≤ r1) ∧
   (r1 < (256 : Int))) ∧
   (∀ (x54 : Bool), ((x54 = (Go.Proofs.Ytdiphholophdcaa.V.hasZ n0 n1 n2 n3 r1)) →
   ((((Go.Ab.inR i 256) ∧
   ((∃ r55 : Bool, (((X[(0 + ((Int.toNat i) * 1))]?) = (Option.some ((Go.Ab.AV.bool r55), Go.Ab.Tag.no))) ∧
   ((∀ (r56 : Bool), ((r56 = (x54 == r55)) →
   ((Go.Ab.implB r56 Bool.false ((((((0 : Int) ≤ r1) ∧
   (r1 < (256 : Int))) ∧
   (∀ (x57 : Bool), ((x57 = (Go.Proofs.Ytdiphholophdcaa.V.hasZ u0 u1 u2 u3 r1)) →
   ((((Go.Ab.inR i 256) ∧
   ((∃ r58 : Bool, (((X[(0 + ((Int.toNat i) * 1))]?) = (Option.some ((Go.Ab.AV.bool r58), Go.Ab.Tag.no))) ∧
   (((Go.Ab.implB r58 Bool.false (((Go.Ab.inR i 256) ∧
   ((∃ r59 : Bool, (((Y[(0 + ((Int.toNat i) * 1))]?) = (Option.some ((Go.Ab.AV.bool r59), Go.Ab.Tag.no))) ∧
   (((∀ (r60 : Bool), ((r60 = (Bool.not (x57 == r59))) →
   (((Go.Ab.collect [((Go.Ab.AV.int Go.IntKind.u64 a0), Go.Ab.Tag.no), ((Go.Ab.AV.int Go.IntKind.u64 a1), Go.Ab.Tag.no), ((Go.Ab.AV.int Go.IntKind.u64 a2), Go.Ab.Tag.no), ((Go.Ab.AV.int Go.IntKind.u64 a3), Go.Ab.Tag.no)]) = ((Go.Ab.AV.agg [(Go.Ab.AV.int Go.IntKind.u64 a0), (Go.Ab.AV.int Go.IntKind.u64 a1), (Go.Ab.AV.int Go.IntKind.u64 a2), (Go.Ab.AV.int Go.IntKind.u64 a3)]), (Go.Ab.Tag.agg [Go.Ab.Tag.no, Go.Ab.Tag.no, Go.Ab.Tag.no, Go.Ab.Tag.no]))) ∧
   ((∃ r61 : Bool, (((X[(0 + ((Int.toNat i) * 1))]?) = (Option.some ((Go.Ab.AV.bool r61), Go.Ab.Tag.no))) ∧
   (((Go.Ab.AV.bool r61), Go.Ab.Tag.no) = ((Go.Ab.AV.bool r3), Go.Ab.Tag.no)))) ∧
   ((∃ r62 : Bool, (((X[(0 + ((Int.toNat i) * 1))]?) = (Option.some ((Go.Ab.AV.bool r62), Go.Ab.Tag.no))) ∧
   (((Go.Ab.AV.bool r62), Go.Ab.Tag.no) = ((Go.Ab.AV.bool r3), Go.Ab.Tag.no)))) ∧
   (((Go.Ab.collect [((Go.Ab.AV.int Go.IntKind.u64 m0), Go.Ab.Tag.no), ((Go.Ab.AV.int Go.IntKind.u64 m1), Go.Ab.Tag.no), ((Go.Ab.AV.int Go.IntKind.u64 m2), Go.Ab.Tag.no), ((Go.Ab.AV.int Go.IntKind.u64 m3), Go.Ab.Tag.no)]) = ((Go.Ab.AV.agg [(Go.Ab.AV.int Go.IntKind.u64 m0), (Go.Ab.AV.int Go.IntKind.u64 m1), (Go.Ab.AV.int Go.IntKind.u64 m2), (Go.Ab.AV.int Go.IntKind.u64 m3)]), (Go.Ab.Tag.agg [Go.Ab.Tag.no, Go.Ab.Tag.no, Go.Ab.Tag.no, Go.Ab.Tag.no]))) ∧
   ((∃ r63 : Bool, (((X[(0 + ((Int.toNat i) * 1))]?) = (Option.some ((Go.Ab.AV.bool r63), Go.Ab.Tag.no))) ∧
   (((Go.Ab.AV.bool r63), Go.Ab.Tag.no) = ((Go.Ab.AV.bool r6), Go.Ab.Tag.no)))) ∧
   ((∃ r64 : Bool, (((X[(0 + ((Int.toNat i) * 1))]?) = (Option.some ((Go.Ab.AV.bool r64), Go.Ab.Tag.no))) ∧
   (((Go.Ab.AV.bool r64), Go.Ab.Tag.no) = ((Go.Ab.AV.bool r6), Go.Ab.Tag.no)))) ∧
   (((Go.Ab.collect [((Go.Ab.AV.int Go.IntKind.u64 n0), Go.Ab.Tag.no), ((Go.Ab.AV.int Go.IntKind.u64 n1), Go.Ab.Tag.no), ((Go.Ab.AV.int Go.IntKind.u64 n2), Go.Ab.Tag.no), ((Go.Ab.AV.int Go.IntKind.u64 n3), Go.Ab.Tag.no)]) = ((Go.Ab.AV.agg [(Go.Ab.AV.int Go.IntKind.u64 n0), (Go.Ab.AV.int Go.IntKind.u64 n1), (Go.Ab.AV.int Go.IntKind.u64 n2), (Go.Ab.AV.int Go.IntKind.u64 n3)]), (Go.Ab.Tag.agg [Go.Ab.Tag.no, Go.Ab.Tag.no, Go.Ab.Tag.no, Go.Ab.Tag.no]))) ∧
   ((∃ r65 : Bool, (((X[(0 + ((Int.toNat i) * 1))]?) = (Option.some ((Go.Ab.AV.bool r65), Go.Ab.Tag.no))) ∧
   (((Go.Ab.AV.bool r65), Go.Ab.Tag.no) = ((Go.Ab.AV.bool r55), Go.Ab.Tag.no)))) ∧
   ((∃ r66 : Bool, (((X[(0 + ((Int.toNat i) * 1))]?) = (Option.some ((Go.Ab.AV.bool r66), Go.Ab.Tag.no))) ∧
   (((Go.Ab.AV.bool r66), Go.Ab.Tag.no) = ((Go.Ab.AV.bool r55), Go.Ab.Tag.no)))) ∧
   (((Go.Ab.collect [((Go.Ab.AV.int Go.IntKind.u64 u0), Go.Ab.Tag.no), ((Go.Ab.AV.int Go.IntKind.u64 u1), Go.Ab.Tag.no), ((Go.Ab.AV.int Go.IntKind.u64 u2), Go.Ab.Tag.no), ((Go.Ab.AV.int Go.IntKind.u64 u3), Go.Ab.Tag.no)]) = ((Go.Ab.AV.agg [(Go.Ab.AV.int Go.IntKind.u64 u0), (Go.Ab.AV.int Go.IntKind.u64 u1), (Go.Ab.AV.int Go.IntKind.u64 u2), (Go.Ab.AV.int Go.IntKind.u64 u3)]), (Go.Ab.Tag.agg [Go.Ab.Tag.no, Go.Ab.Tag.no, Go.Ab.Tag.no, Go.Ab.Tag.no]))) ∧
   ((∃ r67 : Bool, (((X[(0 + ((Int.toNat i) * 1))]?) = (Option.some ((Go.Ab.AV.bool r67), Go.Ab.Tag.no))) ∧
   (((Go.Ab.AV.bool r67), Go.Ab.Tag.no) = ((Go.Ab.AV.bool r58), Go.Ab.Tag.no)))) ∧
   ((∃ r68 : Bool, (((X[(0 + ((Int.toNat i) * 1))]?) = (Option.some ((Go.Ab.AV.bool r68), Go.Ab.Tag.no))) ∧
   (((Go.Ab.AV.bool r68), Go.Ab.Tag.no) = ((Go.Ab.AV.bool r58), Go.Ab.Tag.no)))) ∧
   ((∃ r69 : Bool, (((Y[(0 + ((Int.toNat i) * 1))]?) = (Option.some ((Go.Ab.AV.bool r69), Go.Ab.Tag.no))) ∧
   (((Go.Ab.AV.bool r69), Go.Ab.Tag.no) = ((Go.Ab.AV.bool r59), Go.Ab.Tag.no)))) ∧
   ((Go.Ab.implB r60 Bool.true (Q Go.Ab.Ex.ret (Go.Ab.Fr.mk [U, U, U, ((Go.Ab.AV.ptr 0 0), Go.Ab.Tag.no), U, U, ((Go.Ab.AV.bool Bool.false), Go.Ab.Tag.no), ((Go.Ab.AV.int Go.IntKind.u8 x), Go.Ab.Tag.no), ((Go.Ab.AV.int Go.IntKind.u8 y), Go.Ab.Tag.no), ((Go.Ab.AV.ptr 3 0), Go.Ab.Tag.no), ((Go.Ab.AV.ptr 4 0), Go.Ab.Tag.no), ((Go.Ab.AV.int Go.IntKind.i64 n), Go.Ab.Tag.no), ((Go.Ab.AV.ptr 5 0), Go.Ab.Tag.no), ((Go.Ab.AV.ptr 6 0), Go.Ab.Tag.no), ((Go.Ab.AV.ptr 7 0), Go.Ab.Tag.no), ((Go.Ab.AV.int Go.IntKind.i64 i), Go.Ab.Tag.no), U, U, U, U, U, U, U, U, U, U, U, U, U, U, U, U, U, U, U, ((Go.Ab.AV.bool r0), Go.Ab.Tag.no), U, U, U, U, U, U, U, U, U, U, U, U, ((Go.Ab.AV.agg [(Go.Ab.AV.int Go.IntKind.u64 m0), (Go.Ab.AV.int Go.IntKind.u64 m1), (Go.Ab.AV.int Go.IntKind.u64 m2), (Go.Ab.AV.int Go.IntKind.u64 m3)]), (Go.Ab.Tag.agg [Go.Ab.Tag.no, Go.Ab.Tag.no, Go.Ab.Tag.no, Go.Ab.Tag.no])), ((Go.Ab.AV.int Go.IntKind.u8 r1), Go.Ab.Tag.no), ((Go.Ab.AV.bool x5), Go.Ab.Tag.no), ((Go.Ab.AV.int Go.IntKind.i64 i), Go.Ab.Tag.no), ((Go.Ab.AV.ptr 3 (0 + ((Int.toNat i) * 1))), (Go.Ab.Tag.agg [])), ((Go.Ab.AV.bool r6), Go.Ab.Tag.no), ((Go.Ab.AV.bool Bool.false), Go.Ab.Tag.no), ((Go.Ab.AV.int Go.IntKind.u8 r1), Go.Ab.Tag.no), ((Go.Ab.AV.int Go.IntKind.u8 x), Go.Ab.Tag.no), ((Go.Ab.AV.bool r7), Go.Ab.Tag.no), ((Go.Ab.AV.bool Bool.false), Go.Ab.Tag.no), ((Go.Ab.AV.tup []), Go.Ab.Tag.no), ((Go.Ab.AV.tup []), Go.Ab.Tag.no), ((Go.Ab.AV.tup []), Go.Ab.Tag.no), ((Go.Ab.AV.bool Bool.false), Go.Ab.Tag.no), ((Go.Ab.AV.bool Bool.false), Go.Ab.Tag.no), ((Go.Ab.AV.bool r53), Go.Ab.Tag.no), U, U, ((Go.Ab.AV.agg [(Go.Ab.AV.int Go.IntKind.u64 n0), (Go.Ab.AV.int Go.IntKind.u64 n1), (Go.Ab.AV.int Go.IntKind.u64 n2), (Go.Ab.AV.int Go.IntKind.u64 n3)]), (Go.Ab.Tag.agg [Go.Ab.Tag.no, Go.Ab.Tag.no, Go.Ab.Tag.no, Go.Ab.Tag.no])), ((Go.Ab.AV.int Go.IntKind.u8 r1), Go.Ab.Tag.no), ((Go.Ab.AV.bool x54), Go.Ab.Tag.no), ((Go.Ab.AV.int Go.IntKind.i64 i), Go.Ab.Tag.no), ((Go.Ab.AV.ptr 3 (0 + ((Int.toNat i) * 1))), (Go.Ab.Tag.agg [])), ((Go.Ab.AV.bool r55), Go.Ab.Tag.no), ((Go.Ab.AV.bool r56), Go.Ab.Tag.no), U, U, ((Go.Ab.AV.agg [(Go.Ab.AV.int Go.IntKind.u64 u0), (Go.Ab.AV.int Go.IntKind.u64 u1), (Go.Ab.AV.int Go.IntKind.u64 u2), (Go.Ab.AV.int Go.IntKind.u64 u3)]), (Go.Ab.Tag.agg [Go.Ab.Tag.no, Go.Ab.Tag.no, Go.Ab.Tag.no, Go.Ab.Tag.no])), ((Go.Ab.AV.int Go.IntKind.u8 r1), Go.Ab.Tag.no), ((Go.Ab.AV.bool x57), Go.Ab.Tag.no), ((Go.Ab.AV.int Go.IntKind.i64 i), Go.Ab.Tag.no), ((Go.Ab.AV.ptr 3 (0 + ((Int.toNat i) * 1))), (Go.Ab.Tag.agg [])), ((Go.Ab.AV.bool r58), Go.Ab.Tag.no), ((Go.Ab.AV.bool Bool.false), Go.Ab.Tag.no), ((Go.Ab.AV.int Go.IntKind.i64 i), Go.Ab.Tag.no), ((Go.Ab.AV.ptr 4 (0 + ((Int.toNat i) * 1))), (Go.Ab.Tag.agg [])), ((Go.Ab.AV.bool r59), Go.Ab.Tag.no), ((Go.Ab.AV.bool r59), Go.Ab.Tag.no), ((Go.Ab.AV.bool r60), Go.Ab.Tag.no), ((Go.Ab.AV.bool r60), Go.Ab.Tag.no), U, U, U, U, U, U, U, U, U, U, U, U, U, U, U, U, U, U, U, U, U, U, U, U, U] []) (Go.Ab.St.mk [[((Go.Ab.AV.int Go.IntKind.u64 a0), Go.Ab.Tag.no), ((Go.Ab.AV.int Go.IntKind.u64 a1), Go.Ab.Tag.no), ((Go.Ab.AV.int Go.IntKind.u64 a2), Go.Ab.Tag.no), ((Go.Ab.AV.int Go.IntKind.u64 a3), Go.Ab.Tag.no)], [((Go.Ab.AV.int Go.IntKind.u64 b0), Go.Ab.Tag.no), ((Go.Ab.AV.int Go.IntKind.u64 b1), Go.Ab.Tag.no), ((Go.Ab.AV.int Go.IntKind.u64 b2), Go.Ab.Tag.no), ((Go.Ab.AV.int Go.IntKind.u64 b3), Go.Ab.Tag.no)], [((Go.Ab.AV.int Go.IntKind.u8 x), Go.Ab.Tag.no), ((Go.Ab.AV.int Go.IntKind.u8 y), Go.Ab.Tag.no)], X, Y, [((Go.Ab.AV.int Go.IntKind.u64 m0), Go.Ab.Tag.no), ((Go.Ab.AV.int Go.IntKind.u64 m1), Go.Ab.Tag.no), ((Go.Ab.AV.int Go.IntKind.u64 m2), Go.Ab.Tag.no), ((Go.Ab.AV.int Go.IntKind.u64 m3), Go.Ab.Tag.no)], [((Go.Ab.AV.int Go.IntKind.u64 n0), Go.Ab.Tag.no), ((Go.Ab.AV.int Go.IntKind.u64 n1), Go.Ab.Tag.no), ((Go.Ab.AV.int Go.IntKind.u64 n2), Go.Ab.Tag.no), ((Go.Ab.AV.int Go.IntKind.u64 n3), Go.Ab.Tag.no)], [((Go.Ab.AV.int Go.IntKind.u64 u0), Go.Ab.Tag.no), ((Go.Ab.AV.int Go.IntKind.u64 u1), Go.Ab.Tag.no), ((Go.Ab.AV.int Go.IntKind.u64 u2), Go.Ab.Tag.no), ((Go.Ab.AV.int Go.IntKind.u64 u3), Go.Ab.Tag.no)]] []))) ∧
   (Go.Ab.implB r60 Bool.false ((Go.Ab.inR i 256) ∧
   (∃ r70 : Bool, (((X[(0 + ((Int.toNat i) * 1))]?) = (Option.some ((Go.Ab.AV.bool r70), Go.Ab.Tag.no))) ∧
   ((Go.Ab.implB r70 Bool.true (∀ (r71 : Int), ((r71 = (Go.IntKind.wrap Go.IntKind.i64 (n + (1 : Int)))) →
   (∀ (r72 : Int), ((r72 = (Go.IntKind.wrap Go.IntKind.i64 (i + (1 : Int)))) →
   (Q Go.Ab.Ex.normal (Go.Ab.Fr.mk [U, U, U, ((Go.Ab.AV.ptr 0 0), Go.Ab.Tag.no), U, U, U, ((Go.Ab.AV.int Go.IntKind.u8 x), Go.Ab.Tag.no), ((Go.Ab.AV.int Go.IntKind.u8 y), Go.Ab.Tag.no), ((Go.Ab.AV.ptr 3 0), Go.Ab.Tag.no), ((Go.Ab.AV.ptr 4 0), Go.Ab.Tag.no), ((Go.Ab.AV.int Go.IntKind.i64 r71), Go.Ab.Tag.no), ((Go.Ab.AV.ptr 5 0), Go.Ab.Tag.no), ((Go.Ab.AV.ptr 6 0), Go.Ab.Tag.no), ((Go.Ab.AV.ptr 7 0), Go.Ab.Tag.no), ((Go.Ab.AV.int Go.IntKind.i64 r72), Go.Ab.Tag.no), U, U, U, U, U, U, U, U, U, U, U, U, U, U, U, U, U, U, U, ((Go.Ab.AV.bool r0), Go.Ab.Tag.no), U, U, U, U, U, U, U, U, U, U, U, U, ((Go.Ab.AV.agg [(Go.Ab.AV.int Go.IntKind.u64 m0), (Go.Ab.AV.int Go.IntKind.u64 m1), (Go.Ab.AV.int Go.IntKind.u64 m2), (Go.Ab.AV.int Go.IntKind.u64 m3)]), (Go.Ab.Tag.agg [Go.Ab.Tag.no, Go.Ab.Tag.no, Go.Ab.Tag.no, Go.Ab.Tag.no])), ((Go.Ab.AV.int Go.IntKind.u8 r1), Go.Ab.Tag.no), ((Go.Ab.AV.bool x5), Go.Ab.Tag.no), ((Go.Ab.AV.int Go.IntKind.i64 i), Go.Ab.Tag.no), ((Go.Ab.AV.ptr 3 (0 + ((Int.toNat i) * 1))), (Go.Ab.Tag.agg [])), ((Go.Ab.AV.bool r6), Go.Ab.Tag.no), ((Go.Ab.AV.bool Bool.false), Go.Ab.Tag.no), ((Go.Ab.AV.int Go.IntKind.u8 r1), Go.Ab.Tag.no), ((Go.Ab.AV.int Go.IntKind.u8 x), Go.Ab.Tag.no), ((Go.Ab.AV.bool r7), Go.Ab.Tag.no), ((Go.Ab.AV.bool Bool.false), Go.Ab.Tag.no), ((Go.Ab.AV.tup []), Go.Ab.Tag.no), ((Go.Ab.AV.tup []), Go.Ab.Tag.no), ((Go.Ab.AV.tup []), Go.Ab.Tag.no), ((Go.Ab.AV.bool Bool.false), Go.Ab.Tag.no), ((Go.Ab.AV.bool Bool.false), Go.Ab.Tag.no), ((Go.Ab.AV.bool r53), Go.Ab.Tag.no), U, U, ((Go.Ab.AV.agg [(Go.Ab.AV.int Go.IntKind.u64 n0), (Go.Ab.AV.int Go.IntKind.u64 n1), (Go.Ab.AV.int Go.IntKind.u64 n2), (Go.Ab.AV.int Go.IntKind.u64 n3)]), (Go.Ab.Tag.agg [Go.Ab.Tag.no, Go.Ab.Tag.no, Go.Ab.Tag.no, Go.Ab.Tag.no])), ((Go.Ab.AV.int Go.IntKind.u8 r1), Go.Ab.Tag.no), ((Go.Ab.AV.bool x54), Go.Ab.Tag.no), ((Go.Ab.AV.int Go.IntKind.i64 i), Go.Ab.Tag.no), ((Go.Ab.AV.ptr 3 (0 + ((Int.toNat i) * 1))), (Go.Ab.Tag.agg [])), ((Go.Ab.AV.bool r55), Go.Ab.Tag.no), ((Go.Ab.AV.bool r56), Go.Ab.Tag.no), U, U, ((Go.Ab.AV.agg [(Go.Ab.AV.int Go.IntKind.u64 u0), (Go.Ab.AV.int Go.IntKind.u64 u1), (Go.Ab.AV.int Go.IntKind.u64 u2), (Go.Ab.AV.int Go.IntKind.u64 u3)]), (Go.Ab.Tag.agg [Go.Ab.Tag.no, Go.Ab.Tag.no, Go.Ab.Tag.no, Go.Ab.Tag.no])), ((Go.Ab.AV.int Go.IntKind.u8 r1), Go.Ab.Tag.no), ((Go.Ab.AV.bool x57), Go.Ab.Tag.no), ((Go.Ab.AV.int Go.IntKind.i64 i), Go.Ab.Tag.no), ((Go.Ab.AV.ptr 3 (0 + ((Int.toNat i) * 1))), (Go.Ab.Tag.agg [])), ((Go.Ab.AV.bool r58), Go.Ab.Tag.no), ((Go.Ab.AV.bool Bool.false), Go.Ab.Tag.no), ((Go.Ab.AV.int Go.IntKind.i64 i), Go.Ab.Tag.no), ((Go.Ab.AV.ptr 4 (0 + ((Int.toNat i) * 1))), (Go.Ab.Tag.agg [])), ((Go.Ab.AV.bool r59), Go.Ab.Tag.no), ((Go.Ab.AV.bool r59), Go.Ab.Tag.no), ((Go.Ab.AV.bool r60), Go.Ab.Tag.no), ((Go.Ab.AV.bool r60), Go.Ab.Tag.no), U, U, ((Go.Ab.AV.bool r70), Go.Ab.Tag.no), U, U, U, U, U, U, U, U, U, U, U, U, U, U, U, U, U, U, U, U, U, U] []) (Go.Ab.St.mk [[((Go.Ab.AV.int Go.IntKind.u64 a0), Go.Ab.Tag.no), ((Go.Ab.AV.int Go.IntKind.u64 a1), Go.Ab.Tag.no), ((Go.Ab.AV.int Go.IntKind.u64 a2), Go.Ab.Tag.no), ((Go.Ab.AV.int Go.IntKind.u64 a3), Go.Ab.Tag.no)], [((Go.Ab.AV.int Go.IntKind.u64 b0), Go.Ab.Tag.no), ((Go.Ab.AV.int Go.IntKind.u64 b1), Go.Ab.Tag.no), ((Go.Ab.AV.int Go.IntKind.u64 b2), Go.Ab.Tag.no), ((Go.Ab.AV.int Go.IntKind.u64 b3), Go.Ab.Tag.no)], [((Go.Ab.AV.int Go.IntKind.u8 x), Go.Ab.Tag.no), ((Go.Ab.AV.int Go.IntKind.u8 y), Go.Ab.Tag.no)], X, Y, [((Go.Ab.AV.int Go.IntKind.u64 m0), Go.Ab.Tag.no), ((Go.Ab.AV.int Go.IntKind.u64 m1), Go.Ab.Tag.no), ((Go.Ab.AV.int Go.IntKind.u64 m2), Go.Ab.Tag.no), ((Go.Ab.AV.int Go.IntKind.u64 m3), Go.Ab.Tag.no)], [((Go.Ab.AV.int Go.IntKind.u64 n0), Go.Ab.Tag.no), ((Go.Ab.AV.int Go.IntKind.u64 n1), Go.Ab.Tag.no), ((Go.Ab.AV.int Go.IntKind.u64 n2), Go.Ab.Tag.no), ((Go.Ab.AV.int Go.IntKind.u64 n3), Go.Ab.Tag.no)], [((Go.Ab.AV.int Go.IntKind.u64 u0), Go.Ab.Tag.no), ((Go.Ab.AV.int Go.IntKind.u64 u1), Go.Ab.Tag.no), ((Go.Ab.AV.int Go.IntKind.u64 u2), Go.Ab.Tag.no), ((Go.Ab.AV.int Go.IntKind.u64 u3), Go.Ab.Tag.no)]] []))))))) ∧
   (Go.Ab.implB r70 Bool.false (∀ (r73 : Int), ((r73 = (Go.IntKind.wrap Go.IntKind.i64 (i + (1 : Int)))) →
   (Q Go.Ab.Ex.normal (Go.Ab.Fr.mk [U, U, U, ((Go.Ab.AV.ptr 0 0), Go.Ab.Tag.no), U, U, U, ((Go.Ab.AV.int Go.IntKind.u8 x), Go.Ab.Tag.no), ((Go.Ab.AV.int Go.IntKind.u8 y), Go.Ab.Tag.no), ((Go.Ab.AV.ptr 3 0), Go.Ab.Tag.no), ((Go.Ab.AV.ptr 4 0), Go.Ab.Tag.no), ((Go.Ab.AV.int Go.IntKind.i64 n), Go.Ab.Tag.no), ((Go.Ab.AV.ptr 5 0), Go.Ab.Tag.no), ((Go.Ab.AV.ptr 6 0), Go.Ab.Tag.no), ((Go.Ab.AV.ptr 7 0), Go.Ab.Tag.no), ((Go.Ab.AV.int Go.IntKind.i64 r73), Go.Ab.Tag.no), U, U, U, U, U, U, U, U, U, U, U, U, U, U, U, U, U, U, U, ((Go.Ab.AV.bool r0), Go.Ab.Tag.no), U, U, U, U, U, U, U, U, U, U, U, U, ((Go.Ab.AV.agg [(Go.Ab.AV.int Go.IntKind.u64 m0), (Go.Ab.AV.int Go.IntKind.u64 m1), (Go.Ab.AV.int Go.IntKind.u64 m2), (Go.Ab.AV.int Go.IntKind.u64 m3)]), (Go.Ab.Tag.agg [Go.Ab.Tag.no, Go.Ab.Tag.no, Go.Ab.Tag.no, Go.Ab.Tag.no])), ((Go.Ab.AV.int Go.IntKind.u8 r1), Go.Ab.Tag.no), ((Go.Ab.AV.bool x5), Go.Ab.Tag.no), ((Go.Ab.AV.int Go.IntKind.i64 i), Go.Ab.Tag.no), ((Go.Ab.AV.ptr 3 (0 + ((Int.toNat i) * 1))), (Go.Ab.Tag.agg [])), ((Go.Ab.AV.bool r6), Go.Ab.Tag.no), ((Go.Ab.AV.bool Bool.false), Go.Ab.Tag.no), ((Go.Ab.AV.int Go.IntKind.u8 r1), Go.Ab.Tag.no), ((Go.Ab.AV.int Go.IntKind.u8 x), Go.Ab.Tag.no), ((Go.Ab.AV.bool r7), Go.Ab.Tag.no), ((Go.Ab.AV.bool Bool.false), Go.Ab.Tag.no), ((Go.Ab.AV.tup []), Go.Ab.Tag.no), ((Go.Ab.AV.tup []), Go.Ab.Tag.no), ((Go.Ab.AV.tup []), Go.Ab.Tag.no), ((Go.Ab.AV.bool Bool.false), Go.Ab.Tag.no), ((Go.Ab.AV.bool Bool.false), Go.Ab.Tag.no), ((Go.Ab.AV.bool r53), Go.Ab.Tag.no), U, U, ((Go.Ab.AV.agg [(Go.Ab.AV.int Go.IntKind.u64 n0), (Go.Ab.AV.int Go.IntKind.u64 n1), (Go.Ab.AV.int Go.IntKind.u64 n2), (Go.Ab.AV.int Go.IntKind.u64 n3)]), (Go.Ab.Tag.agg [Go.Ab.Tag.no, Go.Ab.Tag.no, Go.Ab.Tag.no, Go.Ab.Tag.no])), ((Go.Ab.AV.int Go.IntKind.u8 r1), Go.Ab.Tag.no), ((Go.Ab.AV.bool x54), Go.Ab.Tag.no), ((Go.Ab.AV.int Go.IntKind.i64 i), Go.Ab.Tag.no), ((Go.Ab.AV.ptr 3 (0 + ((Int.toNat i) * 1))), (Go.Ab.Tag.agg [])), ((Go.Ab.AV.bool r55), Go.Ab.Tag.no), ((Go.Ab.AV.bool r56), Go.Ab.Tag.no), U, U, ((Go.Ab.AV.agg [(Go.Ab.AV.int Go.IntKind.u64 u0), (Go.Ab.AV.int Go.IntKind.u64 u1), (Go.Ab.AV.int Go.IntKind.u64 u2), (Go.Ab.AV.int Go.IntKind.u64 u3)]), (Go.Ab.Tag.agg [Go.Ab.Tag.no, Go.Ab.Tag.no, Go.Ab.Tag.no, Go.Ab.Tag.no])), ((Go.Ab.AV.int Go.IntKind.u8 r1), Go.Ab.Tag.no), ((Go.Ab.AV.bool x57), Go.Ab.Tag.no), ((Go.Ab.AV.int Go.IntKind.i64 i), Go.Ab.Tag.no), ((Go.Ab.AV.ptr 3 (0 + ((Int.toNat i) * 1))), (Go.Ab.Tag.agg [])), ((Go.Ab.AV.bool r58), Go.Ab.Tag.no), ((Go.Ab.AV.bool Bool.false), Go.Ab.Tag.no), ((Go.Ab.AV.int Go.IntKind.i64 i), Go.Ab.Tag.no), ((Go.Ab.AV.ptr 4 (0 + ((Int.toNat i) * 1))), (Go.Ab.Tag.agg [])), ((Go.Ab.AV.bool r59), Go.Ab.Tag.no), ((Go.Ab.AV.bool r59), Go.Ab.Tag.no), ((Go.Ab.AV.bool r60), Go.Ab.Tag.no), ((Go.Ab.AV.bool r60), Go.Ab.Tag.no), U, U, ((Go.Ab.AV.bool r70), Go.Ab.Tag.no), U, U, U, U, U, U, U, U, U, U, U, U, U, U, U, U, U, U, U, U, U, U] []) (Go.Ab.St.mk [[((Go.Ab.AV.int Go.IntKind.u64 a0), Go.Ab.Tag.no), ((Go.Ab.AV.int Go.IntKind.u64 a1), Go.Ab.Tag.no), ((Go.Ab.AV.int Go.IntKind.u64 a2), Go.Ab.Tag.no), ((Go.Ab.AV.int Go.IntKind.u64 a3), Go.Ab.Tag.no)], [((Go.Ab.AV.int Go.IntKind.u64 b0), Go.Ab.Tag.no), ((Go.Ab.AV.int Go.IntKind.u64 b1), Go.Ab.Tag.no), ((Go.Ab.AV.int Go.IntKind.u64 b2), Go.Ab.Tag.no), ((Go.Ab.AV.int Go.IntKind.u64 b3), Go.Ab.Tag.no)], [((Go.Ab.AV.int Go.IntKind.u8 x), Go.Ab.Tag.no), ((Go.Ab.AV.int Go.IntKind.u8 y), Go.Ab.Tag.no)], X, Y, [((Go.Ab.AV.int Go.IntKind.u64 m0), Go.Ab.Tag.no), ((Go.Ab.AV.int Go.IntKind.u64 m1), Go.Ab.Tag.no), ((Go.Ab.AV.int Go.IntKind.u64 m2), Go.Ab.Tag.no), ((Go.Ab.AV.int Go.IntKind.u64 m3), Go.Ab.Tag.no)], [((Go.Ab.AV.int Go.IntKind.u64 n0), Go.Ab.Tag.no), ((Go.Ab.AV.int Go.IntKind.u64 n1), Go.Ab.Tag.no), ((Go.Ab.AV.int Go.IntKind.u64 n2), Go.Ab.Tag.no), ((Go.Ab.AV.int Go.IntKind.u64 n3), Go.Ab.Tag.no)], [((Go.Ab.AV.int Go.IntKind.u64 u0), Go.Ab.Tag.no), ((Go.Ab.AV.int Go.IntKind.u64 u1), Go.Ab.Tag.no), ((Go.Ab.AV.int Go.IntKind.u64 u2), Go.Ab.Tag.no), ((Go.Ab.AV.int Go.IntKind.u64 u3), Go.Ab.Tag.no)]] [])))))))))))))))))))))))))) ∧
   True) ∧
   True))) ∧
   True)) ∧
   True)) ∧
   (Go.Ab.implB r58 Bool.true (True ∧
   (True ∧
   (((∀ (r74 : Bool), ((r74 = (Bool.not (x57 == Bool.true))) →
   (((Go.Ab.collect [((Go.Ab.AV.int Go.IntKind.u64 a0), Go.Ab.Tag.no), ((Go.Ab.AV.int Go.IntKind.u64 a1), Go.Ab.Tag.no), ((Go.Ab.AV.int Go.IntKind.u64 a2), Go.Ab.Tag.no), ((Go.Ab.AV.int Go.IntKind.u64 a3), Go.Ab.Tag.no)]) = ((Go.Ab.AV.agg [(Go.Ab.AV.int Go.IntKind.u64 a0), (Go.Ab.AV.int Go.IntKind.u64 a1), (Go.Ab.AV.int Go.IntKind.u64 a2), (Go.Ab.AV.int Go.IntKind.u64 a3)]), (Go.Ab.Tag.agg [Go.Ab.Tag.no, Go.Ab.Tag.no, Go.Ab.Tag.no, Go.Ab.Tag.no]))) ∧
   ((∃ r75 : Bool, (((X[(0 + ((Int.toNat i) * 1))]?) = (Option.some ((Go.Ab.AV.bool r75), Go.Ab.Tag.no))) ∧
   (((Go.Ab.AV.bool r75), Go.Ab.Tag.no) = ((Go.Ab.AV.bool r3), Go.Ab.Tag.no)))) ∧
   ((∃ r76 : Bool, (((X[(0 + ((Int.toNat i) * 1))]?) = (Option.some ((Go.Ab.AV.bool r76), Go.Ab.Tag.no))) ∧
   (((Go.Ab.AV.bool r76), Go.Ab.Tag.no) = ((Go.Ab.AV.bool r3), Go.Ab.Tag.no)))) ∧
   (((Go.Ab.collect [((Go.Ab.AV.int Go.IntKind.u64 m0), Go.Ab.Tag.no), ((Go.Ab.AV.int Go.IntKind.u64 m1), Go.Ab.Tag.no), ((Go.Ab.AV.int Go.IntKind.u64 m2), Go.Ab.Tag.no), ((Go.Ab.AV.int Go.IntKind.u64 m3), Go.Ab.Tag.no)]) = ((Go.Ab.AV.agg [(Go.Ab.AV.int Go.IntKind.u64 m0), (Go.Ab.AV.int Go.IntKind.u64 m1), (Go.Ab.AV.int Go.IntKind.u64 m2), (Go.Ab.AV.int Go.IntKind.u64 m3)]), (Go.Ab.Tag.agg [Go.Ab.Tag.no, Go.Ab.Tag.no, Go.Ab.Tag.no, Go.Ab.Tag.no]))) ∧
   ((∃ r77 : Bool, (((X[(0 + ((Int.toNat i) * 1))]?) = (Option.some ((Go.Ab.AV.bool r77), Go.Ab.Tag.no))) ∧
   (((Go.Ab.AV.bool r77), Go.Ab.Tag.no) = ((Go.Ab.AV.bool r6), Go.Ab.Tag.no)))) ∧
   ((∃ r78 : Bool, (((X[(0 + ((Int.toNat i) * 1))]?) = (Option.some ((Go.Ab.AV.bool r78), Go.Ab.Tag.no))) ∧
   (((Go.Ab.AV.bool r78), Go.Ab.Tag.no) = ((Go.Ab.AV.bool r6), Go.Ab.Tag.no)))) ∧
   (((Go.Ab.collect [((Go.Ab.AV.int Go.IntKind.u64 n0), Go.Ab.Tag.no), ((Go.Ab.AV.int Go.IntKind.u64 n1), Go.Ab.Tag.no), ((Go.Ab.AV.int Go.IntKind.u64 n2), Go.Ab.Tag.no), ((Go.Ab.AV.int Go.IntKind.u64 n3), Go.Ab.Tag.no)]) = ((Go.Ab.AV.agg [(Go.Ab.AV.int Go.IntKind.u64 n0), (Go.Ab.AV.int Go.IntKind.u64 n1), (Go.Ab.AV.int Go.IntKind.u64 n2), (Go.Ab.AV.int Go.IntKind.u64 n3)]), (Go.Ab.Tag.agg [Go.Ab.Tag.no, Go.Ab.Tag.no, Go.Ab.Tag.no, Go.Ab.Tag.no]))) ∧
   ((∃ r79 : Bool, (((X[(0 + ((Int.toNat i) * 1))]?) = (Option.some ((Go.Ab.AV.bool r79), Go.Ab.Tag.no))) ∧
   (((Go.Ab.AV.bool r79), Go.Ab.Tag.no) = ((Go.Ab.AV.bool r55), Go.Ab.Tag.no)))) ∧
   ((∃ r80 : Bool, (((X[(0 + ((Int.toNat i) * 1))]?) = (Option.some ((Go.Ab.AV.bool r80), Go.Ab.Tag.no))) ∧
   (((Go.Ab.AV.bool r80), Go.Ab.Tag.no) = ((Go.Ab.AV.bool r55), Go.Ab.Tag.no)))) ∧
   (((Go.Ab.collect [((Go.Ab.AV.int Go.IntKind.u64 u0), Go.Ab.Tag.no), ((Go.Ab.AV.int Go.IntKind.u64 u1), Go.Ab.Tag.no), ((Go.Ab.AV.int Go.IntKind.u64 u2), Go.Ab.Tag.no), ((Go.Ab.AV.int Go.IntKind.u64 u3), Go.Ab.Tag.no)]) = ((Go.Ab.AV.agg [(Go.Ab.AV.int Go.IntKind.u64 u0), (Go.Ab.AV.int Go.IntKind.u64 u1), (Go.Ab.AV.int Go.IntKind.u64 u2), (Go.Ab.AV.int Go.IntKind.u64 u3)]), (Go.Ab.Tag.agg [Go.Ab.Tag.no, Go.Ab.Tag.no, Go.Ab.Tag.no, Go.Ab.Tag.no]))) ∧
   ((∃ r81 : Bool, (((X[(0 + ((Int.toNat i) * 1))]?) = (Option.some ((Go.Ab.AV.bool r81), Go.Ab.Tag.no))) ∧
   (((Go.Ab.AV.bool r81), Go.Ab.Tag.no) = ((Go.Ab.AV.bool r58), Go.Ab.Tag.no)))) ∧
   ((∃ r82 : Bool, (((X[(0 + ((Int.toNat i) * 1))]?) = (Option.some ((Go.Ab.AV.bool r82), Go.Ab.Tag.no))) ∧
   (((Go.Ab.AV.bool r82), Go.Ab.Tag.no) = ((Go.Ab.AV.bool r58), Go.Ab.Tag.no)))) ∧
   ((Go.Ab.implB r74 Bool.true (Q Go.Ab.Ex.ret (Go.Ab.Fr.mk [U, U, U, ((Go.Ab.AV.ptr 0 0), Go.Ab.Tag.no), U, U, ((Go.Ab.AV.bool Bool.false), Go.Ab.Tag.no), ((Go.Ab.AV.int Go.IntKind.u8 x), Go.Ab.Tag.no), ((Go.Ab.AV.int Go.IntKind.u8 y), Go.Ab.Tag.no), ((Go.Ab.AV.ptr 3 0), Go.Ab.Tag.no), ((Go.Ab.AV.ptr 4 0), Go.Ab.Tag.no), ((Go.Ab.AV.int Go.IntKind.i64 n), Go.Ab.Tag.no), ((Go.Ab.AV.ptr 5 0), Go.Ab.Tag.no), ((Go.Ab.AV.ptr 6 0), Go.Ab.Tag.no), ((Go.Ab.AV.ptr 7 0), Go.Ab.Tag.no), ((Go.Ab.AV.int Go.IntKind.i64 i), Go.Ab.Tag.no), U, U, U, U, U, U, U, U, U, U, U, U, U, U, U, U, U, U, U, ((Go.Ab.AV.bool r0), Go.Ab.Tag.no), U, U, U, U, U, U, U, U, U, U, U, U, ((Go.Ab.AV.agg [(Go.Ab.AV.int Go.IntKind.u64 m0), (Go.Ab.AV.int Go.IntKind.u64 m1), (Go.Ab.AV.int Go.IntKind.u64 m2), (Go.Ab.AV.int Go.IntKind.u64 m3)]), (Go.Ab.Tag.agg [Go.Ab.Tag.no, Go.Ab.Tag.no, Go.Ab.Tag.no, Go.Ab.Tag.no])), ((Go.Ab.AV.int Go.IntKind.u8 r1), Go.Ab.Tag.no), ((Go.Ab.AV.bool x5), Go.Ab.Tag.no), ((Go.Ab.AV.int Go.IntKind.i64 i), Go.Ab.Tag.no), ((Go.Ab.AV.ptr 3 (0 + ((Int.toNat i) * 1))), (Go.Ab.Tag.agg [])), ((Go.Ab.AV.bool r6), Go.Ab.Tag.no), ((Go.Ab.AV.bool Bool.false), Go.Ab.Tag.no), ((Go.Ab.AV.int Go.IntKind.u8 r1), Go.Ab.Tag.no), ((Go.Ab.AV.int Go.IntKind.u8 x), Go.Ab.Tag.no), ((Go.Ab.AV.bool r7), Go.Ab.Tag.no), ((Go.Ab.AV.bool Bool.false), Go.Ab.Tag.no), ((Go.Ab.AV.tup []), Go.Ab.Tag.no), ((Go.Ab.AV.tup []), Go.Ab.Tag.no), ((Go.Ab.AV.tup []), Go.Ab.Tag.no), ((Go.Ab.AV.bool Bool.false), Go.Ab.Tag.no), ((Go.Ab.AV.bool Bool.false), Go.Ab.Tag.no), ((Go.Ab.AV.bool r53), Go.Ab.Tag.no), U, U, ((Go.Ab.AV.agg [(Go.Ab.AV.int Go.IntKind.u64 n0), (Go.Ab.AV.int Go.IntKind.u64 n1), (Go.Ab.AV.int Go.IntKind.u64 n2), (Go.Ab.AV.int Go.IntKind.u64 n3)]), (Go.Ab.Tag.agg [Go.Ab.Tag.no, Go.Ab.Tag.no, Go.Ab.Tag.no, Go.Ab.Tag.no])), ((Go.Ab.AV.int Go.IntKind.u8 r1), Go.Ab.Tag.no), ((Go.Ab.AV.bool x54), Go.Ab.Tag.no), ((Go.Ab.AV.int Go.IntKind.i64 i), Go.Ab.Tag.no), ((Go.Ab.AV.ptr 3 (0 + ((Int.toNat i) * 1))), (Go.Ab.Tag.agg [])), ((Go.Ab.AV.bool r55), Go.Ab.Tag.no), ((Go.Ab.AV.bool r56), Go.Ab.Tag.no), U, U, ((Go.Ab.AV.agg [(Go.Ab.AV.int Go.IntKind.u64 u0), (Go.Ab.AV.int Go.IntKind.u64 u1), (Go.Ab.AV.int Go.IntKind.u64 u2), (Go.Ab.AV.int Go.IntKind.u64 u3)]), (Go.Ab.Tag.agg [Go.Ab.Tag.no, Go.Ab.Tag.no, Go.Ab.Tag.no, Go.Ab.Tag.no])), ((Go.Ab.AV.int Go.IntKind.u8 r1), Go.Ab.Tag.no), ((Go.Ab.AV.bool x57), Go.Ab.Tag.no), ((Go.Ab.AV.int Go.IntKind.i64 i), Go.Ab.Tag.no), ((Go.Ab.AV.ptr 3 (0 + ((Int.toNat i) * 1))), (Go.Ab.Tag.agg [])), ((Go.Ab.AV.bool r58), Go.Ab.Tag.no), ((Go.Ab.AV.bool Bool.true), Go.Ab.Tag.no), ((Go.Ab.AV.tup []), Go.Ab.Tag.no), ((Go.Ab.AV.tup []), Go.Ab.Tag.no), ((Go.Ab.AV.tup []), Go.Ab.Tag.no), ((Go.Ab.AV.bool Bool.true), Go.Ab.Tag.no), ((Go.Ab.AV.bool r74), Go.Ab.Tag.no), ((Go.Ab.AV.bool r74), Go.Ab.Tag.no), U, U, U, U, U, U, U, U, U, U, U, U, U, U, U, U, U, U, U, U, U, U, U, U, U] []) (Go.Ab.St.mk [[((Go.Ab.AV.int Go.IntKind.u64 a0), Go.Ab.Tag.no), ((Go.Ab.AV.int Go.IntKind.u64 a1), Go.Ab.Tag.no), ((Go.Ab.AV.int Go.IntKind.u64 a2), Go.Ab.Tag.no), ((Go.Ab.AV.int Go.IntKind.u64 a3), Go.Ab.Tag.no)], [((Go.Ab.AV.int Go.IntKind.u64 b0), Go.Ab.Tag.no), ((Go.Ab.AV.int Go.IntKind.u64 b1), Go.Ab.Tag.no), ((Go.Ab.AV.int Go.IntKind.u64 b2), Go.Ab.Tag.no), ((Go.Ab.AV.int Go.IntKind.u64 b3), Go.Ab.Tag.no)], [((Go.Ab.AV.int Go.IntKind.u8 x), Go.Ab.Tag.no), ((Go.Ab.AV.int Go.IntKind.u8 y), Go.Ab.Tag.no)], X, Y, [((Go.Ab.AV.int Go.IntKind.u64 m0), Go.Ab.Tag.no), ((Go.Ab.AV.int Go.IntKind.u64 m1), Go.Ab.Tag.no), ((Go.Ab.AV.int Go.IntKind.u64 m2), Go.Ab.Tag.no), ((Go.Ab.AV.int Go.IntKind.u64 m3), Go.Ab.Tag.no)], [((Go.Ab.AV.int Go.IntKind.u64 n0), Go.Ab.Tag.no), ((Go.Ab.AV.int Go.IntKind.u64 n1), Go.Ab.Tag.no), ((Go.Ab.AV.int Go.IntKind.u64 n2), Go.Ab.Tag.no), ((Go.Ab.AV.int Go.IntKind.u64 n3), Go.Ab.Tag.no)], [((Go.Ab.AV.int Go.IntKind.u64 u0), Go.Ab.Tag.no), ((Go.Ab.AV.int Go.IntKind.u64 u1), Go.Ab.Tag.no), ((Go.Ab.AV.int Go.IntKind.u64 u2), Go.Ab.Tag.no), ((Go.Ab.AV.int Go.IntKind.u64 u3), Go.Ab.Tag.no)]] []))) ∧
   (Go.Ab.implB r74 Bool.false ((Go.Ab.inR i 256) ∧
   (∃ r83 : Bool, (((X[(0 + ((Int.toNat i) * 1))]?) = (Option.some ((Go.Ab.AV.bool r83), Go.Ab.Tag.no))) ∧
   ((Go.Ab.implB r83 Bool.true (∀ (r84 : Int), ((r84 = (Go.IntKind.wrap Go.IntKind.i64 (n + (1 : Int)))) →
   (∀ (r85 : Int), ((r85 = (Go.IntKind.wrap Go.IntKind.i64 (i + (1 : Int)))) →
   (Q Go.Ab.Ex.normal (Go.Ab.Fr.mk [U, U, U, ((Go.Ab.AV.ptr 0 0), Go.Ab.Tag.no), U, U, U, ((Go.Ab.AV.int Go.IntKind.u8 x), Go.Ab.Tag.no), ((Go.Ab.AV.int Go.IntKind.u8 y), Go.Ab.Tag.no), ((Go.Ab.AV.ptr 3 0), Go.Ab.Tag.no), ((Go.Ab.AV.ptr 4 0), Go.Ab.Tag.no), ((Go.Ab.AV.int Go.IntKind.i64 r84), Go.Ab.Tag.no), ((Go.Ab.AV.ptr 5 0), Go.Ab.Tag.no), ((Go.Ab.AV.ptr 6 0), Go.Ab.Tag.no), ((Go.Ab.AV.ptr 7 0), Go.Ab.Tag.no), ((Go.Ab.AV.int Go.IntKind.i64 r85), Go.Ab.Tag.no), U, U, U, U, U, U, U, U, U, U, U, U, U, U, U, U, U, U, U, ((Go.Ab.AV.bool r0), Go.Ab.Tag.no), U, U, U, U, U, U, U, U, U, U, U, U, ((Go.Ab.AV.agg [(Go.Ab.AV.int Go.IntKind.u64 m0), (Go.Ab.AV.int Go.IntKind.u64 m1), (Go.Ab.AV.int Go.IntKind.u64 m2), (Go.Ab.AV.int Go.IntKind.u64 m3)]), (Go.Ab.Tag.agg [Go.Ab.Tag.no, Go.Ab.Tag.no, Go.Ab.Tag.no, Go.Ab.Tag.no])), ((Go.Ab.AV.int Go.IntKind.u8 r1), Go.Ab.Tag.no), ((Go.Ab.AV.bool x5), Go.Ab.Tag.no), ((Go.Ab.AV.int Go.IntKind.i64 i), Go.Ab.Tag.no), ((Go.Ab.AV.ptr 3 (0 + ((Int.toNat i) * 1))), (Go.Ab.Tag.agg [])), ((Go.Ab.AV.bool r6), Go.Ab.Tag.no), ((Go.Ab.AV.bool Bool.false), Go.Ab.Tag.no), ((Go.Ab.AV.int Go.IntKind.u8 r1), Go.Ab.Tag.no), ((Go.Ab.AV.int Go.IntKind.u8 x), Go.Ab.Tag.no), ((Go.Ab.AV.bool r7), Go.Ab.Tag.no), ((Go.Ab.AV.bool Bool.false), Go.Ab.Tag.no), ((Go.Ab.AV.tup []), Go.Ab.Tag.no), ((Go.Ab.AV.tup []), Go.Ab.Tag.no), ((Go.Ab.AV.tup []), Go.Ab.Tag.no), ((Go.Ab.AV.bool Bool.false), Go.Ab.Tag.no), ((Go.Ab.AV.bool Bool.false), Go.Ab.Tag.no), ((Go.Ab.AV.bool r53), Go.Ab.Tag.no), U, U, ((Go.Ab.AV.agg [(Go.Ab.AV.int Go.IntKind.u64 n0), (Go.Ab.AV.int Go.IntKind.u64 n1), (Go.Ab.AV.int Go.IntKind.u64 n2), (Go.Ab.AV.int Go.IntKind.u64 n3)]), (Go.Ab.Tag.agg [Go.Ab.Tag.no, Go.Ab.Tag.no, Go.Ab.Tag.no, Go.Ab.Tag.no])), ((Go.Ab.AV.int Go.IntKind.u8 r1), Go.Ab.Tag.no), ((Go.Ab.AV.bool x54), Go.Ab.Tag.no), ((Go.Ab.AV.int Go.IntKind.i64 i), Go.Ab.Tag.no), ((Go.Ab.AV.ptr 3 (0 + ((Int.toNat i) * 1))), (Go.Ab.Tag.agg [])), ((Go.Ab.AV.bool r55), Go.Ab.Tag.no), ((Go.Ab.AV.bool r56), Go.Ab.Tag.no), U, U, ((Go.Ab.AV.agg [(Go.Ab.AV.int Go.IntKind.u64 u0), (Go.Ab.AV.int Go.IntKind.u64 u1), (Go.Ab.AV.int Go.IntKind.u64 u2), (Go.Ab.AV.int Go.IntKind.u64 u3)]), (Go.Ab.Tag.agg [Go.Ab.Tag.no, Go.Ab.Tag.no, Go.Ab.Tag.no, Go.Ab.Tag.no])), ((Go.Ab.AV.int Go.IntKind.u8 r1), Go.Ab.Tag.no), ((Go.Ab.AV.bool x57), Go.Ab.Tag.no), ((Go.Ab.AV.int Go.IntKind.i64 i), Go.Ab.Tag.no), ((Go.Ab.AV.ptr 3 (0 + ((Int.toNat i) * 1))), (Go.Ab.Tag.agg [])), ((Go.Ab.AV.bool r58), Go.Ab.Tag.no), ((Go.Ab.AV.bool Bool.true), Go.Ab.Tag.no), ((Go.Ab.AV.tup []), Go.Ab.Tag.no), ((Go.Ab.AV.tup []), Go.Ab.Tag.no), ((Go.Ab.AV.tup []), Go.Ab.Tag.no), ((Go.Ab.AV.bool Bool.true), Go.Ab.Tag.no), ((Go.Ab.AV.bool r74), Go.Ab.Tag.no), ((Go.Ab.AV.bool r74), Go.Ab.Tag.no), U, U, ((Go.Ab.AV.bool r83), Go.Ab.Tag.no), U, U, U, U, U, U, U, U, U, U, U, U, U, U, U, U, U, U, U, U, U, U] []) (Go.Ab.St.mk [[((Go.Ab.AV.int Go.IntKind.u64 a0), Go.Ab.Tag.no), ((Go.Ab.AV.int Go.IntKind.u64 a1), Go.Ab.Tag.no), ((Go.Ab.AV.int Go.IntKind.u64 a2), Go.Ab.Tag.no), ((Go.Ab.AV.int Go.IntKind.u64 a3), Go.Ab.Tag.no)], [((Go.Ab.AV.int Go.IntKind.u64 b0), Go.Ab.Tag.no), ((Go.Ab.AV.int Go.IntKind.u64 b1), Go.Ab.Tag.no), ((Go.Ab.AV.int Go.IntKind.u64 b2), Go.Ab.Tag.no), ((Go.Ab.AV.int Go.IntKind.u64 b3), Go.Ab.Tag.no)], [((Go.Ab.AV.int Go.IntKind.u8 x), Go.Ab.Tag.no), ((Go.Ab.AV.int Go.IntKind.u8 y), Go.Ab.Tag.no)], X, Y, [((Go.Ab.AV.int Go.IntKind.u64 m0), Go.Ab.Tag.no), ((Go.Ab.AV.int Go.IntKind.u64 m1), Go.Ab.Tag.no), ((Go.Ab.AV.int Go.IntKind.u64 m2), Go.Ab.Tag.no), ((Go.Ab.AV.int Go.IntKind.u64 m3), Go.Ab.Tag.no)], [((Go.Ab.AV.int Go.IntKind.u64 n0), Go.Ab.Tag.no), ((Go.Ab.AV.int Go.IntKind.u64 n1), Go.Ab.Tag.no), ((Go.Ab.AV.int Go.IntKind.u64 n2), Go.Ab.Tag.no), ((Go.Ab.AV.int Go.IntKind.u64 n3), Go.Ab.Tag.no)], [((Go.Ab.AV.int Go.IntKind.u64 u0), Go.Ab.Tag.no), ((Go.Ab.AV.int Go.IntKind.u64 u1), Go.Ab.Tag.no), ((Go.Ab.AV.int Go.IntKind.u64 u2), Go.Ab.Tag.no), ((Go.Ab.AV.int Go.IntKind.u64 u3), Go.Ab.Tag.no)]] []))))))) ∧
   (Go.Ab.implB r83 Bool.false (∀ (r86 : Int), ((r86 = (Go.IntKind.wrap Go.IntKind.i64 (i + (1 : Int)))) →
   (Q Go.Ab.Ex.normal (Go.Ab.Fr.mk [U, U, U, ((Go.Ab.AV.ptr 0 0), Go.Ab.Tag.no), U, U, U, ((Go.Ab.AV.int Go.IntKind.u8 x), Go.Ab.Tag.no), ((Go.Ab.AV.int Go.IntKind.u8 y), Go.Ab.Tag.no), ((Go.Ab.AV.ptr 3 0), Go.Ab.Tag.no), ((Go.Ab.AV.ptr 4 0), Go.Ab.Tag.no), ((Go.Ab.AV.int Go.IntKind.i64 n), Go.Ab.Tag.no), ((Go.Ab.AV.ptr 5 0), Go.Ab.Tag.no), ((Go.Ab.AV.ptr 6 0), Go.Ab.Tag.no), ((Go.Ab.AV.ptr 7 0), Go.Ab.Tag.no), ((Go.Ab.AV.int Go.IntKind.i64 r86), Go.Ab.Tag.no), U, U, U, U, U, U, U, U, U, U, U, U, U, U, U, U, U, U, U, ((Go.Ab.AV.bool r0), Go.Ab.Tag.no), U, U, U, U, U, U, U, U, U, U, U, U, ((Go.Ab.AV.agg [(Go.Ab.AV.int Go.IntKind.u64 m0), (Go.Ab.AV.int Go.IntKind.u64 m1), (Go.Ab.AV.int Go.IntKind.u64 m2), (Go.Ab.AV.int Go.IntKind.u64 m3)]), (Go.Ab.Tag.agg [Go.Ab.Tag.no, Go.Ab.Tag.no, Go.Ab.Tag.no, Go.Ab.Tag.no])), ((Go.Ab.AV.int Go.IntKind.u8 r1), Go.Ab.Tag.no), ((Go.Ab.AV.bool x5), Go.Ab.Tag.no), ((Go.Ab.AV.int Go.IntKind.i64 i), Go.Ab.Tag.no), ((Go.Ab.AV.ptr 3 (0 + ((Int.toNat i) * 1))), (Go.Ab.Tag.agg [])), ((Go.Ab.AV.bool r6), Go.Ab.Tag.no), ((Go.Ab.AV.bool Bool.false), Go.Ab.Tag.no), ((Go.Ab.AV.int Go.IntKind.u8 r1), Go.Ab.Tag.no), ((Go.Ab.AV.int Go.IntKind.u8 x), Go.Ab.Tag.no), ((Go.Ab.AV.bool r7), Go.Ab.Tag.no), ((Go.Ab.AV.bool Bool.false), Go.Ab.Tag.no), ((Go.Ab.AV.tup []), Go.Ab.Tag.no), ((Go.Ab.AV.tup []), Go.Ab.Tag.no), ((Go.Ab.AV.tup []), Go.Ab.Tag.no), ((Go.Ab.AV.bool Bool.false), Go.Ab.Tag.no), ((Go.Ab.AV.bool Bool.false), Go.Ab.Tag.no), ((Go.Ab.AV.bool r53), Go.Ab.Tag.no), U, U, ((Go.Ab.AV.agg [(Go.Ab.AV.int Go.IntKind.u64 n0), (Go.Ab.AV.int Go.IntKind.u64 n1), (Go.Ab.AV.int Go.IntKind.u64 n2), (Go.Ab.AV.int Go.IntKind.u64 n3)]), (Go.Ab.Tag.agg [Go.Ab.Tag.no, Go.Ab.Tag.no, Go.Ab.Tag.no, Go.Ab.Tag.no])), ((Go.Ab.AV.int Go.IntKind.u8 r1), Go.Ab.Tag.no), ((Go.Ab.AV.bool x54), Go.Ab.Tag.no), ((Go.Ab.AV.int Go.IntKind.i64 i), Go.Ab.Tag.no), ((Go.Ab.AV.ptr 3 (0 + ((Int.toNat i) * 1))), (Go.Ab.Tag.agg [])), ((Go.Ab.AV.bool r55), Go.Ab.Tag.no), ((Go.Ab.AV.bool r56), Go.Ab.Tag.no), U, U, ((Go.Ab.AV.agg [(Go.Ab.AV.int Go.IntKind.u64 u0), (Go.Ab.AV.int Go.IntKind.u64 u1), (Go.Ab.AV.int Go.IntKind.u64 u2), (Go.Ab.AV.int Go.IntKind.u64 u3)]), (Go.Ab.Tag.agg [Go.Ab.Tag.no, Go.Ab.Tag.no, Go.Ab.Tag.no, Go.Ab.Tag.no])), ((Go.Ab.AV.int Go.IntKind.u8 r1), Go.Ab.Tag.no), ((Go.Ab.AV.bool x57), Go.Ab.Tag.no), ((Go.Ab.AV.int Go.IntKind.i64 i), Go.Ab.Tag.no), ((Go.Ab.AV.ptr 3 (0 + ((Int.toNat i) * 1))), (Go.Ab.Tag.agg [])), ((Go.Ab.AV.bool r58), Go.Ab.Tag.no), ((Go.Ab.AV.bool Bool.true), Go.Ab.Tag.no), ((Go.Ab.AV.tup []), Go.Ab.Tag.no), ((Go.Ab.AV.tup []), Go.Ab.Tag.no), ((Go.Ab.AV.tup []), Go.Ab.Tag.no), ((Go.Ab.AV.bool Bool.true), Go.Ab.Tag.no), ((Go.Ab.AV.bool r74), Go.Ab.Tag.no), ((Go.Ab.AV.bool r74), Go.Ab.Tag.no), U, U, ((Go.Ab.AV.bool r83), Go.Ab.Tag.no), U, U, U, U, U, U, U, U, U, U, U, U, U, U, U, U, U, U, U, U, U, U] []) (Go.Ab.St.mk [[((Go.Ab.AV.int Go.IntKind.u64 a0), Go.Ab.Tag.no), ((Go.Ab.AV.int Go.IntKind.u64 a1), Go.Ab.Tag.no), ((Go.Ab.AV.int Go.IntKind.u64 a2), Go.Ab.Tag.no), ((Go.Ab.AV.int Go.IntKind.u64 a3), Go.Ab.Tag.no)], [((Go.Ab.AV.int Go.IntKind.u64 b0), Go.Ab.Tag.no), ((Go.Ab.AV.int Go.IntKind.u64 b1), Go.Ab.Tag.no), ((Go.Ab.AV.int Go.IntKind.u64 b2), Go.Ab.Tag.no), ((Go.Ab.AV.int Go.IntKind.u64 b3), Go.Ab.Tag.no)], [((Go.Ab.AV.int Go.IntKind.u8 x), Go.Ab.Tag.no), ((Go.Ab.AV.int Go.IntKind.u8 y), Go.Ab.Tag.no)], X, Y, [((Go.Ab.AV.int Go.IntKind.u64 m0), Go.Ab.Tag.no), ((Go.Ab.AV.int Go.IntKind.u64 m1), Go.Ab.Tag.no), ((Go.Ab.AV.int Go.IntKind.u64 m2), Go.Ab.Tag.no), ((Go.Ab.AV.int Go.IntKind.u64 m3), Go.Ab.Tag.no)], [((Go.Ab.AV.int Go.IntKind.u64 n0), Go.Ab.Tag.no), ((Go.Ab.AV.int Go.IntKind.u64 n1), Go.Ab.Tag.no), ((Go.Ab.AV.int Go.IntKind.u64 n2), Go.Ab.Tag.no), ((Go.Ab.AV.int Go.IntKind.u64 n3), Go.Ab.Tag.no)], [((Go.Ab.AV.int Go.IntKind.u64 u0), Go.Ab.Tag.no), ((Go.Ab.AV.int Go.IntKind.u64 u1), Go.Ab.Tag.no), ((Go.Ab.AV.int Go.IntKind.u64 u2), Go.Ab.Tag.no), ((Go.Ab.AV.int Go.IntKind.u64 u3), Go.Ab.Tag.no)]] []))))))))))))))))))))))))) ∧
   True) ∧
   True))))) ∧
   True))) ∧
   True)) ∧
   True) ∧
   True)))) ∧
   True) ∧
   True)) ∧
   (Go.Ab.implB r56 Bool.true (True ∧
   (True ∧
   (True ∧
   (True ∧
   (True ∧
   (True ∧
   (True ∧
   (True ∧
   (((Go.Ab.collect [((Go.Ab.AV.int Go.IntKind.u64 a0), Go.Ab.Tag.no), ((Go.Ab.AV.int Go.IntKind.u64 a1), Go.Ab.Tag.no), ((Go.Ab.AV.int Go.IntKind.u64 a2), Go.Ab.Tag.no), ((Go.Ab.AV.int Go.IntKind.u64 a3), Go.Ab.Tag.no)]) = ((Go.Ab.AV.agg [(Go.Ab.AV.int Go.IntKind.u64 a0), (Go.Ab.AV.int Go.IntKind.u64 a1), (Go.Ab.AV.int Go.IntKind.u64 a2), (Go.Ab.AV.int Go.IntKind.u64 a3)]), (Go.Ab.Tag.agg [Go.Ab.Tag.no, Go.Ab.Tag.no, Go.Ab.Tag.no, Go.Ab.Tag.no]))) ∧
   ((∃ r87 : Bool, (((X[(0 + ((Int.toNat i) * 1))]?) = (Option.some ((Go.Ab.AV.bool r87), Go.Ab.Tag.no))) ∧
   (((Go.Ab.AV.bool r87), Go.Ab.Tag.no) = ((Go.Ab.AV.bool r3), Go.Ab.Tag.no)))) ∧
   ((∃ r88 : Bool, (((X[(0 + ((Int.toNat i) * 1))]?) = (Option.some ((Go.Ab.AV.bool r88), Go.Ab.Tag.no))) ∧
   (((Go.Ab.AV.bool r88), Go.Ab.Tag.no) = ((Go.Ab.AV.bool r3), Go.Ab.Tag.no)))) ∧
   (((Go.Ab.collect [((Go.Ab.AV.int Go.IntKind.u64 m0), Go.Ab.Tag.no), ((Go.Ab.AV.int Go.IntKind.u64 m1), Go.Ab.Tag.no), ((Go.Ab.AV.int Go.IntKind.u64 m2), Go.Ab.Tag.no), ((Go.Ab.AV.int Go.IntKind.u64 m3), Go.Ab.Tag.no)]) = ((Go.Ab.AV.agg [(Go.Ab.AV.int Go.IntKind.u64 m0), (Go.Ab.AV.int Go.IntKind.u64 m1), (Go.Ab.AV.int Go.IntKind.u64 m2), (Go.Ab.AV.int Go.IntKind.u64 m3)]), (Go.Ab.Tag.agg [Go.Ab.Tag.no, Go.Ab.Tag.no, Go.Ab.Tag.no, Go.Ab.Tag.no]))) ∧
   ((∃ r89 : Bool, (((X[(0 + ((Int.toNat i) * 1))]?) = (Option.some ((Go.Ab.AV.bool r89), Go.Ab.Tag.no))) ∧
   (((Go.Ab.AV.bool r89), Go.Ab.Tag.no) = ((Go.Ab.AV.bool r6), Go.Ab.Tag.no)))) ∧
   ((∃ r90 : Bool, (((X[(0 + ((Int.toNat i) * 1))]?) = (Option.some ((Go.Ab.AV.bool r90), Go.Ab.Tag.no))) ∧
   (((Go.Ab.AV.bool r90), Go.Ab.Tag.no) = ((Go.Ab.AV.bool r6), Go.Ab.Tag.no)))) ∧
   (((Go.Ab.collect [((Go.Ab.AV.int Go.IntKind.u64 n0), Go.Ab.Tag.no), ((Go.Ab.AV.int Go.IntKind.u64 n1), Go.Ab.Tag.no), ((Go.Ab.AV.int Go.IntKind.u64 n2), Go.Ab.Tag.no), ((Go.Ab.AV.int Go.IntKind.u64 n3), Go.Ab.Tag.no)]) = ((Go.Ab.AV.agg [(Go.Ab.AV.int Go.IntKind.u64 n0), (Go.Ab.AV.int Go.IntKind.u64 n1), (Go.Ab.AV.int Go.IntKind.u64 n2), (Go.Ab.AV.int Go.IntKind.u64 n3)]), (Go.Ab.Tag.agg [Go.Ab.Tag.no, Go.Ab.Tag.no, Go.Ab.Tag.no, Go.Ab.Tag.no]))) ∧
   ((∃ r91 : Bool, (((X[(0 + ((Int.toNat i) * 1))]?) = (Option.some ((Go.Ab.AV.bool r91), Go.Ab.Tag.no))) ∧
   (((Go.Ab.AV.bool r91), Go.Ab.Tag.no) = ((Go.Ab.AV.bool r55), Go.Ab.Tag.no)))) ∧
   ((∃ r92 : Bool, (((X[(0 + ((Int.toNat i) * 1))]?) = (Option.some ((Go.Ab.AV.bool r92), Go.Ab.Tag.no))) ∧
   (((Go.Ab.AV.bool r92), Go.Ab.Tag.no) = ((Go.Ab.AV.bool r55), Go.Ab.Tag.no)))) ∧
   ((Q Go.Ab.Ex.ret (Go.Ab.Fr.mk [U, U, U, ((Go.Ab.AV.ptr 0 0), Go.Ab.Tag.no), U, U, ((Go.Ab.AV.bool Bool.false), Go.Ab.Tag.no), ((Go.Ab.AV.int Go.IntKind.u8 x), Go.Ab.Tag.no), ((Go.Ab.AV.int Go.IntKind.u8 y), Go.Ab.Tag.no), ((Go.Ab.AV.ptr 3 0), Go.Ab.Tag.no), ((Go.Ab.AV.ptr 4 0), Go.Ab.Tag.no), ((Go.Ab.AV.int Go.IntKind.i64 n), Go.Ab.Tag.no), ((Go.Ab.AV.ptr 5 0), Go.Ab.Tag.no), ((Go.Ab.AV.ptr 6 0), Go.Ab.Tag.no), ((Go.Ab.AV.ptr 7 0), Go.Ab.Tag.no), ((Go.Ab.AV.int Go.IntKind.i64 i), Go.Ab.Tag.no), U, U, U, U, U, U, U, U, U, U, U, U, U, U, U, U, U, U, U, ((Go.Ab.AV.bool r0), Go.Ab.Tag.no), U, U, U, U, U, U, U, U, U, U, U, U, ((Go.Ab.AV.agg [(Go.Ab.AV.int Go.IntKind.u64 m0), (Go.Ab.AV.int Go.IntKind.u64 m1), (Go.Ab.AV.int Go.IntKind.u64 m2), (Go.Ab.AV.int Go.IntKind.u64 m3)]), (Go.Ab.Tag.agg [Go.Ab.Tag.no, Go.Ab.Tag.no, Go.Ab.Tag.no, Go.Ab.Tag.no])), ((Go.Ab.AV.int Go.IntKind.u8 r1), Go.Ab.Tag.no), ((Go.Ab.AV.bool x5), Go.Ab.Tag.no), ((Go.Ab.AV.int Go.IntKind.i64 i), Go.Ab.Tag.no), ((Go.Ab.AV.ptr 3 (0 + ((Int.toNat i) * 1))), (Go.Ab.Tag.agg [])), ((Go.Ab.AV.bool r6), Go.Ab.Tag.no), ((Go.Ab.AV.bool Bool.false), Go.Ab.Tag.no), ((Go.Ab.AV.int Go.IntKind.u8 r1), Go.Ab.Tag.no), ((Go.Ab.AV.int Go.IntKind.u8 x), Go.Ab.Tag.no), ((Go.Ab.AV.bool r7), Go.Ab.Tag.no), ((Go.Ab.AV.bool Bool.false), Go.Ab.Tag.no), ((Go.Ab.AV.tup []), Go.Ab.Tag.no), ((Go.Ab.AV.tup []), Go.Ab.Tag.no), ((Go.Ab.AV.tup []), Go.Ab.Tag.no), ((Go.Ab.AV.bool Bool.false), Go.Ab.Tag.no), ((Go.Ab.AV.bool Bool.false), Go.Ab.Tag.no), ((Go.Ab.AV.bool r53), Go.Ab.Tag.no), U, U, ((Go.Ab.AV.agg [(Go.Ab.AV.int Go.IntKind.u64 n0), (Go.Ab.AV.int Go.IntKind.u64 n1), (Go.Ab.AV.int Go.IntKind.u64 n2), (Go.Ab.AV.int Go.IntKind.u64 n3)]), (Go.Ab.Tag.agg [Go.Ab.Tag.no, Go.Ab.Tag.no, Go.Ab.Tag.no, Go.Ab.Tag.no])), ((Go.Ab.AV.int Go.IntKind.u8 r1), Go.Ab.Tag.no), ((Go.Ab.AV.bool x54), Go.Ab.Tag.no), ((Go.Ab.AV.int Go.IntKind.i64 i), Go.Ab.Tag.no), ((Go.Ab.AV.ptr 3 (0 + ((Int.toNat i) * 1))), (Go.Ab.Tag.agg [])), ((Go.Ab.AV.bool r55), Go.Ab.Tag.no), ((Go.Ab.AV.bool r56), Go.Ab.Tag.no), U, U, ((Go.Ab.AV.tup []), Go.Ab.Tag.no), ((Go.Ab.AV.tup []), Go.Ab.Tag.no), ((Go.Ab.AV.tup []), Go.Ab.Tag.no), ((Go.Ab.AV.tup []), Go.Ab.Tag.no), ((Go.Ab.AV.tup []), Go.Ab.Tag.no), ((Go.Ab.AV.tup []), Go.Ab.Tag.no), ((Go.Ab.AV.tup []), Go.Ab.Tag.no), ((Go.Ab.AV.tup []), Go.Ab.Tag.no), ((Go.Ab.AV.tup []), Go.Ab.Tag.no), ((Go.Ab.AV.tup []), Go.Ab.Tag.no), ((Go.Ab.AV.tup []), Go.Ab.Tag.no), ((Go.Ab.AV.tup []), Go.Ab.Tag.no), ((Go.Ab.AV.bool Bool.true), Go.Ab.Tag.no), U, U, U, U, U, U, U, U, U, U, U, U, U, U, U, U, U, U, U, U, U, U, U, U, U] []) (Go.Ab.St.mk [[((Go.Ab.AV.int Go.IntKind.u64 a0), Go.Ab.Tag.no), ((Go.Ab.AV.int Go.IntKind.u64 a1), Go.Ab.Tag.no), ((Go.Ab.AV.int Go.IntKind.u64 a2), Go.Ab.Tag.no), ((Go.Ab.AV.int Go.IntKind.u64 a3), Go.Ab.Tag.no)], [((Go.Ab.AV.int Go.IntKind.u64 b0), Go.Ab.Tag.no), ((Go.Ab.AV.int Go.IntKind.u64 b1), Go.Ab.Tag.no), ((Go.Ab.AV.int Go.IntKind.u64 b2), Go.Ab.Tag.no), ((Go.Ab.AV.int Go.IntKind.u64 b3), Go.Ab.Tag.no)], [((Go.Ab.AV.int Go.IntKind.u8 x), Go.Ab.Tag.no), ((Go.Ab.AV.int Go.IntKind.u8 y), Go.Ab.Tag.no)], X, Y, [((Go.Ab.AV.int Go.IntKind.u64 m0), Go.Ab.Tag.no), ((Go.Ab.AV.int Go.IntKind.u64 m1), Go.Ab.Tag.no), ((Go.Ab.AV.int Go.IntKind.u64 m2), Go.Ab.Tag.no), ((Go.Ab.AV.int Go.IntKind.u64 m3), Go.Ab.Tag.no)], [((Go.Ab.AV.int Go.IntKind.u64 n0), Go.Ab.Tag.no), ((Go.Ab.AV.int Go.IntKind.u64 n1), Go.Ab.Tag.no), ((Go.Ab.AV.int Go.IntKind.u64 n2), Go.Ab.Tag.no), ((Go.Ab.AV.int Go.IntKind.u64 n3), Go.Ab.Tag.no)], [((Go.Ab.AV.int Go.IntKind.u64 u0), Go.Ab.Tag.no), ((Go.Ab.AV.int Go.IntKind.u64 u1), Go.Ab.Tag.no), ((Go.Ab.AV.int Go.IntKind.u64 u2), Go.Ab.Tag.no), ((Go.Ab.AV.int Go.IntKind.u64 u3), Go.Ab.Tag.no)]] [])) ∧
   True)))))))))))))))))))))) ∧
   True))) ∧
   True)) ∧
   True) ∧
   True)))) ∧
   True) ∧
   True)) ∧
   (Go.Ab.implB r53 Bool.true (True ∧
   (True ∧
   (True ∧
   (True ∧
   (True ∧
   (True ∧
   (True ∧
   (True ∧
   (True ∧
   (True ∧
   (True ∧
   (True ∧
   (True ∧
   (True ∧
   (True ∧
   (((Go.Ab.collect [((Go.Ab.AV.int Go.IntKind.u64 a0), Go.Ab.Tag.no), ((Go.Ab.AV.int Go.IntKind.u64 a1), Go.Ab.Tag.no), ((Go.Ab.AV.int Go.IntKind.u64 a2), Go.Ab.Tag.no), ((Go.Ab.AV.int Go.IntKind.u64 a3), Go.Ab.Tag.no)]) = ((Go.Ab.AV.agg [(Go.Ab.AV.int Go.IntKind.u64 a0), (Go.Ab.AV.int Go.IntKind.u64 a1), (Go.Ab.AV.int Go.IntKind.u64 a2), (Go.Ab.AV.int Go.IntKind.u64 a3)]), (Go.Ab.Tag.agg [Go.Ab.Tag.no, Go.Ab.Tag.no, Go.Ab.Tag.no, Go.Ab.Tag.no]))) ∧
   ((∃ r93 : Bool, (((X[(0 + ((Int.toNat i) * 1))]?) = (Option.some ((Go.Ab.AV.bool r93), Go.Ab.Tag.no))) ∧
   (((Go.Ab.AV.bool r93), Go.Ab.Tag.no) = ((Go.Ab.AV.bool r3), Go.Ab.Tag.no)))) ∧
   ((∃ r94 : Bool, (((X[(0 + ((Int.toNat i) * 1))]?) = (Option.some ((Go.Ab.AV.bool r94), Go.Ab.Tag.no))) ∧
   (((Go.Ab.AV.bool r94), Go.Ab.Tag.no) = ((Go.Ab.AV.bool r3), Go.Ab.Tag.no)))) ∧
   (((Go.Ab.collect [((Go.Ab.AV.int Go.IntKind.u64 m0), Go.Ab.Tag.no), ((Go.Ab.AV.int Go.IntKind.u64 m1), Go.Ab.Tag.no), ((Go.Ab.AV.int Go.IntKind.u64 m2), Go.Ab.Tag.no), ((Go.Ab.AV.int Go.IntKind.u64 m3), Go.Ab.Tag.no)]) = ((Go.Ab.AV.agg [(Go.Ab.AV.int Go.IntKind.u64 m0), (Go.Ab.AV.int Go.IntKind.u64 m1), (Go.Ab.AV.int Go.IntKind.u64 m2), (Go.Ab.AV.int Go.IntKind.u64 m3)]), (Go.Ab.Tag.agg [Go.Ab.Tag.no, Go.Ab.Tag.no, Go.Ab.Tag.no, Go.Ab.Tag.no]))) ∧
   ((∃ r95 : Bool, (((X[(0 + ((Int.toNat i) * 1))]?) = (Option.some ((Go.Ab.AV.bool r95), Go.Ab.Tag.no))) ∧
   (((Go.Ab.AV.bool r95), Go.Ab.Tag.no) = ((Go.Ab.AV.bool r6), Go.Ab.Tag.no)))) ∧
   ((∃ r96 : Bool, (((X[(0 + ((Int.toNat i) * 1))]?) = (Option.some ((Go.Ab.AV.bool r96), Go.Ab.Tag.no))) ∧
   (((Go.Ab.AV.bool r96), Go.Ab.Tag.no) = ((Go.Ab.AV.bool r6), Go.Ab.Tag.no)))) ∧
   ((Q Go.Ab.Ex.ret (Go.Ab.Fr.mk [U, U, U, ((Go.Ab.AV.ptr 0 0), Go.Ab.Tag.no), U, U, ((Go.Ab.AV.bool Bool.false), Go.Ab.Tag.no), ((Go.Ab.AV.int Go.IntKind.u8 x), Go.Ab.Tag.no), ((Go.Ab.AV.int Go.IntKind.u8 y), Go.Ab.Tag.no), ((Go.Ab.AV.ptr 3 0), Go.Ab.Tag.no), ((Go.Ab.AV.ptr 4 0), Go.Ab.Tag.no), ((Go.Ab.AV.int Go.IntKind.i64 n), Go.Ab.Tag.no), ((Go.Ab.AV.ptr 5 0), Go.Ab.Tag.no), ((Go.Ab.AV.ptr 6 0), Go.Ab.Tag.no), ((Go.Ab.AV.ptr 7 0), Go.Ab.Tag.no), ((Go.Ab.AV.int Go.IntKind.i64 i), Go.Ab.Tag.no), U, U, U, U, U, U, U, U, U, U, U, U, U, U, U, U, U, U, U, ((Go.Ab.AV.bool r0), Go.Ab.Tag.no), U, U, U, U, U, U, U, U, U, U, U, U, ((Go.Ab.AV.agg [(Go.Ab.AV.int Go.IntKind.u64 m0), (Go.Ab.AV.int Go.IntKind.u64 m1), (Go.Ab.AV.int Go.IntKind.u64 m2), (Go.Ab.AV.int Go.IntKind.u64 m3)]), (Go.Ab.Tag.agg [Go.Ab.Tag.no, Go.Ab.Tag.no, Go.Ab.Tag.no, Go.Ab.Tag.no])), ((Go.Ab.AV.int Go.IntKind.u8 r1), Go.Ab.Tag.no), ((Go.Ab.AV.bool x5), Go.Ab.Tag.no), ((Go.Ab.AV.int Go.IntKind.i64 i), Go.Ab.Tag.no), ((Go.Ab.AV.ptr 3 (0 + ((Int.toNat i) * 1))), (Go.Ab.Tag.agg [])), ((Go.Ab.AV.bool r6), Go.Ab.Tag.no), ((Go.Ab.AV.bool Bool.false), Go.Ab.Tag.no), ((Go.Ab.AV.int Go.IntKind.u8 r1), Go.Ab.Tag.no), ((Go.Ab.AV.int Go.IntKind.u8 x), Go.Ab.Tag.no), ((Go.Ab.AV.bool r7), Go.Ab.Tag.no), ((Go.Ab.AV.bool Bool.false), Go.Ab.Tag.no), ((Go.Ab.AV.tup []), Go.Ab.Tag.no), ((Go.Ab.AV.tup []), Go.Ab.Tag.no), ((Go.Ab.AV.tup []), Go.Ab.Tag.no), ((Go.Ab.AV.bool Bool.false), Go.Ab.Tag.no), ((Go.Ab.AV.bool Bool.false), Go.Ab.Tag.no), ((Go.Ab.AV.bool r53), Go.Ab.Tag.no), U, U, ((Go.Ab.AV.tup []), Go.Ab.Tag.no), ((Go.Ab.AV.tup []), Go.Ab.Tag.no), ((Go.Ab.AV.tup []), Go.Ab.Tag.no), ((Go.Ab.AV.tup []), Go.Ab.Tag.no), ((Go.Ab.AV.tup []), Go.Ab.Tag.no), ((Go.Ab.AV.tup []), Go.Ab.Tag.no), ((Go.Ab.AV.tup []), Go.Ab.Tag.no), U, U, ((Go.Ab.AV.tup []), Go.Ab.Tag.no), ((Go.Ab.AV.tup []), Go.Ab.Tag.no), ((Go.Ab.AV.tup []), Go.Ab.Tag.no), ((Go.Ab.AV.tup []), Go.Ab.Tag.no), ((Go.Ab.AV.tup []), Go.Ab.Tag.no), ((Go.Ab.AV.tup []), Go.Ab.Tag.no), ((Go.Ab.AV.tup []), Go.Ab.Tag.no), ((Go.Ab.AV.tup []), Go.Ab.Tag.no), ((Go.Ab.AV.tup []), Go.Ab.Tag.no), ((Go.Ab.AV.tup []), Go.Ab.Tag.no), ((Go.Ab.AV.tup []), Go.Ab.Tag.no), ((Go.Ab.AV.tup []), Go.Ab.Tag.no), ((Go.Ab.AV.bool Bool.true), Go.Ab.Tag.no), U, U, U, U, U, U, U, U, U, U, U, U, U, U, U, U, U, U, U, U, U, U, U, U, U] []) (Go.Ab.St.mk [[((Go.Ab.AV.int Go.IntKind.u64 a0), Go.Ab.Tag.no), ((Go.Ab.AV.int Go.IntKind.u64 a1), Go.Ab.Tag.no), ((Go.Ab.AV.int Go.IntKind.u64 a2), Go.Ab.Tag.no), ((Go.Ab.AV.int Go.IntKind.u64 a3), Go.Ab.Tag.no)], [((Go.Ab.AV.int Go.IntKind.u64 b0), Go.Ab.Tag.no), ((Go.Ab.AV.int Go.IntKind.u64 b1), Go.Ab.Tag.no), ((Go.Ab.AV.int Go.IntKind.u64 b2), Go.Ab.Tag.no), ((Go.Ab.AV.int Go.IntKind.u64 b3), Go.Ab.Tag.no)], [((Go.Ab.AV.int Go.IntKind.u8 x), Go.Ab.Tag.no), ((Go.Ab.AV.int Go.IntKind.u8 y), Go.Ab.Tag.no)], X, Y, [((Go.Ab.AV.int Go.IntKind.u64 m0), Go.Ab.Tag.no), ((Go.Ab.AV.int Go.IntKind.u64 m1), Go.Ab.Tag.no), ((Go.Ab.AV.int Go.IntKind.u64 m2), Go.Ab.Tag.no), ((Go.Ab.AV.int Go.IntKind.u64 m3), Go.Ab.Tag.no)], [((Go.Ab.AV.int Go.IntKind.u64 n0), Go.Ab.Tag.no), ((Go.Ab.AV.int Go.IntKind.u64 n1), Go.Ab.Tag.no), ((Go.Ab.AV.int Go.IntKind.u64 n2), Go.Ab.Tag.no), ((Go.Ab.AV.int Go.IntKind.u64 n3), Go.Ab.Tag.no)], [((Go.Ab.AV.int Go.IntKind.u64 u0), Go.Ab.Tag.no), ((Go.Ab.AV.int Go.IntKind.u64 u1), Go.Ab.Tag.no), ((Go.Ab.AV.int Go.IntKind.u64 u2), Go.Ab.Tag.no), ((Go.Ab.AV.int Go.IntKind.u64 u3), Go.Ab.Tag.no)]] [])) ∧
   True)))))))))))))))))))))))))) ∧
   True) ∧
   True) ∧
   True))))) ∧
   True))) ∧
   True) ∧
   True)) ∧
   (Go.Ab.implB r6 Bool.true (True ∧
   (True ∧
   (True ∧
   (True ∧
   (((∀ (r97 : Bool), ((r97 = (Bool.not (x5 == Bool.true))) →
   ((Go.Ab.implB r97 Bool.false ((((((0 : Int) ≤ r1) ∧
   (r1 < (256 : Int))) ∧
   (∀ (x98 : Bool), ((x98 = (Go.Proofs.Ytdiphholophdcaa.V.hasZ n0 n1 n2 n3 r1)) →
   ((((Go.Ab.inR i 256) ∧
   ((∃ r99 : Bool, (((X[(0 + ((Int.toNat i) * 1))]?) = (Option.some ((Go.Ab.AV.bool r99), Go.Ab.Tag.no))) ∧
   ((∀ (r100 : Bool), ((r100 = (x98 == r99)) →
   ((Go.Ab.implB r100 Bool.false ((((((0 : Int) ≤ r1) ∧
   (r1 < (256 : Int))) ∧
   (∀ (x101 : Bool), ((x101 = (Go.Proofs.Ytdiphholophdcaa.V.hasZ u0 u1 u2 u3 r1)) →
   ((((Go.Ab.inR i 256) ∧
   ((∃ r102 : Bool, (((X[(0 + ((Int.toNat i) * 1))]?) = (Option.some ((Go.Ab.AV.bool r102), Go.Ab.Tag.no))) ∧
   (((Go.Ab.implB r102 Bool.false (((Go.Ab.inR i 256) ∧
   ((∃ r103 : Bool, (((Y[(0 + ((Int.toNat i) * 1))]?) = (Option.some ((Go.Ab.AV.bool r103), Go.Ab.Tag.no))) ∧
   (((∀ (r104 : Bool), ((r104 = (Bool.not (x101 == r103))) →
   (((Go.Ab.collect [((Go.Ab.AV.int Go.IntKind.u64 a0), Go.Ab.Tag.no), ((Go.Ab.AV.int Go.IntKind.u64 a1), Go.Ab.Tag.no), ((Go.Ab.AV.int Go.IntKind.u64 a2), Go.Ab.Tag.no), ((Go.Ab.AV.int Go.IntKind.u64 a3), Go.Ab.Tag.no)]) = ((Go.Ab.AV.agg [(Go.Ab.AV.int Go.IntKind.u64 a0), (Go.Ab.AV.int Go.IntKind.u64 a1), (Go.Ab.AV.int Go.IntKind.u64 a2), (Go.Ab.AV.int Go.IntKind.u64 a3)]), (Go.Ab.Tag.agg [Go.Ab.Tag.no, Go.Ab.Tag.no, Go.Ab.Tag.no, Go.Ab.Tag.no]))) ∧
   ((∃ r105 : Bool, (((X[(0 + ((Int.toNat i) * 1))]?) = (Option.some ((Go.Ab.AV.bool r105), Go.Ab.Tag.no))) ∧
   (((Go.Ab.AV.bool r105), Go.Ab.Tag.no) = ((Go.Ab.AV.bool r3), Go.Ab.Tag.no)))) ∧
   ((∃ r106 : Bool, (((X[(0 + ((Int.toNat i) * 1))]?) = (Option.some ((Go.Ab.AV.bool r106), Go.Ab.Tag.no))) ∧
   (((Go.Ab.AV.bool r106), Go.Ab.Tag.no) = ((Go.Ab.AV.bool r3), Go.Ab.Tag.no)))) ∧
   (((Go.Ab.collect [((Go.Ab.AV.int Go.IntKind.u64 m0), Go.Ab.Tag.no), ((Go.Ab.AV.int Go.IntKind.u64 m1), Go.Ab.Tag.no), ((Go.Ab.AV.int Go.IntKind.u64 m2), Go.Ab.Tag.no), ((Go.Ab.AV.int Go.IntKind.u64 m3), Go.Ab.Tag.no)]) = ((Go.Ab.AV.agg [(Go.Ab.AV.int Go.IntKind.u64 m0), (Go.Ab.AV.int Go.IntKind.u64 m1), (Go.Ab.AV.int Go.IntKind.u64 m2), (Go.Ab.AV.int Go.IntKind.u64 m3)]), (Go.Ab.Tag.agg [Go.Ab.Tag.no, Go.Ab.Tag.no, Go.Ab.Tag.no, Go.Ab.Tag.no]))) ∧
   ((∃ r107 : Bool, (((X[(0 + ((Int.toNat i) * 1))]?) = (Option.some ((Go.Ab.AV.bool r107), Go.Ab.Tag.no))) ∧
   (((Go.Ab.AV.bool r107), Go.Ab.Tag.no) = ((Go.Ab.AV.bool r6), Go.Ab.Tag.no)))) ∧
   ((∃ r108 : Bool, (((X[(0 + ((Int.toNat i) * 1))]?) = (Option.some ((Go.Ab.AV.bool r108), Go.Ab.Tag.no))) ∧
   (((Go.Ab.AV.bool r108), Go.Ab.Tag.no) = ((Go.Ab.AV.bool r6), Go.Ab.Tag.no)))) ∧
   (((Go.Ab.collect [((Go.Ab.AV.int Go.IntKind.u64 n0), Go.Ab.Tag.no), ((Go.Ab.AV.int Go.IntKind.u64 n1), Go.Ab.Tag.no), ((Go.Ab.AV.int Go.IntKind.u64 n2), Go.Ab.Tag.no), ((Go.Ab.AV.int Go.IntKind.u64 n3), Go.Ab.Tag.no)]) = ((Go.Ab.AV.agg [(Go.Ab.AV.int Go.IntKind.u64 n0), (Go.Ab.AV.int Go.IntKind.u64 n1), (Go.Ab.AV.int Go.IntKind.u64 n2), (Go.Ab.AV.int Go.IntKind.u64 n3)]), (Go.Ab.Tag.agg [Go.Ab.Tag.no, Go.Ab.Tag.no, Go.Ab.Tag.no, Go.Ab.Tag.no]))) ∧
   ((∃ r109 : Bool, (((X[(0 + ((Int.toNat i) * 1))]?) = (Option.some ((Go.Ab.AV.bool r109), Go.Ab.Tag.no))) ∧
   (((Go.Ab.AV.bool r109), Go.Ab.Tag.no) = ((Go.Ab.AV.bool r99), Go.Ab.Tag.no)))) ∧
   ((∃ r110 : Bool, (((X[(0 + ((Int.toNat i) * 1))]?) = (Option.some ((Go.Ab.AV.bool r110), Go.Ab.Tag.no))) ∧
   (((Go.Ab.AV.bool r110), Go.Ab.Tag.no) = ((Go.Ab.AV.bool r99), Go.Ab.Tag.no)))) ∧
   (((Go.Ab.collect [((Go.Ab.AV.int Go.IntKind.u64 u0), Go.Ab.Tag.no), ((Go.Ab.AV.int Go.IntKind.u64 u1), Go.Ab.Tag.no), ((Go.Ab.AV.int Go.IntKind.u64 u2), Go.Ab.Tag.no), ((Go.Ab.AV.int Go.IntKind.u64 u3), Go.Ab.Tag.no)]) = ((Go.Ab.AV.agg [(Go.Ab.AV.int Go.IntKind.u64 u0), (Go.Ab.AV.int Go.IntKind.u64 u1), (Go.Ab.AV.int Go.IntKind.u64 u2), (Go.Ab.AV.int Go.IntKind.u64 u3)]), (Go.Ab.Tag.agg [Go.Ab.Tag.no, Go.Ab.Tag.no, Go.Ab.Tag.no, Go.Ab.Tag.no]))) ∧
   ((∃ r111 : Bool, (((X[(0 + ((Int.toNat i) * 1))]?) = (Option.some ((Go.Ab.AV.bool r111), Go.Ab.Tag.no))) ∧
   (((Go.Ab.AV.bool r111), Go.Ab.Tag.no) = ((Go.Ab.AV.bool r102), Go.Ab.Tag.no)))) ∧
   ((∃ r112 : Bool, (((X[(0 + ((Int.toNat i) * 1))]?) = (Option.some ((Go.Ab.AV.bool r112), Go.Ab.Tag.no))) ∧
   (((Go.Ab.AV.bool r112), Go.Ab.Tag.no) = ((Go.Ab.AV.bool r102), Go.Ab.Tag.no)))) ∧
   ((∃ r113 : Bool, (((Y[(0 + ((Int.toNat i) * 1))]?) = (Option.some ((Go.Ab.AV.bool r113), Go.Ab.Tag.no))) ∧
   (((Go.Ab.AV.bool r113), Go.Ab.Tag.no) = ((Go.Ab.AV.bool r103), Go.Ab.Tag.no)))) ∧
   ((Go.Ab.implB r104 Bool.true (Q Go.Ab.Ex.ret (Go.Ab.Fr.mk [U, U, U, ((Go.Ab.AV.ptr 0 0), Go.Ab.Tag.no), U, U, ((Go.Ab.AV.bool Bool.false), Go.Ab.Tag.no), ((Go.Ab.AV.int Go.IntKind.u8 x), Go.Ab.Tag.no), ((Go.Ab.AV.int Go.IntKind.u8 y), Go.Ab.Tag.no), ((Go.Ab.AV.ptr 3 0), Go.Ab.Tag.no), ((Go.Ab.AV.ptr 4 0), Go.Ab.Tag.no), ((Go.Ab.AV.int Go.IntKind.i64 n), Go.Ab.Tag.no), ((Go.Ab.AV.ptr 5 0), Go.Ab.Tag.no), ((Go.Ab.AV.ptr 6 0), Go.Ab.Tag.no), ((Go.Ab.AV.ptr 7 0), Go.Ab.Tag.no), ((Go.Ab.AV.int Go.IntKind.i64 i), Go.Ab.Tag.no), U, U, U, U, U, U, U, U, U, U, U, U, U, U, U, U, U, U, U, ((Go.Ab.AV.bool r0), Go.Ab.Tag.no), U, U, U, U, U, U, U, U, U, U, U, U, ((Go.Ab.AV.agg [(Go.Ab.AV.int Go.IntKind.u64 m0), (Go.Ab.AV.int Go.IntKind.u64 m1), (Go.Ab.AV.int Go.IntKind.u64 m2), (Go.Ab.AV.int Go.IntKind.u64 m3)]), (Go.Ab.Tag.agg [Go.Ab.Tag.no, Go.Ab.Tag.no, Go.Ab.Tag.no, Go.Ab.Tag.no])), ((Go.Ab.AV.int Go.IntKind.u8 r1), Go.Ab.Tag.no), ((Go.Ab.AV.bool x5), Go.Ab.Tag.no), ((Go.Ab.AV.int Go.IntKind.i64 i), Go.Ab.Tag.no), ((Go.Ab.AV.ptr 3 (0 + ((Int.toNat i) * 1))), (Go.Ab.Tag.agg [])), ((Go.Ab.AV.bool r6), Go.Ab.Tag.no), ((Go.Ab.AV.bool Bool.true), Go.Ab.Tag.no), ((Go.Ab.AV.tup []), Go.Ab.Tag.no), ((Go.Ab.AV.tup []), Go.Ab.Tag.no), ((Go.Ab.AV.tup []), Go.Ab.Tag.no), ((Go.Ab.AV.tup []), Go.Ab.Tag.no), ((Go.Ab.AV.tup []), Go.Ab.Tag.no), ((Go.Ab.AV.tup []), Go.Ab.Tag.no), ((Go.Ab.AV.tup []), Go.Ab.Tag.no), ((Go.Ab.AV.tup []), Go.Ab.Tag.no), ((Go.Ab.AV.bool Bool.true), Go.Ab.Tag.no), ((Go.Ab.AV.bool r97), Go.Ab.Tag.no), U, U, ((Go.Ab.AV.agg [(Go.Ab.AV.int Go.IntKind.u64 n0), (Go.Ab.AV.int Go.IntKind.u64 n1), (Go.Ab.AV.int Go.IntKind.u64 n2), (Go.Ab.AV.int Go.IntKind.u64 n3)]), (Go.Ab.Tag.agg [Go.Ab.Tag.no, Go.Ab.Tag.no, Go.Ab.Tag.no, Go.Ab.Tag.no])), ((Go.Ab.AV.int Go.IntKind.u8 r1), Go.Ab.Tag.no), ((Go.Ab.AV.bool x98), Go.Ab.Tag.no), ((Go.Ab.AV.int Go.IntKind.i64 i), Go.Ab.Tag.no), ((Go.Ab.AV.ptr 3 (0 + ((Int.toNat i) * 1))), (Go.Ab.Tag.agg [])), ((Go.Ab.AV.bool r99), Go.Ab.Tag.no), ((Go.Ab.AV.bool r100), Go.Ab.Tag.no), U, U, ((Go.Ab.AV.agg [(Go.Ab.AV.int Go.IntKind.u64 u0), (Go.Ab.AV.int Go.IntKind.u64 u1), (Go.Ab.AV.int Go.IntKind.u64 u2), (Go.Ab.AV.int Go.IntKind.u64 u3)]), (Go.Ab.Tag.agg [Go.Ab.Tag.no, Go.Ab.Tag.no, Go.Ab.Tag.no, Go.Ab.Tag.no])), ((Go.Ab.AV.int Go.IntKind.u8 r1), Go.Ab.Tag.no), ((Go.Ab.AV.bool x101), Go.Ab.Tag.no), ((Go.Ab.AV.int Go.IntKind.i64 i), Go.Ab.Tag.no), ((Go.Ab.AV.ptr 3 (0 + ((Int.toNat i) * 1))), (Go.Ab.Tag.agg [])), ((Go.Ab.AV.bool r102), Go.Ab.Tag.no), ((Go.Ab.AV.bool Bool.false), Go.Ab.Tag.no), ((Go.Ab.AV.int Go.IntKind.i64 i), Go.Ab.Tag.no), ((Go.Ab.AV.ptr 4 (0 + ((Int.toNat i) * 1))), (Go.Ab.Tag.agg [])), ((Go.Ab.AV.bool r103), Go.Ab.Tag.no), ((Go.Ab.AV.bool r103), Go.Ab.Tag.no), ((Go.Ab.AV.bool r104), Go.Ab.Tag.no), ((Go.Ab.AV.bool r104), Go.Ab.Tag.no), U, U, U, U, U, U, U, U, U, U, U, U, U, U, U, U, U, U, U, U, U, U, U, U, U] []) (Go.Ab.St.mk [[((Go.Ab.AV.int Go.IntKind.u64 a0), Go.Ab.Tag.no), ((Go.Ab.AV.int Go.IntKind.u64 a1), Go.Ab.Tag.no), ((Go.Ab.AV.int Go.IntKind.u64 a2), Go.Ab.Tag.no), ((Go.Ab.AV.int Go.IntKind.u64 a3), Go.Ab.Tag.no)], [((Go.Ab.AV.int Go.IntKind.u64 b0), Go.Ab.Tag.no), ((Go.Ab.AV.int Go.IntKind.u64 b1), Go.Ab.Tag.no), ((Go.Ab.AV.int Go.IntKind.u64 b2), Go.Ab.Tag.no), ((Go.Ab.AV.int Go.IntKind.u64 b3), Go.Ab.Tag.no)], [((Go.Ab.AV.int Go.IntKind.u8 x), Go.Ab.Tag.no), ((Go.Ab.AV.int Go.IntKind.u8 y), Go.Ab.Tag.no)], X, Y, [((Go.Ab.AV.int Go.IntKind.u64 m0), Go.Ab.Tag.no), ((Go.Ab.AV.int Go.IntKind.u64 m1), Go.Ab.Tag.no), ((Go.Ab.AV.int Go.IntKind.u64 m2), Go.Ab.Tag.no), ((Go.Ab.AV.int Go.IntKind.u64 m3), Go.Ab.Tag.no)], [((Go.Ab.AV.int Go.IntKind.u64 n0), Go.Ab.Tag.no), ((Go.Ab.AV.int Go.IntKind.u64 n1), Go.Ab.Tag.no), ((Go.Ab.AV.int Go.IntKind.u64 n2), Go.Ab.Tag.no), ((Go.Ab.AV.int Go.IntKind.u64 n3), Go.Ab.Tag.no)], [((Go.Ab.AV.int Go.IntKind.u64 u0), Go.Ab.Tag.no), ((Go.Ab.AV.int Go.IntKind.u64 u1), Go.Ab.Tag.no), ((Go.Ab.AV.int Go.IntKind.u64 u2), Go.Ab.Tag.no), ((Go.Ab.AV.int Go.IntKind.u64 u3), Go.Ab.Tag.no)]] []))) ∧
   (Go.Ab.implB r104 Bool.false ((Go.Ab.inR i 256) ∧
   (∃ r114 : Bool, (((X[(0 + ((Int.toNat i) * 1))]?) = (Option.some ((Go.Ab.AV.bool r114), Go.Ab.Tag.no))) ∧
   ((Go.Ab.implB r114 Bool.true (∀ (r115 : Int), ((r115 = (Go.IntKind.wrap Go.IntKind.i64 (n + (1 : Int)))) →
   (∀ (r116 : Int), ((r116 = (Go.IntKind.wrap Go.IntKind.i64 (i + (1 : Int)))) →
   (Q Go.Ab.Ex.normal (Go.Ab.Fr.mk [U, U, U, ((Go.Ab.AV.ptr 0 0), Go.Ab.Tag.no), U, U, U, ((Go.Ab.AV.int Go.IntKind.u8 x), Go.Ab.Tag.no), ((Go.Ab.AV.int Go.IntKind.u8 y), Go.Ab.Tag.no), ((Go.Ab.AV.ptr 3 0), Go.Ab.Tag.no), ((Go.Ab.AV.ptr 4 0), Go.Ab.Tag.no), ((Go.Ab.AV.int Go.IntKind.i64 r115), Go.Ab.Tag.no), ((Go.Ab.AV.ptr 5 0), Go.Ab.Tag.no), ((Go.Ab.AV.ptr 6 0), Go.Ab.Tag.no), ((Go.Ab.AV.ptr 7 0), Go.Ab.Tag.no), ((Go.Ab.AV.int Go.IntKind.i64 r116), Go.Ab.Tag.no), U, U, U, U, U, U, U, U, U, U, U, U, U, U, U, U, U, U, U, ((Go.Ab.AV.bool r0), Go.Ab.Tag.no), U, U, U, U, U, U, U, U, U, U, U, U, ((Go.Ab.AV.agg [(Go.Ab.AV.int Go.IntKind.u64 m0), (Go.Ab.AV.int Go.IntKind.u64 m1), (Go.Ab.AV.int Go.IntKind.u64 m2), (Go.Ab.AV.int Go.IntKind.u64 m3)]), (Go.Ab.Tag.agg [Go.Ab.Tag.no, Go.Ab.Tag.no, Go.Ab.Tag.no, Go.Ab.Tag.no])), ((Go.Ab.AV.int Go.IntKind.u8 r1), Go.Ab.Tag.no), ((Go.Ab.AV.bool x5), Go.Ab.Tag.no), ((Go.Ab.AV.int Go.IntKind.i64 i), Go.Ab.Tag.no), ((Go.Ab.AV.ptr 3 (0 + ((Int.toNat i) * 1))), (Go.Ab.Tag.agg [])), ((Go.Ab.AV.bool r6), Go.Ab.Tag.no), ((Go.Ab.AV.bool Bool.true), Go.Ab.Tag.no), ((Go.Ab.AV.tup []), Go.Ab.Tag.no), ((Go.Ab.AV.tup []), Go.Ab.Tag.no), ((Go.Ab.AV.tup []), Go.Ab.Tag.no), ((Go.Ab.AV.tup []), Go.Ab.Tag.no), ((Go.Ab.AV.tup []), Go.Ab.Tag.no), ((Go.Ab.AV.tup []), Go.Ab.Tag.no), ((Go.Ab.AV.tup []), Go.Ab.Tag.no), ((Go.Ab.AV.tup []), Go.Ab.Tag.no), ((Go.Ab.AV.bool Bool.true), Go.Ab.Tag.no), ((Go.Ab.AV.bool r97), Go.Ab.Tag.no), U, U, ((Go.Ab.AV.agg [(Go.Ab.AV.int Go.IntKind.u64 n0), (Go.Ab.AV.int Go.IntKind.u64 n1), (Go.Ab.AV.int Go.IntKind.u64 n2), (Go.Ab.AV.int Go.IntKind.u64 n3)]), (Go.Ab.Tag.agg [Go.Ab.Tag.no, Go.Ab.Tag.no, Go.Ab.Tag.no, Go.Ab.Tag.no])), ((Go.Ab.AV.int Go.IntKind.u8 r1), Go.Ab.Tag.no), ((Go.Ab.AV.bool x98), Go.Ab.Tag.no), ((Go.Ab.AV.int Go.IntKind.i64 i), Go.Ab.Tag.no), ((Go.Ab.AV.ptr 3 (0 + ((Int.toNat i) * 1))), (Go.Ab.Tag.agg [])), ((Go.Ab.AV.bool r99), Go.Ab.Tag.no), ((Go.Ab.AV.bool r100), Go.Ab.Tag.no), U, U, ((Go.Ab.AV.agg [(Go.Ab.AV.int Go.IntKind.u64 u0), (Go.Ab.AV.int Go.IntKind.u64 u1), (Go.Ab.AV.int Go.IntKind.u64 u2), (Go.Ab.AV.int Go.IntKind.u64 u3)]), (Go.Ab.Tag.agg [Go.Ab.Tag.no, Go.Ab.Tag.no, Go.Ab.Tag.no, Go.Ab.Tag.no])), ((Go.Ab.AV.int Go.IntKind.u8 r1), Go.Ab.Tag.no), ((Go.Ab.AV.bool x101), Go.Ab.Tag.no), ((Go.Ab.AV.int Go.IntKind.i64 i), Go.Ab.Tag.no), ((Go.Ab.AV.ptr 3 (0 + ((Int.toNat i) * 1))), (Go.Ab.Tag.agg [])), ((Go.Ab.AV.bool r102), Go.Ab.Tag.no), ((Go.Ab.AV.bool Bool.false), Go.Ab.Tag.no), ((Go.Ab.AV.int Go.IntKind.i64 i), Go.Ab.Tag.no), ((Go.Ab.AV.ptr 4 (0 + ((Int.toNat i) * 1))), (Go.Ab.Tag.agg [])), ((Go.Ab.AV.bool r103), Go.Ab.Tag.no), ((Go.Ab.AV.bool r103), Go.Ab.Tag.no), ((Go.Ab.AV.bool r104), Go.Ab.Tag.no), ((Go.Ab.AV.bool r104), Go.Ab.Tag.no), U, U, ((Go.Ab.AV.bool r114), Go.Ab.Tag.no), U, U, U, U, U, U, U, U, U, U, U, U, U, U, U, U, U, U, U, U, U, U] []) (Go.Ab.St.mk [[((Go.Ab.AV.int Go.IntKind.u64 a0), Go.Ab.Tag.no), ((Go.Ab.AV.int Go.IntKind.u64 a1), Go.Ab.Tag.no), ((Go.Ab.AV.int Go.IntKind.u64 a2), Go.Ab.Tag.no), ((Go.Ab.AV.int Go.IntKind.u64 a3), Go.Ab.Tag.no)], [((Go.Ab.AV.int Go.IntKind.u64 b0), Go.Ab.Tag.no), ((Go.Ab.AV.int Go.IntKind.u64 b1), Go.Ab.Tag.no), ((Go.Ab.AV.int Go.IntKind.u64 b2), Go.Ab.Tag.no), ((Go.Ab.AV.int Go.IntKind.u64 b3), Go.Ab.Tag.no)], [((Go.Ab.AV.int Go.IntKind.u8 x), Go.Ab.Tag.no), ((Go.Ab.AV.int Go.IntKind.u8 y), Go.Ab.Tag.no)], X, Y, [((Go.Ab.AV.int Go.IntKind.u64 m0), Go.Ab.Tag.no), ((Go.Ab.AV.int Go.IntKind.u64 m1), Go.Ab.Tag.no), ((Go.Ab.AV.int Go.IntKind.u64 m2), Go.Ab.Tag.no), ((Go.Ab.AV.int Go.IntKind.u64 m3), Go.Ab.Tag.no)], [((Go.Ab.AV.int Go.IntKind.u64 n0), Go.Ab.Tag.no), ((Go.Ab.AV.int Go.IntKind.u64 n1), Go.Ab.Tag.no), ((Go.Ab.AV.int Go.IntKind.u64 n2), Go.Ab.Tag.no), ((Go.Ab.AV.int Go.IntKind.u64 n3), Go.Ab.Tag.no)], [((Go.Ab.AV.int Go.IntKind.u64 u0), Go.Ab.Tag.no), ((Go.Ab.AV.int Go.IntKind.u64 u1), Go.Ab.Tag.no), ((Go.Ab.AV.int Go.IntKind.u64 u2), Go.Ab.Tag.no), ((Go.Ab.AV.int Go.IntKind.u64 u3), Go.Ab.Tag.no)]] []))))))) ∧
   (Go.Ab.implB r114 Bool.false (∀ (r117 : Int), ((r117 = (Go.IntKind.wrap Go.IntKind.i64 (i + (1 : Int)))) →
   (Q Go.Ab.Ex.normal (Go.Ab.Fr.mk [U, U, U, ((Go.Ab.AV.ptr 0 0), Go.Ab.Tag.no), U, U, U, ((Go.Ab.AV.int Go.IntKind.u8 x), Go.Ab.Tag.no), ((Go.Ab.AV.int Go.IntKind.u8 y), Go.Ab.Tag.no), ((Go.Ab.AV.ptr 3 0), Go.Ab.Tag.no), ((Go.Ab.AV.ptr 4 0), Go.Ab.Tag.no), ((Go.Ab.AV.int Go.IntKind.i64 n), Go.Ab.Tag.no), ((Go.Ab.AV.ptr 5 0), Go.Ab.Tag.no), ((Go.Ab.AV.ptr 6 0), Go.Ab.Tag.no), ((Go.Ab.AV.ptr 7 0), Go.Ab.Tag.no), ((Go.Ab.AV.int Go.IntKind.i64 r117), Go.Ab.Tag.no), U, U, U, U, U, U, U, U, U, U, U, U, U, U, U, U, U, U, U, ((Go.Ab.AV.bool r0), Go.Ab.Tag.no), U, U, U, U, U, U, U, U, U, U, U, U, ((Go.Ab.AV.agg [(Go.Ab.AV.int Go.IntKind.u64 m0), (Go.Ab.AV.int Go.IntKind.u64 m1), (Go.Ab.AV.int Go.IntKind.u64 m2), (Go.Ab.AV.int Go.IntKind.u64 m3)]), (Go.Ab.Tag.agg [Go.Ab.Tag.no, Go.Ab.Tag.no, Go.Ab.Tag.no, Go.Ab.Tag.no])), ((Go.Ab.AV.int Go.IntKind.u8 r1), Go.Ab.Tag.no), ((Go.Ab.AV.bool x5), Go.Ab.Tag.no), ((Go.Ab.AV.int Go.IntKind.i64 i), Go.Ab.Tag.no), ((Go.Ab.AV.ptr 3 (0 + ((Int.toNat i) * 1))), (Go.Ab.Tag.agg [])), ((Go.Ab.AV.bool r6), Go.Ab.Tag.no), ((Go.Ab.AV.bool Bool.true), Go.Ab.Tag.no), ((Go.Ab.AV.tup []), Go.Ab.Tag.no), ((Go.Ab.AV.tup []), Go.Ab.Tag.no), ((Go.Ab.AV.tup []), Go.Ab.Tag.no), ((Go.Ab.AV.tup []), Go.Ab.Tag.no), ((Go.Ab.AV.tup []), Go.Ab.Tag.no), ((Go.Ab.AV.tup []), Go.Ab.Tag.no), ((Go.Ab.AV.tup []), Go.Ab.Tag.no), ((Go.Ab.AV.tup []), Go.Ab.Tag.no), ((Go.Ab.AV.bool Bool.true), Go.Ab.Tag.no), ((Go.Ab.AV.bool r97), Go.Ab.Tag.no), U, U, ((Go.Ab.AV.agg [(Go.Ab.AV.int Go.IntKind.u64 n0), (Go.Ab.AV.int Go.IntKind.u64 n1), (Go.Ab.AV.int Go.IntKind.u64 n2), (Go.Ab.AV.int Go.IntKind.u64 n3)]), (Go.Ab.Tag.agg [Go.Ab.Tag.no, Go.Ab.Tag.no, Go.Ab.Tag.no, Go.Ab.Tag.no])), ((Go.Ab.AV.int Go.IntKind.u8 r1), Go.Ab.Tag.no), ((Go.Ab.AV.bool x98), Go.Ab.Tag.no), ((Go.Ab.AV.int Go.IntKind.i64 i), Go.Ab.Tag.no), ((Go.Ab.AV.ptr 3 (0 + ((Int.toNat i) * 1))), (Go.Ab.Tag.agg [])), ((Go.Ab.AV.bool r99), Go.Ab.Tag.no), ((Go.Ab.AV.bool r100), Go.Ab.Tag.no), U, U, ((Go.Ab.AV.agg [(Go.Ab.AV.int Go.IntKind.u64 u0), (Go.Ab.AV.int Go.IntKind.u64 u1), (Go.Ab.AV.int Go.IntKind.u64 u2), (Go.Ab.AV.int Go.IntKind.u64 u3)]), (Go.Ab.Tag.agg [Go.Ab.Tag.no, Go.Ab.Tag.no, Go.Ab.Tag.no, Go.Ab.Tag.no])), ((Go.Ab.AV.int Go.IntKind.u8 r1), Go.Ab.Tag.no), ((Go.Ab.AV.bool x101), Go.Ab.Tag.no), ((Go.Ab.AV.int Go.IntKind.i64 i), Go.Ab.Tag.no), ((Go.Ab.AV.ptr 3 (0 + ((Int.toNat i) * 1))), (Go.Ab.Tag.agg [])), ((Go.Ab.AV.bool r102), Go.Ab.Tag.no), ((Go.Ab.AV.bool Bool.false), Go.Ab.Tag.no), ((Go.Ab.AV.int Go.IntKind.i64 i), Go.Ab.Tag.no), ((Go.Ab.AV.ptr 4 (0 + ((Int.toNat i) * 1))), (Go.Ab.Tag.agg [])), ((Go.Ab.AV.bool r103), Go.Ab.Tag.no), ((Go.Ab.AV.bool r103), Go.Ab.Tag.no), ((Go.Ab.AV.bool r104), Go.Ab.Tag.no), ((Go.Ab.AV.bool r104), Go.Ab.Tag.no), U, U, ((Go.Ab.AV.bool r114), Go.Ab.Tag.no), U, U, U, U, U, U, U, U, U, U, U, U, U, U, U, U, U, U, U, U, U, U] []) (Go.Ab.St.mk [[((Go.Ab.AV.int Go.IntKind.u64 a0), Go.Ab.Tag.no), ((Go.Ab.AV.int Go.IntKind.u64 a1), Go.Ab.Tag.no), ((Go.Ab.AV.int Go.IntKind.u64 a2), Go.Ab.Tag.no), ((Go.Ab.AV.int Go.IntKind.u64 a3), Go.Ab.Tag.no)], [((Go.Ab.AV.int Go.IntKind.u64 b0), Go.Ab.Tag.no), ((Go.Ab.AV.int Go.IntKind.u64 b1), Go.Ab.Tag.no), ((Go.Ab.AV.int Go.IntKind.u64 b2), Go.Ab.Tag.no), ((Go.Ab.AV.int Go.IntKind.u64 b3), Go.Ab.Tag.no)], [((Go.Ab.AV.int Go.IntKind.u8 x), Go.Ab.Tag.no), ((Go.Ab.AV.int Go.IntKind.u8 y), Go.Ab.Tag.no)], X, Y, [((Go.Ab.AV.int Go.IntKind.u64 m0), Go.Ab.Tag.no), ((Go.Ab.AV.int Go.IntKind.u64 m1), Go.Ab.Tag.no), ((Go.Ab.AV.int Go.IntKind.u64 m2), Go.Ab.Tag.no), ((Go.Ab.AV.int Go.IntKind.u64 m3), Go.Ab.Tag.no)], [((Go.Ab.AV.int Go.IntKind.u64 n0), Go.Ab.Tag.no), ((Go.Ab.AV.int Go.IntKind.u64 n1), Go.Ab.Tag.no), ((Go.Ab.AV.int Go.IntKind.u64 n2), Go.Ab.Tag.no), ((Go.Ab.AV.int Go.IntKind.u64 n3), Go.Ab.Tag.no)], [((Go.Ab.AV.int Go.IntKind.u64 u0), Go.Ab.Tag.no), ((Go.Ab.AV.int Go.IntKind.u64 u1), Go.Ab.Tag.no), ((Go.Ab.AV.int Go.IntKind.u64 u2), Go.Ab.Tag.no), ((Go.Ab.AV.int Go.IntKind.u64 u3), Go.Ab.Tag.no)]] [])))))))))))))))))))))))))) ∧
   True) ∧
   True))) ∧
   True)) ∧
   True)) ∧
   (Go.Ab.implB r102 Bool.true (True ∧
   (True ∧
   (((∀ (r118 : Bool), ((r118 = (Bool.not (x101 == Bool.true))) →
   (((Go.Ab.collect [((Go.Ab.AV.int Go.IntKind.u64 a0), Go.Ab.Tag.no), ((Go.Ab.AV.int Go.IntKind.u64 a1), Go.Ab.Tag.no), ((Go.Ab.AV.int Go.IntKind.u64 a2), Go.Ab.Tag.no), ((Go.Ab.AV.int Go.IntKind.u64 a3), Go.Ab.Tag.no)]) = ((Go.Ab.AV.agg [(Go.Ab.AV.int Go.IntKind.u64 a0), (Go.Ab.AV.int Go.IntKind.u64 a1), (Go.Ab.AV.int Go.IntKind.u64 a2), (Go.Ab.AV.int Go.IntKind.u64 a3)]), (Go.Ab.Tag.agg [Go.Ab.Tag.no, Go.Ab.Tag.no, Go.Ab.Tag.no, Go.Ab.Tag.no]))) ∧
   ((∃ r119 : Bool, (((X[(0 + ((Int.toNat i) * 1))]?) = (Option.some ((Go.Ab.AV.bool r119), Go.Ab.Tag.no))) ∧
   (((Go.Ab.AV.bool r119), Go.Ab.Tag.no) = ((Go.Ab.AV.bool r3), Go.Ab.Tag.no)))) ∧
   ((∃ r120 : Bool, (((X[(0 + ((Int.toNat i) * 1))]?) = (Option.some ((Go.Ab.AV.bool r120), Go.Ab.Tag.no))) ∧
   (((Go.Ab.AV.bool r120), Go.Ab.Tag.no) = ((Go.Ab.AV.bool r3), Go.Ab.Tag.no)))) ∧
   (((Go.Ab.collect [((Go.Ab.AV.int Go.IntKind.u64 m0), Go.Ab.Tag.no), ((Go.Ab.AV.int Go.IntKind.u64 m1), Go.Ab.Tag.no), ((Go.Ab.AV.int Go.IntKind.u64 m2), Go.Ab.Tag.no), ((Go.Ab.AV.int Go.IntKind.u64 m3), Go.Ab.Tag.no)]) = ((Go.Ab.AV.agg [(Go.Ab.AV.int Go.IntKind.u64 m0), (Go.Ab.AV.int Go.IntKind.u64 m1), (Go.Ab.AV.int Go.IntKind.u64 m2), (Go.Ab.AV.int Go.IntKind.u64 m3)]), (Go.Ab.Tag.agg [Go.Ab.Tag.no, Go.Ab.Tag.no, Go.Ab.Tag.no, Go.Ab.Tag.no]))) ∧
   ((∃ r121 : Bool, (((X[(0 + ((Int.toNat i) * 1))]?) = (Option.some ((Go.Ab.AV.bool r121), Go.Ab.Tag.no))) ∧
   (((Go.Ab.AV.bool r121), Go.Ab.Tag.no) = ((Go.Ab.AV.bool r6), Go.Ab.Tag.no)))) ∧
   ((∃ r122 : Bool, (((X[(0 + ((Int.toNat i) * 1))]?) = (Option.some ((Go.Ab.AV.bool r122), Go.Ab.Tag.no))) ∧
   (((Go.Ab.AV.bool r122), Go.Ab.Tag.no) = ((Go.Ab.AV.bool r6), Go.Ab.Tag.no)))) ∧
   (((Go.Ab.collect [((Go.Ab.AV.int Go.IntKind.u64 n0), Go.Ab.Tag.no), ((Go.Ab.AV.int Go.IntKind.u64 n1), Go.Ab.Tag.no), ((Go.Ab.AV.int Go.IntKind.u64 n2), Go.Ab.Tag.no), ((Go.Ab.AV.int Go.IntKind.u64 n3), Go.Ab.Tag.no)]) = ((Go.Ab.AV.agg [(Go.Ab.AV.int Go.IntKind.u64 n0), (Go.Ab.AV.int Go.IntKind.u64 n1), (Go.Ab.AV.int Go.IntKind.u64 n2), (Go.Ab.AV.int Go.IntKind.u64 n3)]), (Go.Ab.Tag.agg [Go.Ab.Tag.no, Go.Ab.Tag.no, Go.Ab.Tag.no, Go.Ab.Tag.no]))) ∧
   ((∃ r123 : Bool, (((X[(0 + ((Int.toNat i) * 1))]?) = (Option.some ((Go.Ab.AV.bool r123), Go.Ab.Tag.no))) ∧
   (((Go.Ab.AV.bool r123), Go.Ab.Tag.no) = ((Go.Ab.AV.bool r99), Go.Ab.Tag.no)))) ∧
   ((∃ r124 : Bool, (((X[(0 + ((Int.toNat i) * 1))]?) = (Option.some ((Go.Ab.AV.bool r124), Go.Ab.Tag.no))) ∧
   (((Go.Ab.AV.bool r124), Go.Ab.Tag.no) = ((Go.Ab.AV.bool r99), Go.Ab.Tag.no)))) ∧
   (((Go.Ab.collect [((Go.Ab.AV.int Go.IntKind.u64 u0), Go.Ab.Tag.no), ((Go.Ab.AV.int Go.IntKind.u64 u1), Go.Ab.Tag.no), ((Go.Ab.AV.int Go.IntKind.u64 u2), Go.Ab.Tag.no), ((Go.Ab.AV.int Go.IntKind.u64 u3), Go.Ab.Tag.no)]) = ((Go.Ab.AV.agg [(Go.Ab.AV.int Go.IntKind.u64 u0), (Go.Ab.AV.int Go.IntKind.u64 u1), (Go.Ab.AV.int Go.IntKind.u64 u2), (Go.Ab.AV.int Go.IntKind.u64 u3)]), (Go.Ab.Tag.agg [Go.Ab.Tag.no, Go.Ab.Tag.no, Go.Ab.Tag.no, Go.Ab.Tag.no]))) ∧
   ((∃ r125 : Bool, (((X[(0 + ((Int.toNat i) * 1))]?) = (Option.some ((Go.Ab.AV.bool r125), Go.Ab.Tag.no))) ∧
   (((Go.Ab.AV.bool r125), Go.Ab.Tag.no) = ((Go.Ab.AV.bool r102), Go.Ab.Tag.no)))) ∧
   ((∃ r126 : Bool, (((X[(0 + ((Int.toNat i) * 1))]?) = (Option.some ((Go.Ab.AV.bool r126), Go.Ab.Tag.no))) ∧
   (((Go.Ab.AV.bool r126), Go.Ab.Tag.no) = ((Go.Ab.AV.bool r102), Go.Ab.Tag.no)))) ∧
   ((Go.Ab.implB r118 Bool.true (Q Go.Ab.Ex.ret (Go.Ab.Fr.mk [U, U, U, ((Go.Ab.AV.ptr 0 0), Go.Ab.Tag.no), U, U, ((Go.Ab.AV.bool Bool.false), Go.Ab.Tag.no), ((Go.Ab.AV.int Go.IntKind.u8 x), Go.Ab.Tag.no), ((Go.Ab.AV.int Go.IntKind.u8 y), Go.Ab.Tag.no), ((Go.Ab.AV.ptr 3 0), Go.Ab.Tag.no), ((Go.Ab.AV.ptr 4 0), Go.Ab.Tag.no), ((Go.Ab.AV.int Go.IntKind.i64 n), Go.Ab.Tag.no), ((Go.Ab.AV.ptr 5 0), Go.Ab.Tag.no), ((Go.Ab.AV.ptr 6 0), Go.Ab.Tag.no), ((Go.Ab.AV.ptr 7 0), Go.Ab.Tag.no), ((Go.Ab.AV.int Go.IntKind.i64 i), Go.Ab.Tag.no), U, U, U, U, U, U, U, U, U, U, U, U, U, U, U, U, U, U, U, ((Go.Ab.AV.bool r0), Go.Ab.Tag.no), U, U, U, U, U, U, U, U, U, U, U, U, ((Go.Ab.AV.agg [(Go.Ab.AV.int Go.IntKind.u64 m0), (Go.Ab.AV.int Go.IntKind.u64 m1), (Go.Ab.AV.int Go.IntKind.u64 m2), (Go.Ab.AV.int Go.IntKind.u64 m3)]), (Go.Ab.Tag.agg [Go.Ab.Tag.no, Go.Ab.Tag.no, Go.Ab.Tag.no, Go.Ab.Tag.no])), ((Go.Ab.AV.int Go.IntKind.u8 r1), Go.Ab.Tag.no), ((Go.Ab.AV.bool x5), Go.Ab.Tag.no), ((Go.Ab.AV.int Go.IntKind.i64 i), Go.Ab.Tag.no), ((Go.Ab.AV.ptr 3 (0 + ((Int.toNat i) * 1))), (Go.Ab.Tag.agg [])), ((Go.Ab.AV.bool r6), Go.Ab.Tag.no), ((Go.Ab.AV.bool Bool.true), Go.Ab.Tag.no), ((Go.Ab.AV.tup []), Go.Ab.Tag.no), ((Go.Ab.AV.tup []), Go.Ab.Tag.no), ((Go.Ab.AV.tup []), Go.Ab.Tag.no), ((Go.Ab.AV.tup []), Go.Ab.Tag.no), ((Go.Ab.AV.tup []), Go.Ab.Tag.no), ((Go.Ab.AV.tup []), Go.Ab.Tag.no), ((Go.Ab.AV.tup []), Go.Ab.Tag.no), ((Go.Ab.AV.tup []), Go.Ab.Tag.no), ((Go.Ab.AV.bool Bool.true), Go.Ab.Tag.no), ((Go.Ab.AV.bool r97), Go.Ab.Tag.no), U, U, ((Go.Ab.AV.agg [(Go.Ab.AV.int Go.IntKind.u64 n0), (Go.Ab.AV.int Go.IntKind.u64 n1), (Go.Ab.AV.int Go.IntKind.u64 n2), (Go.Ab.AV.int Go.IntKind.u64 n3)]), (Go.Ab.Tag.agg [Go.Ab.Tag.no, Go.Ab.Tag.no, Go.Ab.Tag.no, Go.Ab.Tag.no])), ((Go.Ab.AV.int Go.IntKind.u8 r1), Go.Ab.Tag.no), ((Go.Ab.AV.bool x98), Go.Ab.Tag.no), ((Go.Ab.AV.int Go.IntKind.i64 i), Go.Ab.Tag.no), ((Go.Ab.AV.ptr 3 (0 + ((Int.toNat i) * 1))), (Go.Ab.Tag.agg [])), ((Go.Ab.AV.bool r99), Go.Ab.Tag.no), ((Go.Ab.AV.bool r100), Go.Ab.Tag.no), U, U, ((Go.Ab.AV.agg [(Go.Ab.AV.int Go.IntKind.u64 u0), (Go.Ab.AV.int Go.IntKind.u64 u1), (Go.Ab.AV.int Go.IntKind.u64 u2), (Go.Ab.AV.int Go.IntKind.u64 u3)]), (Go.Ab.Tag.agg [Go.Ab.Tag.no, Go.Ab.Tag.no, Go.Ab.Tag.no, Go.Ab.Tag.no])), ((Go.Ab.AV.int Go.IntKind.u8 r1), Go.Ab.Tag.no), ((Go.Ab.AV.bool x101), Go.Ab.Tag.no), ((Go.Ab.AV.int Go.IntKind.i64 i), Go.Ab.Tag.no), ((Go.Ab.AV.ptr 3 (0 + ((Int.toNat i) * 1))), (Go.Ab.Tag.agg [])), ((Go.Ab.AV.bool r102), Go.Ab.Tag.no), ((Go.Ab.AV.bool Bool.true), Go.Ab.Tag.no), ((Go.Ab.AV.tup []), Go.Ab.Tag.no), ((Go.Ab.AV.tup []), Go.Ab.Tag.no), ((Go.Ab.AV.tup []), Go.Ab.Tag.no), ((Go.Ab.AV.bool Bool.true), Go.Ab.Tag.no), ((Go.Ab.AV.bool r118), Go.Ab.Tag.no), ((Go.Ab.AV.bool r118), Go.Ab.Tag.no), U, U, U, U, U, U, U, U, U, U, U, U, U, U, U, U, U, U, U, U, U, U, U, U, U] []) (Go.Ab.St.mk [[((Go.Ab.AV.int Go.IntKind.u64 a0), Go.Ab.Tag.no), ((Go.Ab.AV.int Go.IntKind.u64 a1), Go.Ab.Tag.no), ((Go.Ab.AV.int Go.IntKind.u64 a2), Go.Ab.Tag.no), ((Go.Ab.AV.int Go.IntKind.u64 a3), Go.Ab.Tag.no)], [((Go.Ab.AV.int Go.IntKind.u64 b0), Go.Ab.Tag.no), ((Go.Ab.AV.int Go.IntKind.u64 b1), Go.Ab.Tag.no), ((Go.Ab.AV.int Go.IntKind.u64 b2), Go.Ab.Tag.no), ((Go.Ab.AV.int Go.IntKind.u64 b3), Go.Ab.Tag.no)], [((Go.Ab.AV.int Go.IntKind.u8 x), Go.Ab.Tag.no), ((Go.Ab.AV.int Go.IntKind.u8 y), Go.Ab.Tag.no)], X, Y, [((Go.Ab.AV.int Go.IntKind.u64 m0), Go.Ab.Tag.no), ((Go.Ab.AV.int Go.IntKind.u64 m1), Go.Ab.Tag.no), ((Go.Ab.AV.int Go.IntKind.u64 m2), Go.Ab.Tag.no), ((Go.Ab.AV.int Go.IntKind.u64 m3), Go.Ab.Tag.no)], [((Go.Ab.AV.int Go.IntKind.u64 n0), Go.Ab.Tag.no), ((Go.Ab.AV.int Go.IntKind.u64 n1), Go.Ab.Tag.no), ((Go.Ab.AV.int Go.IntKind.u64 n2), Go.Ab.Tag.no), ((Go.Ab.AV.int Go.IntKind.u64 n3), Go.Ab.Tag.no)], [((Go.Ab.AV.int Go.IntKind.u64 u0), Go.Ab.Tag.no), ((Go.Ab.AV.int Go.IntKind.u64 u1), Go.Ab.Tag.no), ((Go.Ab.AV.int Go.IntKind.u64 u2), Go.Ab.Tag.no), ((Go.Ab.AV.int Go.IntKind.u64 u3), Go.Ab.Tag.no)]] []))) ∧
   (Go.Ab.implB r118 Bool.false ((Go.Ab.inR i 256) ∧
   (∃ r127 : Bool, (((X[(0 + ((Int.toNat i) * 1))]?) = (Option.some ((Go.Ab.AV.bool r127), Go.Ab.Tag.no))) ∧
   ((Go.Ab.implB r127 Bool.true (∀ (r128 : Int), ((r128 = (Go.IntKind.wrap Go.IntKind.i64 (n + (1 : Int)))) →
   (∀ (r129 : Int), ((r129 = (Go.IntKind.wrap Go.IntKind.i64 (i + (1 : Int)))) →
   (Q Go.Ab.Ex.normal (Go.Ab.Fr.mk [U, U, U, ((Go.Ab.AV.ptr 0 0), Go.Ab.Tag.no), U, U, U, ((Go.Ab.AV.int Go.IntKind.u8 x), Go.Ab.Tag.no), ((Go.Ab.AV.int Go.IntKind.u8 y), Go.Ab.Tag.no), ((Go.Ab.AV.ptr 3 0), Go.Ab.Tag.no), ((Go.Ab.AV.ptr 4 0), Go.Ab.Tag.no), ((Go.Ab.AV.int Go.IntKind.i64 r128), Go.Ab.Tag.no), ((Go.Ab.AV.ptr 5 0), Go.Ab.Tag.no), ((Go.Ab.AV.ptr 6 0), Go.Ab.Tag.no), ((Go.Ab.AV.ptr 7 0), Go.Ab.Tag.no), ((Go.Ab.AV.int Go.IntKind.i64 r129), Go.Ab.Tag.no), U, U, U, U, U, U, U, U, U, U, U, U, U, U, U, U, U, U, U, ((Go.Ab.AV.bool r0), Go.Ab.Tag.no), U, U, U, U, U, U, U, U, U, U, U, U, ((Go.Ab.AV.agg [(Go.Ab.AV.int Go.IntKind.u64 m0), (Go.Ab.AV.int Go.IntKind.u64 m1), (Go.Ab.AV.int Go.IntKind.u64 m2), (Go.Ab.AV.int Go.IntKind.u64 m3)]), (Go.Ab.Tag.agg [Go.Ab.Tag.no, Go.Ab.Tag.no, Go.Ab.Tag.no, Go.Ab.Tag.no])), ((Go.Ab.AV.int Go.IntKind.u8 r1), Go.Ab.Tag.no), ((Go.Ab.AV.bool x5), Go.Ab.Tag.no), ((Go.Ab.AV.int Go.IntKind.i64 i), Go.Ab.Tag.no), ((Go.Ab.AV.ptr 3 (0 + ((Int.toNat i) * 1))), (Go.Ab.Tag.agg [])), ((Go.Ab.AV.bool r6), Go.Ab.Tag.no), ((Go.Ab.AV.bool Bool.true), Go.Ab.Tag.no), ((Go.Ab.AV.tup []), Go.Ab.Tag.no), ((Go.Ab.AV.tup []), Go.Ab.Tag.no), ((Go.Ab.AV.tup []), Go.Ab.Tag.no), ((Go.Ab.AV.tup []), Go.Ab.Tag.no), ((Go.Ab.AV.tup []), Go.Ab.Tag.no), ((Go.Ab.AV.tup []), Go.Ab.Tag.no), ((Go.Ab.AV.tup []), Go.Ab.Tag.no), ((Go.Ab.AV.tup []), Go.Ab.Tag.no), ((Go.Ab.AV.bool Bool.true), Go.Ab.Tag.no), ((Go.Ab.AV.bool r97), Go.Ab.Tag.no), U, U, ((Go.Ab.AV.agg [(Go.Ab.AV.int Go.IntKind.u64 n0), (Go.Ab.AV.int Go.IntKind.u64 n1), (Go.Ab.AV.int Go.IntKind.u64 n2), (Go.Ab.AV.int Go.IntKind.u64 n3)]), (Go.Ab.Tag.agg [Go.Ab.Tag.no, Go.Ab.Tag.no, Go.Ab.Tag.no, Go.Ab.Tag.no])), ((Go.Ab.AV.int Go.IntKind.u8 r1), Go.Ab.Tag.no), ((Go.Ab.AV.bool x98), Go.Ab.Tag.no), ((Go.Ab.AV.int Go.IntKind.i64 i), Go.Ab.Tag.no), ((Go.Ab.AV.ptr 3 (0 + ((Int.toNat i) * 1))), (Go.Ab.Tag.agg [])), ((Go.Ab.AV.bool r99), Go.Ab.Tag.no), ((Go.Ab.AV.bool r100), Go.Ab.Tag.no), U, U, ((Go.Ab.AV.agg [(Go.Ab.AV.int Go.IntKind.u64 u0), (Go.Ab.AV.int Go.IntKind.u64 u1), (Go.Ab.AV.int Go.IntKind.u64 u2), (Go.Ab.AV.int Go.IntKind.u64 u3)]), (Go.Ab.Tag.agg [Go.Ab.Tag.no, Go.Ab.Tag.no, Go.Ab.Tag.no, Go.Ab.Tag.no])), ((Go.Ab.AV.int Go.IntKind.u8 r1), Go.Ab.Tag.no), ((Go.Ab.AV.bool x101), Go.Ab.Tag.no), ((Go.Ab.AV.int Go.IntKind.i64 i), Go.Ab.Tag.no), ((Go.Ab.AV.ptr 3 (0 + ((Int.toNat i) * 1))), (Go.Ab.Tag.agg [])), ((Go.Ab.AV.bool r102), Go.Ab.Tag.no), ((Go.Ab.AV.bool Bool.true), Go.Ab.Tag.no), ((Go.Ab.AV.tup []), Go.Ab.Tag.no), ((Go.Ab.AV.tup []), Go.Ab.Tag.no), ((Go.Ab.AV.tup []), Go.Ab.Tag.no), ((Go.Ab.AV.bool Bool.true), Go.Ab.Tag.no), ((Go.Ab.AV.bool r118), Go.Ab.Tag.no), ((Go.Ab.AV.bool r118), Go.Ab.Tag.no), U, U, ((Go.Ab.AV.bool r127), Go.Ab.Tag.no), U, U, U, U, U, U, U, U, U, U, U, U, U, U, U, U, U, U, U, U, U, U] []) (Go.Ab.St.mk [[((Go.Ab.AV.int Go.IntKind.u64 a0), Go.Ab.Tag.no), ((Go.Ab.AV.int Go.IntKind.u64 a1), Go.Ab.Tag.no), ((Go.Ab.AV.int Go.IntKind.u64 a2), Go.Ab.Tag.no), ((Go.Ab.AV.int Go.IntKind.u64 a3), Go.Ab.Tag.no)], [((Go.Ab.AV.int Go.IntKind.u64 b0), Go.Ab.Tag.no), ((Go.Ab.AV.int Go.IntKind.u64 b1), Go.Ab.Tag.no), ((Go.Ab.AV.int Go.IntKind.u64 b2), Go.Ab.Tag.no), ((Go.Ab.AV.int Go.IntKind.u64 b3), Go.Ab.Tag.no)], [((Go.Ab.AV.int Go.IntKind.u8 x), Go.Ab.Tag.no), ((Go.Ab.AV.int Go.IntKind.u8 y), Go.Ab.Tag.no)], X, Y, [((Go.Ab.AV.int Go.IntKind.u64 m0), Go.Ab.Tag.no), ((Go.Ab.AV.int Go.IntKind.u64 m1), Go.Ab.Tag.no), ((Go.Ab.AV.int Go.IntKind.u64 m2), Go.Ab.Tag.no), ((Go.Ab.AV.int Go.IntKind.u64 m3), Go.Ab.Tag.no)], [((Go.Ab.AV.int Go.IntKind.u64 n0), Go.Ab.Tag.no), ((Go.Ab.AV.int Go.IntKind.u64 n1), Go.Ab.Tag.no), ((Go.Ab.AV.int Go.IntKind.u64 n2), Go.Ab.Tag.no), ((Go.Ab.AV.int Go.IntKind.u64 n3), Go.Ab.Tag.no)], [((Go.Ab.AV.int Go.IntKind.u64 u0), Go.Ab.Tag.no), ((Go.Ab.AV.int Go.IntKind.u64 u1), Go.Ab.Tag.no), ((Go.Ab.AV.int Go.IntKind.u64 u2), Go.Ab.Tag.no), ((Go.Ab.AV.int Go.IntKind.u64 u3), Go.Ab.Tag.no)]] []))))))) ∧
   (Go.Ab.implB r127 Bool.false (∀ (r130 : Int), ((r130 = (Go.IntKind.wrap Go.IntKind.i64 (i + (1 : Int)))) →
   (Q Go.Ab.Ex.normal (Go.Ab.Fr.mk [U, U, U, ((Go.Ab.AV.ptr 0 0), Go.Ab.Tag.no), U, U, U, ((Go.Ab.AV.int Go.IntKind.u8 x), Go.Ab.Tag.no), ((Go.Ab.AV.int Go.IntKind.u8 y), Go.Ab.Tag.no), ((Go.Ab.AV.ptr 3 0), Go.Ab.Tag.no), ((Go.Ab.AV.ptr 4 0), Go.Ab.Tag.no), ((Go.Ab.AV.int Go.IntKind.i64 n), Go.Ab.Tag.no), ((Go.Ab.AV.ptr 5 0), Go.Ab.Tag.no), ((Go.Ab.AV.ptr 6 0), Go.Ab.Tag.no), ((Go.Ab.AV.ptr 7 0), Go.Ab.Tag.no), ((Go.Ab.AV.int Go.IntKind.i64 r130), Go.Ab.Tag.no), U, U, U, U, U, U, U, U, U, U, U, U, U, U, U, U, U, U, U, ((Go.Ab.AV.bool r0), Go.Ab.Tag.no), U, U, U, U, U, U, U, U, U, U, U, U, ((Go.Ab.AV.agg [(Go.Ab.AV.int Go.IntKind.u64 m0), (Go.Ab.AV.int Go.IntKind.u64 m1), (Go.Ab.AV.int Go.IntKind.u64 m2), (Go.Ab.AV.int Go.IntKind.u64 m3)]), (Go.Ab.Tag.agg [Go.Ab.Tag.no, Go.Ab.Tag.no, Go.Ab.Tag.no, Go.Ab.Tag.no])), ((Go.Ab.AV.int Go.IntKind.u8 r1), Go.Ab.Tag.no), ((Go.Ab.AV.bool x5), Go.Ab.Tag.no), ((Go.Ab.AV.int Go.IntKind.i64 i), Go.Ab.Tag.no), ((Go.Ab.AV.ptr 3 (0 + ((Int.toNat i) * 1))), (Go.Ab.Tag.agg [])), ((Go.Ab.AV.bool r6), Go.Ab.Tag.no), ((Go.Ab.AV.bool Bool.true), Go.Ab.Tag.no), ((Go.Ab.AV.tup []), Go.Ab.Tag.no), ((Go.Ab.AV.tup []), Go.Ab.Tag.no), ((Go.Ab.AV.tup []), Go.Ab.Tag.no), ((Go.Ab.AV.tup []), Go.Ab.Tag.no), ((Go.Ab.AV.tup []), Go.Ab.Tag.no), ((Go.Ab.AV.tup []), Go.Ab.Tag.no), ((Go.Ab.AV.tup []), Go.Ab.Tag.no), ((Go.Ab.AV.tup []), Go.Ab.Tag.no), ((Go.Ab.AV.bool Bool.true), Go.Ab.Tag.no), ((Go.Ab.AV.bool r97), Go.Ab.Tag.no), U, U, ((Go.Ab.AV.agg [(Go.Ab.AV.int Go.IntKind.u64 n0), (Go.Ab.AV.int Go.IntKind.u64 n1), (Go.Ab.AV.int Go.IntKind.u64 n2), (Go.Ab.AV.int Go.IntKind.u64 n3)]), (Go.Ab.Tag.agg [Go.Ab.Tag.no, Go.Ab.Tag.no, Go.Ab.Tag.no, Go.Ab.Tag.no])), ((Go.Ab.AV.int Go.IntKind.u8 r1), Go.Ab.Tag.no), ((Go.Ab.AV.bool x98), Go.Ab.Tag.no), ((Go.Ab.AV.int Go.IntKind.i64 i), Go.Ab.Tag.no), ((Go.Ab.AV.ptr 3 (0 + ((Int.toNat i) * 1))), (Go.Ab.Tag.agg [])), ((Go.Ab.AV.bool r99), Go.Ab.Tag.no), ((Go.Ab.AV.bool r100), Go.Ab.Tag.no), U, U, ((Go.Ab.AV.agg [(Go.Ab.AV.int Go.IntKind.u64 u0), (Go.Ab.AV.int Go.IntKind.u64 u1), (Go.Ab.AV.int Go.IntKind.u64 u2), (Go.Ab.AV.int Go.IntKind.u64 u3)]), (Go.Ab.Tag.agg [Go.Ab.Tag.no, Go.Ab.Tag.no, Go.Ab.Tag.no, Go.Ab.Tag.no])), ((Go.Ab.AV.int Go.IntKind.u8 r1), Go.Ab.Tag.no), ((Go.Ab.AV.bool x101), Go.Ab.Tag.no), ((Go.Ab.AV.int Go.IntKind.i64 i), Go.Ab.Tag.no), ((Go.Ab.AV.ptr 3 (0 + ((Int.toNat i) * 1))), (Go.Ab.Tag.agg [])), ((Go.Ab.AV.bool r102), Go.Ab.Tag.no), ((Go.Ab.AV.bool Bool.true), Go.Ab.Tag.no), ((Go.Ab.AV.tup []), Go.Ab.Tag.no), ((Go.Ab.AV.tup []), Go.Ab.Tag.no), ((Go.Ab.AV.tup []), Go.Ab.Tag.no), ((Go.Ab.AV.bool Bool.true), Go.Ab.Tag.no), ((Go.Ab.AV.bool r118), Go.Ab.Tag.no), ((Go.Ab.AV.bool r118), Go.Ab.Tag.no), U, U, ((Go.Ab.AV.bool r127), Go.Ab.Tag.no), U, U, U, U, U, U, U, U, U, U, U, U, U, U, U, U, U, U, U, U, U, U] []) (Go.Ab.St.mk [[((Go.Ab.AV.int Go.IntKind.u64 a0), Go.Ab.Tag.no), ((Go.Ab.AV.int Go.IntKind.u64 a1), Go.Ab.Tag.no), ((Go.Ab.AV.int Go.IntKind.u64 a2), Go.Ab.Tag.no), ((Go.Ab.AV.int Go.IntKind.u64 a3), Go.Ab.Tag.no)], [((Go.Ab.AV.int Go.IntKind.u64 b0), Go.Ab.Tag.no), ((Go.Ab.AV.int Go.IntKind.u64 b1), Go.Ab.Tag.no), ((Go.Ab.AV.int Go.IntKind.u64 b2), Go.Ab.Tag.no), ((Go.Ab.AV.int Go.IntKind.u64 b3), Go.Ab.Tag.no)], [((Go.Ab.AV.int Go.IntKind.u8 x), Go.Ab.Tag.no), ((Go.Ab.AV.int Go.IntKind.u8 y), Go.Ab.Tag.no)], X, Y, [((Go.Ab.AV.int Go.IntKind.u64 m0), Go.Ab.Tag.no), ((Go.Ab.AV.int Go.IntKind.u64 m1), Go.Ab.Tag.no), ((Go.Ab.AV.int Go.IntKind.u64 m2), Go.Ab.Tag.no), ((Go.Ab.AV.int Go.IntKind.u64 m3), Go.Ab.Tag.no)], [((Go.Ab.AV.int Go.IntKind.u64 n0), Go.Ab.Tag.no), ((Go.Ab.AV.int Go.IntKind.u64 n1), Go.Ab.Tag.no), ((Go.Ab.AV.int Go.IntKind.u64 n2), Go.Ab.Tag.no), ((Go.Ab.AV.int Go.IntKind.u64 n3), Go.Ab.Tag.no)], [((Go.Ab.AV.int Go.IntKind.u64 u0), Go.Ab.Tag.no), ((Go.Ab.AV.int Go.IntKind.u64 u1), Go.Ab.Tag.no), ((Go.Ab.AV.int Go.IntKind.u64 u2), Go.Ab.Tag.no), ((Go.Ab.AV.int Go.IntKind.u64 u3), Go.Ab.Tag.no)]] []))))))))))))))))))))))))) ∧
   True) ∧
   True))))) ∧
   True))) ∧
   True)) ∧
   True) ∧
   True)))) ∧
   True) ∧
   True)) ∧
   (Go.Ab.implB r100 Bool.true (True ∧
   (True ∧
   (True ∧
   (True ∧
   (True ∧
   (True ∧
   (True ∧
   (True ∧
   (((Go.Ab.collect [((Go.Ab.AV.int Go.IntKind.u64 a0), Go.Ab.Tag.no), ((Go.Ab.AV.int Go.IntKind.u64 a1), Go.Ab.Tag.no), ((Go.Ab.AV.int Go.IntKind.u64 a2), Go.Ab.Tag.no), ((Go.Ab.AV.int Go.IntKind.u64 a3), Go.Ab.Tag.no)]) = ((Go.Ab.AV.agg [(Go.Ab.AV.int Go.IntKind.u64 a0), (Go.Ab.AV.int Go.IntKind.u64 a1), (Go.Ab.AV.int Go.IntKind.u64 a2), (Go.Ab.AV.int Go.IntKind.u64 a3)]), (Go.Ab.Tag.agg [Go.Ab.Tag.no, Go.Ab.Tag.no, Go.Ab.Tag.no, Go.Ab.Tag.no]))) ∧
   ((∃ r131 : Bool, (((X[(0 + ((Int.toNat i) * 1))]?) = (Option.some ((Go.Ab.AV.bool r131), Go.Ab.Tag.no))) ∧
   (((Go.Ab.AV.bool r131), Go.Ab.Tag.no) = ((Go.Ab.AV.bool r3), Go.Ab.Tag.no)))) ∧
   ((∃ r132 : Bool, (((X[(0 + ((Int.toNat i) * 1))]?) = (Option.some ((Go.Ab.AV.bool r132), Go.Ab.Tag.no))) ∧
   (((Go.Ab.AV.bool r132), Go.Ab.Tag.no) = ((Go.Ab.AV.bool r3), Go.Ab.Tag.no)))) ∧
   (((Go.Ab.collect [((Go.Ab.AV.int Go.IntKind.u64 m0), Go.Ab.Tag.no), ((Go.Ab.AV.int Go.IntKind.u64 m1), Go.Ab.Tag.no), ((Go.Ab.AV.int Go.IntKind.u64 m2), Go.Ab.Tag.no), ((Go.Ab.AV.int Go.IntKind.u64 m3), Go.Ab.Tag.no)]) = ((Go.Ab.AV.agg [(Go.Ab.AV.int Go.IntKind.u64 m0), (Go.Ab.AV.int Go.IntKind.u64 m1), (Go.Ab.AV.int Go.IntKind.u64 m2), (Go.Ab.AV.int Go.IntKind.u64 m3)]), (Go.Ab.Tag.agg [Go.Ab.Tag.no, Go.Ab.Tag.no, Go.Ab.Tag.no, Go.Ab.Tag.no]))) ∧
   ((∃ r133 : Bool, (((X[(0 + ((Int.toNat i) * 1))]?) = (Option.some ((Go.Ab.AV.bool r133), Go.Ab.Tag.no))) ∧
   (((Go.Ab.AV.bool r133), Go.Ab.Tag.no) = ((Go.Ab.AV.bool r6), Go.Ab.Tag.no)))) ∧
   ((∃ r134 : Bool, (((X[(0 + ((Int.toNat i) * 1))]?) = (Option.some ((Go.Ab.AV.bool r134), Go.Ab.Tag.no))) ∧
   (((Go.Ab.AV.bool r134), Go.Ab.Tag.no) = ((Go.Ab.AV.bool r6), Go.Ab.Tag.no)))) ∧
   (((Go.Ab.collect [((Go.Ab.AV.int Go.IntKind.u64 n0), Go.Ab.Tag.no), ((Go.Ab.AV.int Go.IntKind.u64 n1), Go.Ab.Tag.no), ((Go.Ab.AV.int Go.IntKind.u64 n2), Go.Ab.Tag.no), ((Go.Ab.AV.int Go.IntKind.u64 n3), Go.Ab.Tag.no)]) = ((Go.Ab.AV.agg [(Go.Ab.AV.int Go.IntKind.u64 n0), (Go.Ab.AV.int Go.IntKind.u64 n1), (Go.Ab.AV.int Go.IntKind.u64 n2), (Go.Ab.AV.int Go.IntKind.u64 n3)]), (Go.Ab.Tag.agg [Go.Ab.Tag.no, Go.Ab.Tag.no, Go.Ab.Tag.no, Go.Ab.Tag.no]))) ∧
   ((∃ r135 : Bool, (((X[(0 + ((Int.toNat i) * 1))]?) = (Option.some ((Go.Ab.AV.bool r135), Go.Ab.Tag.no))) ∧
   (((Go.Ab.AV.bool r135), Go.Ab.Tag.no) = ((Go.Ab.AV.bool r99), Go.Ab.Tag.no)))) ∧
   ((∃ r136 : Bool, (((X[(0 + ((Int.toNat i) * 1))]?) = (Option.some ((Go.Ab.AV.bool r136), Go.Ab.Tag.no))) ∧
   (((Go.Ab.AV.bool r136), Go.Ab.Tag.no) = ((Go.Ab.AV.bool r99), Go.Ab.Tag.no)))) ∧
   ((Q Go.Ab.Ex.ret (Go.Ab.Fr.mk [U, U, U, ((Go.Ab.AV.ptr 0 0), Go.Ab.Tag.no), U, U, ((Go.Ab.AV.bool Bool.false), Go.Ab.Tag.no), ((Go.Ab.AV.int Go.IntKind.u8 x), Go.Ab.Tag.no), ((Go.Ab.AV.int Go.IntKind.u8 y), Go.Ab.Tag.no), ((Go.Ab.AV.ptr 3 0), Go.Ab.Tag.no), ((Go.Ab.AV.ptr 4 0), Go.Ab.Tag.no), ((Go.Ab.AV.int Go.IntKind.i64 n), Go.Ab.Tag.no), ((Go.Ab.AV.ptr 5 0), Go.Ab.Tag.no), ((Go.Ab.AV.ptr 6 0), Go.Ab.Tag.no), ((Go.Ab.AV.ptr 7 0), Go.Ab.Tag.no), ((Go.Ab.AV.int Go.IntKind.i64 i), Go.Ab.Tag.no), U, U, U, U, U, U, U, U, U, U, U, U, U, U, U, U, U, U, U, ((Go.Ab.AV.bool r0), Go.Ab.Tag.no), U, U, U, U, U, U, U, U, U, U, U, U, ((Go.Ab.AV.agg [(Go.Ab.AV.int Go.IntKind.u64 m0), (Go.Ab.AV.int Go.IntKind.u64 m1), (Go.Ab.AV.int Go.IntKind.u64 m2), (Go.Ab.AV.int Go.IntKind.u64 m3)]), (Go.Ab.Tag.agg [Go.Ab.Tag.no, Go.Ab.Tag.no, Go.Ab.Tag.no, Go.Ab.Tag.no])), ((Go.Ab.AV.int Go.IntKind.u8 r1), Go.Ab.Tag.no), ((Go.Ab.AV.bool x5), Go.Ab.Tag.no), ((Go.Ab.AV.int Go.IntKind.i64 i), Go.Ab.Tag.no), ((Go.Ab.AV.ptr 3 (0 + ((Int.toNat i) * 1))), (Go.Ab.Tag.agg [])), ((Go.Ab.AV.bool r6), Go.Ab.Tag.no), ((Go.Ab.AV.bool Bool.true), Go.Ab.Tag.no), ((Go.Ab.AV.tup []), Go.Ab.Tag.no), ((Go.Ab.AV.tup []), Go.Ab.Tag.no), ((Go.Ab.AV.tup []), Go.Ab.Tag.no), ((Go.Ab.AV.tup []), Go.Ab.Tag.no), ((Go.Ab.AV.tup []), Go.Ab.Tag.no), ((Go.Ab.AV.tup []), Go.Ab.Tag.no), ((Go.Ab.AV.tup []), Go.Ab.Tag.no), ((Go.Ab.AV.tup []), Go.Ab.Tag.no), ((Go.Ab.AV.bool Bool.true), Go.Ab.Tag.no), ((Go.Ab.AV.bool r97), Go.Ab.Tag.no), U, U, ((Go.Ab.AV.agg [(Go.Ab.AV.int Go.IntKind.u64 n0), (Go.Ab.AV.int Go.IntKind.u64 n1), (Go.Ab.AV.int Go.IntKind.u64 n2), (Go.Ab.AV.int Go.IntKind.u64 n3)]), (Go.Ab.Tag.agg [Go.Ab.Tag.no, Go.Ab.Tag.no, Go.Ab.Tag.no, Go.Ab.Tag.no])), ((Go.Ab.AV.int Go.IntKind.u8 r1), Go.Ab.Tag.no), ((Go.Ab.AV.bool x98), Go.Ab.Tag.no), ((Go.Ab.AV.int Go.IntKind.i64 i), Go.Ab.Tag.no), ((Go.Ab.AV.ptr 3 (0 + ((Int.toNat i) * 1))), (Go.Ab.Tag.agg [])), ((Go.Ab.AV.bool r99), Go.Ab.Tag.no), ((Go.Ab.AV.bool r100), Go.Ab.Tag.no), U, U, ((Go.Ab.AV.tup []), Go.Ab.Tag.no), ((Go.Ab.AV.tup []), Go.Ab.Tag.no), ((Go.Ab.AV.tup []), Go.Ab.Tag.no), ((Go.Ab.AV.tup []), Go.Ab.Tag.no), ((Go.Ab.AV.tup []), Go.Ab.Tag.no), ((Go.Ab.AV.tup []), Go.Ab.Tag.no), ((Go.Ab.AV.tup []), Go.Ab.Tag.no), ((Go.Ab.AV.tup []), Go.Ab.Tag.no), ((Go.Ab.AV.tup []), Go.Ab.Tag.no), ((Go.Ab.AV.tup []), Go.Ab.Tag.no), ((Go.Ab.AV.tup []), Go.Ab.Tag.no), ((Go.Ab.AV.tup []), Go.Ab.Tag.no), ((Go.Ab.AV.bool Bool.true), Go.Ab.Tag.no), U, U, U, U, U, U, U, U, U, U, U, U, U, U, U, U, U, U, U, U, U, U, U, U, U] []) (Go.Ab.St.mk [[((Go.Ab.AV.int Go.IntKind.u64 a0), Go.Ab.Tag.no), ((Go.Ab.AV.int Go.IntKind.u64 a1), Go.Ab.Tag.no), ((Go.Ab.AV.int Go.IntKind.u64 a2), Go.Ab.Tag.no), ((Go.Ab.AV.int Go.IntKind.u64 a3), Go.Ab.Tag.no)], [((Go.Ab.AV.int Go.IntKind.u64 b0), Go.Ab.Tag.no), ((Go.Ab.AV.int Go.IntKind.u64 b1), Go.Ab.Tag.no), ((Go.Ab.AV.int Go.IntKind.u64 b2), Go.Ab.Tag.no), ((Go.Ab.AV.int Go.IntKind.u64 b3), Go.Ab.Tag.no)], [((Go.Ab.AV.int Go.IntKind.u8 x), Go.Ab.Tag.no), ((Go.Ab.AV.int Go.IntKind.u8 y), Go.Ab.Tag.no)], X, Y, [((Go.Ab.AV.int Go.IntKind.u64 m0), Go.Ab.Tag.no), ((Go.Ab.AV.int Go.IntKind.u64 m1), Go.Ab.Tag.no), ((Go.Ab.AV.int Go.IntKind.u64 m2), Go.Ab.Tag.no), ((Go.Ab.AV.int Go.IntKind.u64 m3), Go.Ab.Tag.no)], [((Go.Ab.AV.int Go.IntKind.u64 n0), Go.Ab.Tag.no), ((Go.Ab.AV.int Go.IntKind.u64 n1), Go.Ab.Tag.no), ((Go.Ab.AV.int Go.IntKind.u64 n2), Go.Ab.Tag.no), ((Go.Ab.AV.int Go.IntKind.u64 n3), Go.Ab.Tag.no)], [((Go.Ab.AV.int Go.IntKind.u64 u0), Go.Ab.Tag.no), ((Go.Ab.AV.int Go.IntKind.u64 u1), Go.Ab.Tag.no), ((Go.Ab.AV.int Go.IntKind.u64 u2), Go.Ab.Tag.no), ((Go.Ab.AV.int Go.IntKind.u64 u3), Go.Ab.Tag.no)]] [])) ∧
   True)))))))))))))))))))))) ∧
   True))) ∧
   True)) ∧
   True) ∧
   True)))) ∧
   True) ∧
   True)) ∧
   (Go.Ab.implB r97 Bool.true (True ∧
   (True ∧
   (True ∧
   (True ∧
   (True ∧
   (True ∧
   (True ∧
   (True ∧
   (True ∧
   (True ∧
   (True ∧
   (True ∧
   (True ∧
   (True ∧
   (True ∧
   (((Go.Ab.collect [((Go.Ab.AV.int Go.IntKind.u64 a0), Go.Ab.Tag.no), ((Go.Ab.AV.int Go.IntKind.u64 a1), Go.Ab.Tag.no), ((Go.Ab.AV.int Go.IntKind.u64 a2), Go.Ab.Tag.no), ((Go.Ab.AV.int Go.IntKind.u64 a3), Go.Ab.Tag.no)]) = ((Go.Ab.AV.agg [(Go.Ab.AV.int Go.IntKind.u64 a0), (Go.Ab.AV.int Go.IntKind.u64 a1), (Go.Ab.AV.int Go.IntKind.u64 a2), (Go.Ab.AV.int Go.IntKind.u64 a3)]), (Go.Ab.Tag.agg [Go.Ab.Tag.no, Go.Ab.Tag.no, Go.Ab.Tag.no, Go.Ab.Tag.no]))) ∧
   ((∃ r137 : Bool, (((X[(0 + ((Int.toNat i) * 1))]?) = (Option.some ((Go.Ab.AV.bool r137), Go.Ab.Tag.no))) ∧
   (((Go.Ab.AV.bool r137), Go.Ab.Tag.no) = ((Go.Ab.AV.bool r3), Go.Ab.Tag.no)))) ∧
   ((∃ r138 : Bool, (((X[(0 + ((Int.toNat i) * 1))]?) = (Option.some ((Go.Ab.AV.bool r138), Go.Ab.Tag.no))) ∧
   (((Go.Ab.AV.bool r138), Go.Ab.Tag.no) = ((Go.Ab.AV.bool r3), Go.Ab.Tag.no)))) ∧
   (((Go.Ab.collect [((Go.Ab.AV.int Go.IntKind.u64 m0), Go.Ab.Tag.no), ((Go.Ab.AV.int Go.IntKind.u64 m1), Go.Ab.Tag.no), ((Go.Ab.AV.int Go.IntKind.u64 m2), Go.Ab.Tag.no), ((Go.Ab.AV.int Go.IntKind.u64 m3), Go.Ab.Tag.no)]) = ((Go.Ab.AV.agg [(Go.Ab.AV.int Go.IntKind.u64 m0), (Go.Ab.AV.int Go.IntKind.u64 m1), (Go.Ab.AV.int Go.IntKind.u64 m2), (Go.Ab.AV.int Go.IntKind.u64 m3)]), (Go.Ab.Tag.agg [Go.Ab.Tag.no, Go.Ab.Tag.no, Go.Ab.Tag.no, Go.Ab.Tag.no]))) ∧
   ((∃ r139 : Bool, (((X[(0 + ((Int.toNat i) * 1))]?) = (Option.some ((Go.Ab.AV.bool r139), Go.Ab.Tag.no))) ∧
   (((Go.Ab.AV.bool r139), Go.Ab.Tag.no) = ((Go.Ab.AV.bool r6), Go.Ab.Tag.no)))) ∧
   ((∃ r140 : Bool, (((X[(0 + ((Int.toNat i) * 1))]?) = (Option.some ((Go.Ab.AV.bool r140), Go.Ab.Tag.no))) ∧
   (((Go.Ab.AV.bool r140), Go.Ab.Tag.no) = ((Go.Ab.AV.bool r6), Go.Ab.Tag.no)))) ∧
   ((Q Go.Ab.Ex.ret (Go.Ab.Fr.mk [U, U, U, ((Go.Ab.AV.ptr 0 0), Go.Ab.Tag.no), U, U, ((Go.Ab.AV.bool Bool.false), Go.Ab.Tag.no), ((Go.Ab.AV.int Go.IntKind.u8 x), Go.Ab.Tag.no), ((Go.Ab.AV.int Go.IntKind.u8 y), Go.Ab.Tag.no), ((Go.Ab.AV.ptr 3 0), Go.Ab.Tag.no), ((Go.Ab.AV.ptr 4 0), Go.Ab.Tag.no), ((Go.Ab.AV.int Go.IntKind.i64 n), Go.Ab.Tag.no), ((Go.Ab.AV.ptr 5 0), Go.Ab.Tag.no), ((Go.Ab.AV.ptr 6 0), Go.Ab.Tag.no), ((Go.Ab.AV.ptr 7 0), Go.Ab.Tag.no), ((Go.Ab.AV.int Go.IntKind.i64 i), Go.Ab.Tag.no), U, U, U, U, U, U, U, U, U, U, U, U, U, U, U, U, U, U, U, ((Go.Ab.AV.bool r0), Go.Ab.Tag.no), U, U, U, U, U, U, U, U, U, U, U, U, ((Go.Ab.AV.agg [(Go.Ab.AV.int Go.IntKind.u64 m0), (Go.Ab.AV.int Go.IntKind.u64 m1), (Go.Ab.AV.int Go.IntKind.u64 m2), (Go.Ab.AV.int Go.IntKind.u64 m3)]), (Go.Ab.Tag.agg [Go.Ab.Tag.no, Go.Ab.Tag.no, Go.Ab.Tag.no, Go.Ab.Tag.no])), ((Go.Ab.AV.int Go.IntKind.u8 r1), Go.Ab.Tag.no), ((Go.Ab.AV.bool x5), Go.Ab.Tag.no), ((Go.Ab.AV.int Go.IntKind.i64 i), Go.Ab.Tag.no), ((Go.Ab.AV.ptr 3 (0 + ((Int.toNat i) * 1))), (Go.Ab.Tag.agg [])), ((Go.Ab.AV.bool r6), Go.Ab.Tag.no), ((Go.Ab.AV.bool Bool.true), Go.Ab.Tag.no), ((Go.Ab.AV.tup []), Go.Ab.Tag.no), ((Go.Ab.AV.tup []), Go.Ab.Tag.no), ((Go.Ab.AV.tup []), Go.Ab.Tag.no), ((Go.Ab.AV.tup []), Go.Ab.Tag.no), ((Go.Ab.AV.tup []), Go.Ab.Tag.no), ((Go.Ab.AV.tup []), Go.Ab.Tag.no), ((Go.Ab.AV.tup []), Go.Ab.Tag.no), ((Go.Ab.AV.tup []), Go.Ab.Tag.no), ((Go.Ab.AV.bool Bool.true), Go.Ab.Tag.no), ((Go.Ab.AV.bool r97), Go.Ab.Tag.no), U, U, ((Go.Ab.AV.tup []), Go.Ab.Tag.no), ((Go.Ab.AV.tup []), Go.Ab.Tag.no), ((Go.Ab.AV.tup []), Go.Ab.Tag.no), ((Go.Ab.AV.tup []), Go.Ab.Tag.no), ((Go.Ab.AV.tup []), Go.Ab.Tag.no), ((Go.Ab.AV.tup []), Go.Ab.Tag.no), ((Go.Ab.AV.tup []), Go.Ab.Tag.no), U, U, ((Go.Ab.AV.tup []), Go.Ab.Tag.no), ((Go.Ab.AV.tup []), Go.Ab.Tag.no), ((Go.Ab.AV.tup []), Go.Ab.Tag.no), ((Go.Ab.AV.tup []), Go.Ab.Tag.no), ((Go.Ab.AV.tup []), Go.Ab.Tag.no), ((Go.Ab.AV.tup []), Go.Ab.Tag.no), ((Go.Ab.AV.tup []), Go.Ab.Tag.no), ((Go.Ab.AV.tup []), Go.Ab.Tag.no), ((Go.Ab.AV.tup []), Go.Ab.Tag.no), ((Go.Ab.AV.tup []), Go.Ab.Tag.no), ((Go.Ab.AV.tup []), Go.Ab.Tag.no), ((Go.Ab.AV.tup []), Go.Ab.Tag.no), ((Go.Ab.AV.bool Bool.true), Go.Ab.Tag.no), U, U, U, U, U, U, U, U, U, U, U, U, U, U, U, U, U, U, U, U, U, U, U, U, U] []) (Go.Ab.St.mk [[((Go.Ab.AV.int Go.IntKind.u64 a0), Go.Ab.Tag.no), ((Go.Ab.AV.int Go.IntKind.u64 a1), Go.Ab.Tag.no), ((Go.Ab.AV.int Go.IntKind.u64 a2), Go.Ab.Tag.no), ((Go.Ab.AV.int Go.IntKind.u64 a3), Go.Ab.Tag.no)], [((Go.Ab.AV.int Go.IntKind.u64 b0), Go.Ab.Tag.no), ((Go.Ab.AV.int Go.IntKind.u64 b1), Go.Ab.Tag.no), ((Go.Ab.AV.int Go.IntKind.u64 b2), Go.Ab.Tag.no), ((Go.Ab.AV.int Go.IntKind.u64 b3), Go.Ab.Tag.no)], [((Go.Ab.AV.int Go.IntKind.u8 x), Go.Ab.Tag.no), ((Go.Ab.AV.int Go.IntKind.u8 y), Go.Ab.Tag.no)], X, Y, [((Go.Ab.AV.int Go.IntKind.u64 m0), Go.Ab.Tag.no), ((Go.Ab.AV.int Go.IntKind.u64 m1), Go.Ab.Tag.no), ((Go.Ab.AV.int Go.IntKind.u64 m2), Go.Ab.Tag.no), ((Go.Ab.AV.int Go.IntKind.u64 m3), Go.Ab.Tag.no)], [((Go.Ab.AV.int Go.IntKind.u64 n0), Go.Ab.Tag.no), ((Go.Ab.AV.int Go.IntKind.u64 n1), Go.Ab.Tag.no), ((Go.Ab.AV.int Go.IntKind.u64 n2), Go.Ab.Tag.no), ((Go.Ab.AV.int Go.IntKind.u64 n3), Go.Ab.Tag.no)], [((Go.Ab.AV.int Go.IntKind.u64 u0), Go.Ab.Tag.no), ((Go.Ab.AV.int Go.IntKind.u64 u1), Go.Ab.Tag.no), ((Go.Ab.AV.int Go.IntKind.u64 u2), Go.Ab.Tag.no), ((Go.Ab.AV.int Go.IntKind.u64 u3), Go.Ab.Tag.no)]] [])) ∧
   True)))))))))))))))))))))))))) ∧
   True) ∧
   True))))))) ∧
   True))) ∧
   True)) ∧
   True) ∧
   True)))) ∧
   True) ∧
   True)) ∧
   (Go.Ab.implB r4 Bool.true (True ∧
   (True ∧
   (True ∧
   (True ∧
   (True ∧
   (True ∧
   (True ∧
   (True ∧
   (True ∧
   (True ∧
   (True ∧
   (True ∧
   (True ∧
   (True ∧
   (True ∧
   (True ∧
   (True ∧
   (True ∧
   (True ∧
   (True ∧
   (True ∧
   (True ∧
   (True ∧
   (True ∧
   (((Go.Ab.collect [((Go.Ab.AV.int Go.IntKind.u64 a0), Go.Ab.Tag.no), ((Go.Ab.AV.int Go.IntKind.u64 a1), Go.Ab.Tag.no), ((Go.Ab.AV.int Go.IntKind.u64 a2), Go.Ab.Tag.no), ((Go.Ab.AV.int Go.IntKind.u64 a3), Go.Ab.Tag.no)]) = ((Go.Ab.AV.agg [(Go.Ab.AV.int Go.IntKind.u64 a0), (Go.Ab.AV.int Go.IntKind.u64 a1), (Go.Ab.AV.int Go.IntKind.u64 a2), (Go.Ab.AV.int Go.IntKind.u64 a3)]), (Go.Ab.Tag.agg [Go.Ab.Tag.no, Go.Ab.Tag.no, Go.Ab.Tag.no, Go.Ab.Tag.no]))) ∧
   ((∃ r141 : Bool, (((X[(0 + ((Int.toNat i) * 1))]?) = (Option.some ((Go.Ab.AV.bool r141), Go.Ab.Tag.no))) ∧
   (((Go.Ab.AV.bool r141), Go.Ab.Tag.no) = ((Go.Ab.AV.bool r3), Go.Ab.Tag.no)))) ∧
   ((∃ r142 : Bool, (((X[(0 + ((Int.toNat i) * 1))]?) = (Option.some ((Go.Ab.AV.bool r142), Go.Ab.Tag.no))) ∧
   (((Go.Ab.AV.bool r142), Go.Ab.Tag.no) = ((Go.Ab.AV.bool r3), Go.Ab.Tag.no)))) ∧
   ((Q Go.Ab.Ex.ret (Go.Ab.Fr.mk [U, U, U, ((Go.Ab.AV.ptr 0 0), Go.Ab.Tag.no), U, U, ((Go.Ab.AV.bool Bool.false), Go.Ab.Tag.no), ((Go.Ab.AV.int Go.IntKind.u8 x), Go.Ab.Tag.no), ((Go.Ab.AV.int Go.IntKind.u8 y), Go.Ab.Tag.no), ((Go.Ab.AV.ptr 3 0), Go.Ab.Tag.no), ((Go.Ab.AV.ptr 4 0), Go.Ab.Tag.no), ((Go.Ab.AV.int Go.IntKind.i64 n), Go.Ab.Tag.no), ((Go.Ab.AV.ptr 5 0), Go.Ab.Tag.no), ((Go.Ab.AV.ptr 6 0), Go.Ab.Tag.no), ((Go.Ab.AV.ptr 7 0), Go.Ab.Tag.no), ((Go.Ab.AV.int Go.IntKind.i64 i), Go.Ab.Tag.no), U, U, U, U, U, U, U, U, U, U, U, U, U, U, U, U, U, U, U, ((Go.Ab.AV.bool r0), Go.Ab.Tag.no), U, U, U, U, U, U, U, U, U, U, U, U, ((Go.Ab.AV.tup []), Go.Ab.Tag.no), ((Go.Ab.AV.tup []), Go.Ab.Tag.no), ((Go.Ab.AV.tup []), Go.Ab.Tag.no), ((Go.Ab.AV.tup []), Go.Ab.Tag.no), ((Go.Ab.AV.tup []), Go.Ab.Tag.no), ((Go.Ab.AV.tup []), Go.Ab.Tag.no), ((Go.Ab.AV.tup []), Go.Ab.Tag.no), ((Go.Ab.AV.tup []), Go.Ab.Tag.no), ((Go.Ab.AV.tup []), Go.Ab.Tag.no), ((Go.Ab.AV.tup []), Go.Ab.Tag.no), ((Go.Ab.AV.tup []), Go.Ab.Tag.no), ((Go.Ab.AV.tup []), Go.Ab.Tag.no), ((Go.Ab.AV.tup []), Go.Ab.Tag.no), ((Go.Ab.AV.tup []), Go.Ab.Tag.no), ((Go.Ab.AV.tup []), Go.Ab.Tag.no), ((Go.Ab.AV.tup []), Go.Ab.Tag.no), ((Go.Ab.AV.tup []), Go.Ab.Tag.no), U, U, ((Go.Ab.AV.tup []), Go.Ab.Tag.no), ((Go.Ab.AV.tup []), Go.Ab.Tag.no), ((Go.Ab.AV.tup []), Go.Ab.Tag.no), ((Go.Ab.AV.tup []), Go.Ab.Tag.no), ((Go.Ab.AV.tup []), Go.Ab.Tag.no), ((Go.Ab.AV.tup []), Go.Ab.Tag.no), ((Go.Ab.AV.tup []), Go.Ab.Tag.no), U, U, ((Go.Ab.AV.tup []), Go.Ab.Tag.no), ((Go.Ab.AV.tup []), Go.Ab.Tag.no), ((Go.Ab.AV.tup []), Go.Ab.Tag.no), ((Go.Ab.AV.tup []), Go.Ab.Tag.no), ((Go.Ab.AV.tup []), Go.Ab.Tag.no), ((Go.Ab.AV.tup []), Go.Ab.Tag.no), ((Go.Ab.AV.tup []), Go.Ab.Tag.no), ((Go.Ab.AV.tup []), Go.Ab.Tag.no), ((Go.Ab.AV.tup []), Go.Ab.Tag.no), ((Go.Ab.AV.tup []), Go.Ab.Tag.no), ((Go.Ab.AV.tup []), Go.Ab.Tag.no), ((Go.Ab.AV.tup []), Go.Ab.Tag.no), ((Go.Ab.AV.bool Bool.true), Go.Ab.Tag.no), U, U, U, U, U, U, U, U, U, U, U, U, U, U, U, U, U, U, U, U, U, U, U, U, U] []) (Go.Ab.St.mk [[((Go.Ab.AV.int Go.IntKind.u64 a0), Go.Ab.Tag.no), ((Go.Ab.AV.int Go.IntKind.u64 a1), Go.Ab.Tag.no), ((Go.Ab.AV.int Go.IntKind.u64 a2), Go.Ab.Tag.no), ((Go.Ab.AV.int Go.IntKind.u64 a3), Go.Ab.Tag.no)], [((Go.Ab.AV.int Go.IntKind.u64 b0), Go.Ab.Tag.no), ((Go.Ab.AV.int Go.IntKind.u64 b1), Go.Ab.Tag.no), ((Go.Ab.AV.int Go.IntKind.u64 b2), Go.Ab.Tag.no), ((Go.Ab.AV.int Go.IntKind.u64 b3), Go.Ab.Tag.no)], [((Go.Ab.AV.int Go.IntKind.u8 x), Go.Ab.Tag.no), ((Go.Ab.AV.int Go.IntKind.u8 y), Go.Ab.Tag.no)], X, Y, [((Go.Ab.AV.int Go.IntKind.u64 m0), Go.Ab.Tag.no), ((Go.Ab.AV.int Go.IntKind.u64 m1), Go.Ab.Tag.no), ((Go.Ab.AV.int Go.IntKind.u64 m2), Go.Ab.Tag.no), ((Go.Ab.AV.int Go.IntKind.u64 m3), Go.Ab.Tag.no)], [((Go.Ab.AV.int Go.IntKind.u64 n0), Go.Ab.Tag.no), ((Go.Ab.AV.int Go.IntKind.u64 n1), Go.Ab.Tag.no), ((Go.Ab.AV.int Go.IntKind.u64 n2), Go.Ab.Tag.no), ((Go.Ab.AV.int Go.IntKind.u64 n3), Go.Ab.Tag.no)], [((Go.Ab.AV.int Go.IntKind.u64 u0), Go.Ab.Tag.no), ((Go.Ab.AV.int Go.IntKind.u64 u1), Go.Ab.Tag.no), ((Go.Ab.AV.int Go.IntKind.u64 u2), Go.Ab.Tag.no), ((Go.Ab.AV.int Go.IntKind.u64 u3), Go.Ab.Tag.no)]] [])) ∧
   True))))))))))))))))))))))))))))))))))))))))) ∧
   (Go.Ab.implB r0 Bool.false (Q (Go.Ab.Ex.exit 0) (Go.Ab.Fr.mk [U, U, U, ((Go.Ab.AV.ptr 0 0), Go.Ab.Tag.no), U, U, U, ((Go.Ab.AV.int Go.IntKind.u8 x), Go.Ab.Tag.no), ((Go.Ab.AV.int Go.IntKind.u8 y), Go.Ab.Tag.no), ((Go.Ab.AV.ptr 3 0), Go.Ab.Tag.no), ((Go.Ab.AV.ptr 4 0), Go.Ab.Tag.no), ((Go.Ab.AV.int Go.IntKind.i64 n), Go.Ab.Tag.no), ((Go.Ab.AV.ptr 5 0), Go.Ab.Tag.no), ((Go.Ab.AV.ptr 6 0), Go.Ab.Tag.no), ((Go.Ab.AV.ptr 7 0), Go.Ab.Tag.no), ((Go.Ab.AV.int Go.IntKind.i64 i), Go.Ab.Tag.no), U, U, U, U, U, U, U, U, U, U, U, U, U, U, U, U, U, U, U, ((Go.Ab.AV.bool r0), Go.Ab.Tag.no), U, U, U, U, U, U, U, U, U, U, U, U, U, U, U, U, U, U, U, U, U, U, U, U, U, U, U, U, U, U, U, U, U, U, U, U, U, U, U, U, U, U, U, U, U, U, U, U, U, U, U, U, U, U, U, U, U, U, U, U, U, U, U, U, U, U, U, U, U, U, U, U, U, U, U, U, U, U] []) (Go.Ab.St.mk [[((Go.Ab.AV.int Go.IntKind.u64 a0), Go.Ab.Tag.no), ((Go.Ab.AV.int Go.IntKind.u64 a1), Go.Ab.Tag.no), ((Go.Ab.AV.int Go.IntKind.u64 a2), Go.Ab.Tag.no), ((Go.Ab.AV.int Go.IntKind.u64 a3), Go.Ab.Tag.no)], [((Go.Ab.AV.int Go.IntKind.u64 b0), Go.Ab.Tag.no), ((Go.Ab.AV.int Go.IntKind.u64 b1), Go.Ab.Tag.no), ((Go.Ab.AV.int Go.IntKind.u64 b2), Go.Ab.Tag.no), ((Go.Ab.AV.int Go.IntKind.u64 b3), Go.Ab.Tag.no)], [((Go.Ab.AV.int Go.IntKind.u8 x), Go.Ab.Tag.no), ((Go.Ab.AV.int Go.IntKind.u8 y), Go.Ab.Tag.no)], X, Y, [((Go.Ab.AV.int Go.IntKind.u64 m0), Go.Ab.Tag.no), ((Go.Ab.AV.int Go.IntKind.u64 m1), Go.Ab.Tag.no), ((Go.Ab.AV.int Go.IntKind.u64 m2), Go.Ab.Tag.no), ((Go.Ab.AV.int Go.IntKind.u64 m3), Go.Ab.Tag.no)], [((Go.Ab.AV.int Go.IntKind.u64 n0), Go.Ab.Tag.no), ((Go.Ab.AV.int Go.IntKind.u64 n1), Go.Ab.Tag.no), ((Go.Ab.AV.int Go.IntKind.u64 n2), Go.Ab.Tag.no), ((Go.Ab.AV.int Go.IntKind.u64 n3), Go.Ab.Tag.no)], [((Go.Ab.AV.int Go.IntKind.u64 u0), Go.Ab.Tag.no), ((Go.Ab.AV.int Go.IntKind.u64 u1), Go.Ab.Tag.no), ((Go.Ab.AV.int Go.IntKind.u64 u2), Go.Ab.Tag.no), ((Go.Ab.AV.int Go.IntKind.u64 u3), Go.Ab.Tag.no)]] []))))))
set_option maxRecDepth 20000 in
theorem vc4b (a0 a1 a2 a3 b0 b1 b2 b3 x y : Int) (X Y : Blk) (m0 m1 m2 m3 n0 n1 n2 n3 u0 u1 u2 u3 n i : Int) (Q : Post1) (h : F4b a0 a1 a2 a3 b0 b1 b2 b3 x y X Y m0 m1 m2 m3 n0 n1 n2 n3 u0 u1 u2 u3 n i Q) : Env0.codeW (ev 4 0 0) (genD 4 1) [0, 0, 1, 0, 1, 1, 1, 1] (subR [0, 0, 1, 0, 1, 1, 1, 1] (bodyOf Try.f4)) (fr4 x y n i) (st4 a0 a1 a2 a3 b0 b1 b2 b3 x y X Y m0 m1 m2 m3 n0 n1 n2 n3 u0 u1 u2 u3) Q :=
  (by kernel_rfl : F4b a0 a1 a2 a3 b0 b1 b2 b3 x y X Y m0 m1 m2 m3 n0 n1 n2 n3 u0 u1 u2 u3 n i Q = Env0.codeW (ev 4 0 0) (genD 4 1) [0, 0, 1, 0, 1, 1, 1, 1] (subR [0, 0, 1, 0, 1, 1, 1, 1] (bodyOf Try.f4)) (fr4 x y n i) (st4 a0 a1 a2 a3 b0 b1 b2 b3 x y X Y m0 m1 m2 m3 n0 n1 n2 n3 u0 u1 u2 u3) Q).mp h

theorem aw (w0 w1 w2 w3 a b : Int) (i : Nat) (ws : List Int) (h : ws = addR (b + 1 - a).toNat [w0, w1, w2, w3] a) : addW w0 w1 w2 w3 a b i = ws.getD i 0 := by rw [h]; rfl
theorem addR_end : ∀ (n : Nat) (ws : List Int) (c : Int), addR (n + 1) ws c = addL (addR n ws c) (c + n)
  | 0, ws, c => by simp [addR]
  | n + 1, ws, c => by
    have e : addR (n + 2) ws c = addR (n + 1) (addL ws c) (c + 1) := rfl
    rw [e, addR_end n (addL ws c) (c + 1)]
    have e2 : addR (n + 1) ws c = addR n (addL ws c) (c + 1) := rfl
    rw [e2]
    congr 1
    omega
def I20 (w0 w1 w2 w3 a b : Int) (m : Nat) (fr : Fr) (S : St) : Prop := ∃ (n : Nat) (v0 v1 v2 v3 : Int), a + n ≤ 256 ∧ (n = 0 ∨ a + n ≤ b + 1) ∧ m = (256 - (a + n)).toNat ∧ [v0, v1, v2, v3] = addR n [w0, w1, w2, w3] a ∧ fr = fr20 b (a + n) ∧ S = ⟨[blk4 v0 v1 v2 v3, blk4 0 0 0 0], []⟩
theorem loop20 : subR [0, 1, 0, 1] (bodyOf Try.f20) = .loop (subR [0, 0, 1, 0, 1] (bodyOf Try.f20)) := by kernel_rfl
theorem at20 : AtSound cx 0 0 (gen 20) (bodyOf Try.f20) := by
  refine at_cons ?_ at_nil
  intro fr S Q hL
  obtain ⟨w0, w1, w2, w3, a, b, rfl, rfl, ⟨⟨a0, a1⟩, b0, b1⟩, hQ⟩ := hL
  rw [loop20]
  refine CodeH.loopW (I20 w0 w1 w2 w3 a b) ?_ (m := (256 - a).toNat) ⟨0, w0, w1, w2, w3, by omega, .inl rfl, by simp, rfl, by simp, rfl⟩
  intro m fr S hI
  obtain ⟨n, v0, v1, v2, v3, h1, h2, rfl, hv, rfl, rfl⟩ := hI
  refine codeW_sound (e := ev 20 0 0) (g := genD 20 1) rfl rfl rfl hm tabL_nil (root := bodyOf Try.f20) at_nil _ [0, 0, 1, 0, 1] rfl _ _ _ ?_
  refine vc20b v0 v1 v2 v3 b (a + n) _ ?_
  intro r0 e0 r1 e1
  have hr0 : r0 = b := by rw [e0, IntKind.wrap_i64]; omega
  refine ⟨implB_intro fun e => ⟨nz64, fun r2 e2 => ?_⟩, implB_intro fun e => ?_⟩
  · have hle : a + n ≤ b := by rw [e1, hr0] at e; simpa using e
    have h2 : r2 = (a + n) / 64 := by rw [e2, Int.tdiv_eq_ediv_of_nonneg (by omega), IntKind.wrap_i64]; omega
    refine ⟨by unfold inR; omega, [v0, v1, v2, v3].getD r2.toNat 0, ?_, nz64, fun r4 e4 => ?_⟩
    · have : r2 = 0 ∨ r2 = 1 ∨ r2 = 2 ∨ r2 = 3 := by omega
      rcases this with h | h | h | h <;> rw [h] <;> rfl
    have h4 : r4 = (a + n) % 64 := by rw [e4, Int.tmod_eq_emod_of_nonneg (by omega)]
    refine ⟨by unfold nonneg; omega, fun r5 e5 r6 e6 => ⟨by unfold inR; omega, by omega, ?_⟩⟩
    have h5 : r5 = 2 ^ ((a + n) % 64).toNat := by
      obtain ⟨p1, p2⟩ := pow_wf ((a + n) % 64).toNat (by omega)
      rw [e5, h4, Nat.min_eq_left (by omega), Int.one_mul, IntKind.wrap_u64]
      unfold wf at p1
      generalize (2 : Int) ^ ((a + n) % 64).toNat = y at *
      omega
    have hn : addR (n + 1) [w0, w1, w2, w3] a = [v0, v1, v2, v3].set r2.toNat r6 := by
      rw [addR_end, ← hv]
      unfold addL
      rw [e6, h5, h2]
    have key : ∃ u0 u1 u2 u3, [v0, v1, v2, v3].set r2.toNat r6 = [u0, u1, u2, u3] ∧ replaceAt (blk4 v0 v1 v2 v3) (0 + r2.toNat * 1) (keptCells (decide (0 < 0)) (0 + r2.toNat * 1) (blk4 v0 v1 v2 v3) (expand (.int .u64 r6, .no))) = blk4 u0 u1 u2 u3 := by
      have : r2 = 0 ∨ r2 = 1 ∨ r2 = 2 ∨ r2 = 3 := by omega
      rcases this with h | h | h | h <;> rw [h] <;> exact ⟨_, _, _, _, rfl, rfl⟩
    obtain ⟨u0, u1, u2, u3, k1, k2⟩ := key
    refine ⟨u0, u1, u2, u3, ?_, k2, ⟨_, ?_, rfl⟩, fun r11 e11 => ?_⟩
    · exact congrArg (List.map fun (x : SV) => x.1) k2
    · have : r2 = 0 ∨ r2 = 1 ∨ r2 = 2 ∨ r2 = 3 := by omega
      rcases this with h | h | h | h <;> rw [h] <;> rfl
    · have h11 : r11 = a + (n + 1 : Nat) := by rw [e11, IntKind.wrap_i64]; omega
      refine ⟨(256 - (a + (n + 1 : Nat))).toNat, fr20 b (a + (n + 1 : Nat)), _, by omega, Wkn.frame ?_, n + 1, u0, u1, u2, u3, by omega, .inr (by omega), rfl, by rw [hn, k1], rfl, rfl⟩
      rw [h11]
      repeat' first
        | exact .nil
        | refine .keep ?_
        | refine .drop ?_
  · have hgt : b < a + n := by rw [e1, hr0] at e; simpa using e
    have hn : n = (b + 1 - a).toNat := by omega
    have q : ∀ i x, [v0, v1, v2, v3].getD i 0 = x → x = addW w0 w1 w2 w3 a b i := fun i x hx => by rw [← hx, hv, hn]; rfl
    refine ⟨fr20 b (a + n), _, Wkn.frame ?_, hQ (a + n) v0 v1 v2 v3 (q 0 _ rfl) (q 1 _ rfl) (q 2 _ rfl) (q 3 _ rfl)⟩
    repeat' first
      | exact .nil
      | refine .keep ?_
      | refine .drop ?_
theorem sound20 : SpecSound cx 20 s20 := by
  refine fn_meets2 (pre := noPre) (g := gen 20) hm tabL_nil hname (fn := Try.f20) Try.func20 (k := bodyOf Try.f20) rfl .plain (fun args S K Kp h => ?_)
  unfold s20 at h
  simp only at h
  split at h
  · rename_i w0 w1 w2 w3 a b
    obtain ⟨hab, h⟩ := h
    refine ⟨at20, vc20 w0 w1 w2 w3 a b K Kp ?_⟩
    intro r0 e0
    have : r0 = a := by rw [e0, IntKind.wrap_i64]; omega
    subst this
    exact ⟨w0, w1, w2, w3, r0, b, rfl, rfl, hab, fun i v0 v1 v2 v3 e0 e1 e2 e3 => h v0 e0 v1 e1 v2 e2 v3 e3⟩
  · exact h.elim
theorem sound11 : SpecSound cx 11 s20 := by
  refine fn_meets (pre := noPre) (g := gen 11) hm (tabL_cons sound20 tabL_nil) hname (fn := Try.f11) Try.func11 (k := bodyOf Try.f11) rfl .plain (fun _ _ => at_nil) (fun args S K Kp h => ?_)
  unfold s20 at h
  simp only at h
  split at h
  · rename_i w0 w1 w2 w3 a b
    exact vc11 w0 w1 w2 w3 a b K Kp h
  · exact h.elim
theorem xor_max {w : Int} (h : wf w) : xorI .u64 18446744073709551615 w = notW w := by
  have e : xorI .u64 18446744073709551615 w = IntKind.u64.wrap ((BitVec.ofInt 64 18446744073709551615 ^^^ BitVec.ofInt 64 w).toNat : Int) := rfl
  have e2 : BitVec.ofInt 64 18446744073709551615 = BitVec.allOnes 64 := by decide
  rw [e, e2, BitVec.allOnes_xor, BitVec.toNat_not, ofInt_nat w h, IntKind.wrap_u64]
  unfold wf at h; unfold notW
  omega
theorem loop21 : subR [0, 1, 0, 1] (bodyOf Try.f21) = .loop (subR [0, 0, 1, 0, 1] (bodyOf Try.f21)) := by kernel_rfl
theorem loop22 : subR [0, 1, 0, 1] (bodyOf Try.f22) = .loop (subR [0, 0, 1, 0, 1] (bodyOf Try.f22)) := by kernel_rfl
def upTo (i j : Nat) (x y : Int) : Int := if j < i then x else y
def I21 (w0 w1 w2 w3 : Int) (m : Nat) (fr : Fr) (S : St) : Prop := ∃ i : Nat, i ≤ 4 ∧ m = 4 - i ∧ fr = fr21 i ∧ S = ⟨[blk4 (upTo i 0 (notW w0) w0) (upTo i 1 (notW w1) w1) (upTo i 2 (notW w2) w2) (upTo i 3 (notW w3) w3), blk4 0 0 0 0], []⟩
theorem at21 : AtSound cx 0 0 (gen 21) (bodyOf Try.f21) := by
  refine at_cons ?_ at_nil
  intro fr S Q hL
  obtain ⟨w0, w1, w2, w3, rfl, rfl, ⟨g0, g1, g2, g3⟩, hQ⟩ := hL
  rw [loop21]
  refine CodeH.loopW (I21 w0 w1 w2 w3) ?_ (m := 4) ⟨0, by omega, rfl, rfl, rfl⟩
  intro m fr S hI
  obtain ⟨i, h1, rfl, rfl, rfl⟩ := hI
  refine codeW_sound (e := ev 21 0 0) (g := genD 21 1) rfl rfl rfl hm tabL_nil (root := bodyOf Try.f21) at_nil _ [0, 0, 1, 0, 1] rfl _ _ _ ?_
  refine vc21b _ _ _ _ (i : Int) _ ?_
  intro r0 e0
  refine ⟨implB_intro fun e => ?_, implB_intro fun e => ?_⟩
  · have hlt : i < 4 := by rw [e0] at e; have := of_decide_eq_true e; omega
    have : i = 0 ∨ i = 1 ∨ i = 2 ∨ i = 3 := by omega
    rcases this with rfl | rfl | rfl | rfl
    · refine ⟨by unfold inR; omega, _, rfl, fun r3 e3 => ⟨by unfold inR; omega, by decide, _, _, _, _, rfl, rfl, fun r10 e10 => ?_⟩⟩
      have h3 : r3 = notW w0 := by rw [e3]; exact xor_max g0
      have h10 : r10 = ((1 : Nat) : Int) := by rw [e10, IntKind.wrap_i64]; omega
      rw [h3, h10]
      refine ⟨3, fr21 ((1 : Nat) : Int), _, by omega, Wkn.frame ?_, 1, by omega, rfl, rfl, rfl⟩
      repeat' first
        | exact .nil
        | refine .keep ?_
        | refine .drop ?_
    · refine ⟨by unfold inR; omega, _, rfl, fun r3 e3 => ⟨by unfold inR; omega, by decide, _, _, _, _, rfl, rfl, fun r10 e10 => ?_⟩⟩
      have h3 : r3 = notW w1 := by rw [e3]; exact xor_max g1
      have h10 : r10 = ((2 : Nat) : Int) := by rw [e10, IntKind.wrap_i64]; omega
      rw [h3, h10]
      refine ⟨2, fr21 ((2 : Nat) : Int), _, by omega, Wkn.frame ?_, 2, by omega, rfl, rfl, rfl⟩
      repeat' first
        | exact .nil
        | refine .keep ?_
        | refine .drop ?_
    · refine ⟨by unfold inR; omega, _, rfl, fun r3 e3 => ⟨by unfold inR; omega, by decide, _, _, _, _, rfl, rfl, fun r10 e10 => ?_⟩⟩
      have h3 : r3 = notW w2 := by rw [e3]; exact xor_max g2
      have h10 : r10 = ((3 : Nat) : Int) := by rw [e10, IntKind.wrap_i64]; omega
      rw [h3, h10]
      refine ⟨1, fr21 ((3 : Nat) : Int), _, by omega, Wkn.frame ?_, 3, by omega, rfl, rfl, rfl⟩
      repeat' first
        | exact .nil
        | refine .keep ?_
        | refine .drop ?_
    · refine ⟨by unfold inR; omega, _, rfl, fun r3 e3 => ⟨by unfold inR; omega, by decide, _, _, _, _, rfl, rfl, fun r10 e10 => ?_⟩⟩
      have h3 : r3 = notW w3 := by rw [e3]; exact xor_max g3
      have h10 : r10 = ((4 : Nat) : Int) := by rw [e10, IntKind.wrap_i64]; omega
      rw [h3, h10]
      refine ⟨0, fr21 ((4 : Nat) : Int), _, by omega, Wkn.frame ?_, 4, by omega, rfl, rfl, rfl⟩
      repeat' first
        | exact .nil
        | refine .keep ?_
        | refine .drop ?_
  · have h4 : i = 4 := by rw [e0] at e; have := of_decide_eq_false e; omega
    subst h4
    refine ⟨fr21 ((4 : Nat) : Int), _, Wkn.frame ?_, hQ ((4 : Nat) : Int) _ _ _ _ rfl rfl rfl rfl⟩
    repeat' first
      | exact .nil
      | refine .keep ?_
      | refine .drop ?_
theorem sound21 : SpecSound cx 21 s21 := by
  refine fn_meets2 (pre := noPre) (g := gen 21) hm tabL_nil hname (fn := Try.f21) Try.func21 (k := bodyOf Try.f21) rfl .plain (fun args S K Kp h => ?_)
  unfold s21 at h
  simp only at h
  split at h
  · rename_i w0 w1 w2 w3
    obtain ⟨hw, h⟩ := h
    exact ⟨at21, vc21 w0 w1 w2 w3 K Kp ⟨w0, w1, w2, w3, rfl, rfl, hw, fun i v0 v1 v2 v3 e0 e1 e2 e3 => h v0 e0 v1 e1 v2 e2 v3 e3⟩⟩
  · exact h.elim
theorem sound12 : SpecSound cx 12 s21 := by
  refine fn_meets (pre := noPre) (g := gen 12) hm (tabL_cons sound21 tabL_nil) hname (fn := Try.f12) Try.func12 (k := bodyOf Try.f12) rfl .plain (fun _ _ => at_nil) (fun args S K Kp h => ?_)
  unfold s21 at h
  simp only at h
  split at h
  · rename_i w0 w1 w2 w3
    exact vc12 w0 w1 w2 w3 K Kp h
  · exact h.elim
def I22 (a0 a1 a2 a3 b0 b1 b2 b3 : Int) (m : Nat) (fr : Fr) (S : St) : Prop := ∃ i : Nat, i ≤ 4 ∧ m = 4 - i ∧ fr = fr22 i ∧
  S = ⟨[blk4 (upTo i 0 (orI .u64 a0 b0) a0) (upTo i 1 (orI .u64 a1 b1) a1) (upTo i 2 (orI .u64 a2 b2) a2) (upTo i 3 (orI .u64 a3 b3) a3), blk4 b0 b1 b2 b3, blk4 0 0 0 0], []⟩
theorem at22 : AtSound cx 0 0 (gen 22) (bodyOf Try.f22) := by
  refine at_cons ?_ at_nil
  intro fr S Q hL
  obtain ⟨a0, a1, a2, a3, b0, b1, b2, b3, rfl, rfl, hQ⟩ := hL
  rw [loop22]
  refine CodeH.loopW (I22 a0 a1 a2 a3 b0 b1 b2 b3) ?_ (m := 4) ⟨0, by omega, rfl, rfl, rfl⟩
  intro m fr S hI
  obtain ⟨i, h1, rfl, rfl, rfl⟩ := hI
  refine codeW_sound (e := ev 22 0 0) (g := genD 22 1) rfl rfl rfl hm tabL_nil (root := bodyOf Try.f22) at_nil _ [0, 0, 1, 0, 1] rfl _ _ _ ?_
  refine vc22b _ _ _ _ b0 b1 b2 b3 (i : Int) _ ?_
  intro r0 e0
  refine ⟨implB_intro fun e => ?_, implB_intro fun e => ?_⟩
  · have hlt : i < 4 := by rw [e0] at e; have := of_decide_eq_true e; omega
    have : i = 0 ∨ i = 1 ∨ i = 2 ∨ i = 3 := by omega
    rcases this with rfl | rfl | rfl | rfl
    · refine ⟨by unfold inR; omega, _, rfl, by unfold inR; omega, _, rfl, fun r3 e3 => ⟨by unfold inR; omega, by decide, _, _, _, _, rfl, rfl, ⟨_, rfl, rfl⟩, ⟨_, rfl, rfl⟩, fun r10 e10 => ?_⟩⟩
      have h3 : r3 = orI .u64 a0 b0 := e3
      have h10 : r10 = ((1 : Nat) : Int) := by rw [e10, IntKind.wrap_i64]; omega
      rw [h3, h10]
      refine ⟨3, fr22 ((1 : Nat) : Int), _, by omega, Wkn.frame ?_, 1, by omega, rfl, rfl, rfl⟩
      repeat' first
        | exact .nil
        | refine .keep ?_
        | refine .drop ?_
    · refine ⟨by unfold inR; omega, _, rfl, by unfold inR; omega, _, rfl, fun r3 e3 => ⟨by unfold inR; omega, by decide, _, _, _, _, rfl, rfl, ⟨_, rfl, rfl⟩, ⟨_, rfl, rfl⟩, fun r10 e10 => ?_⟩⟩
      have h3 : r3 = orI .u64 a1 b1 := e3
      have h10 : r10 = ((2 : Nat) : Int) := by rw [e10, IntKind.wrap_i64]; omega
      rw [h3, h10]
      refine ⟨2, fr22 ((2 : Nat) : Int), _, by omega, Wkn.frame ?_, 2, by omega, rfl, rfl, rfl⟩
      repeat' first
        | exact .nil
        | refine .keep ?_
        | refine .drop ?_
    · refine ⟨by unfold inR; omega, _, rfl, by unfold inR; omega, _, rfl, fun r3 e3 => ⟨by unfold inR; omega, by decide, _, _, _, _, rfl, rfl, ⟨_, rfl, rfl⟩, ⟨_, rfl, rfl⟩, fun r10 e10 => ?_⟩⟩
      have h3 : r3 = orI .u64 a2 b2 := e3
      have h10 : r10 = ((3 : Nat) : Int) := by rw [e10, IntKind.wrap_i64]; omega
      rw [h3, h10]
      refine ⟨1, fr22 ((3 : Nat) : Int), _, by omega, Wkn.frame ?_, 3, by omega, rfl, rfl, rfl⟩
      repeat' first
        | exact .nil
        | refine .keep ?_
        | refine .drop ?_
    · refine ⟨by unfold inR; omega, _, rfl, by unfold inR; omega, _, rfl, fun r3 e3 => ⟨by unfold inR; omega, by decide, _, _, _, _, rfl, rfl, ⟨_, rfl, rfl⟩, ⟨_, rfl, rfl⟩, fun r10 e10 => ?_⟩⟩
      have h3 : r3 = orI .u64 a3 b3 := e3
      have h10 : r10 = ((4 : Nat) : Int) := by rw [e10, IntKind.wrap_i64]; omega
      rw [h3, h10]
      refine ⟨0, fr22 ((4 : Nat) : Int), _, by omega, Wkn.frame ?_, 4, by omega, rfl, rfl, rfl⟩
      repeat' first
        | exact .nil
        | refine .keep ?_
        | refine .drop ?_
  · have h4 : i = 4 := by rw [e0] at e; have := of_decide_eq_false e; omega
    subst h4
    refine ⟨fr22 ((4 : Nat) : Int), _, Wkn.frame ?_, hQ ((4 : Nat) : Int) _ _ _ _ rfl rfl rfl rfl⟩
    repeat' first
      | exact .nil
      | refine .keep ?_
      | refine .drop ?_
theorem sound22 : SpecSound cx 22 s22 := by
  refine fn_meets2 (pre := noPre) (g := gen 22) hm tabL_nil hname (fn := Try.f22) Try.func22 (k := bodyOf Try.f22) rfl .plain (fun args S K Kp h => ?_)
  unfold s22 at h
  simp only at h
  split at h
  · rename_i a0 a1 a2 a3 b0 b1 b2 b3
    exact ⟨at22, vc22 a0 a1 a2 a3 b0 b1 b2 b3 K Kp ⟨a0, a1, a2, a3, b0, b1, b2, b3, rfl, rfl, fun i v0 v1 v2 v3 e0 e1 e2 e3 => h v0 e0 v1 e1 v2 e2 v3 e3⟩⟩
  · exact h.elim
theorem sound13 : SpecSound cx 13 s22 := by
  refine fn_meets (pre := noPre) (g := gen 13) hm (tabL_cons sound22 tabL_nil) hname (fn := Try.f13) Try.func13 (k := bodyOf Try.f13) rfl .plain (fun _ _ => at_nil) (fun args S K Kp h => ?_)
  unfold s22 at h
  simp only at h
  split at h
  · rename_i a0 a1 a2 a3 b0 b1 b2 b3
    exact vc13 a0 a1 a2 a3 b0 b1 b2 b3 K Kp h
  · exact h.elim
theorem cnt_bound (w : Int) : 0 ≤ cnt w ∧ cnt w ≤ 64 := by
  unfold cnt
  have : (List.range 64).countP (fun i => w.toNat.testBit i) ≤ (List.range 64).length := List.countP_le_length
  rw [List.length_range] at this
  omega
theorem loop14 : subR [0, 1, 0, 1, 1] (bodyOf Try.f14) = .loop (subR [0, 0, 1, 0, 1, 1] (bodyOf Try.f14)) := by kernel_rfl
def sumTo (w0 w1 w2 w3 : Int) : Nat → Int
  | 0 => 0
  | 1 => cnt w0
  | 2 => cnt w0 + cnt w1
  | 3 => cnt w0 + cnt w1 + cnt w2
  | _ => cnt w0 + cnt w1 + cnt w2 + cnt w3
def I14 (w0 w1 w2 w3 : Int) (m : Nat) (fr : Fr) (S : St) : Prop := ∃ i : Nat, i ≤ 4 ∧ m = 4 - i ∧ fr = fr14 w0 w1 w2 w3 (sumTo w0 w1 w2 w3 i) i ∧ S = ⟨[blk4 w0 w1 w2 w3], []⟩
theorem at14 (hs : SpecSound cx 23 s23) : AtSound cx 0 0 (gen 14) (bodyOf Try.f14) := by
  refine at_cons ?_ at_nil
  intro fr S Q hL
  obtain ⟨w0, w1, w2, w3, rfl, rfl, ⟨g0, g1, g2, g3⟩, hQ⟩ := hL
  rw [loop14]
  refine CodeH.loopW (I14 w0 w1 w2 w3) ?_ (m := 4) ⟨0, by omega, rfl, rfl, rfl⟩
  intro m fr S hI
  obtain ⟨i, h1, rfl, rfl, rfl⟩ := hI
  refine codeW_sound (e := ev 14 0 0) (g := genD 14 1) rfl rfl rfl hm (tabL_cons hs tabL_nil) (root := bodyOf Try.f14) at_nil _ [0, 0, 1, 0, 1, 1] rfl _ _ _ ?_
  refine vc14b w0 w1 w2 w3 _ (i : Int) _ ?_
  have c0 := cnt_bound w0
  have c1 := cnt_bound w1
  have c2 := cnt_bound w2
  have c3 := cnt_bound w3
  intro r0 e0
  refine ⟨implB_intro fun e => ?_, implB_intro fun e => ?_⟩
  · have hlt : i < 4 := by rw [e0] at e; have := of_decide_eq_true e; omega
    have : i = 0 ∨ i = 1 ∨ i = 2 ∨ i = 3 := by omega
    rcases this with rfl | rfl | rfl | rfl
    · refine ⟨by unfold inR; omega, w0, rfl, g0, fun x2 e2 r3 e3 r4 e4 => ?_⟩
      have h3 : r3 = sumTo w0 w1 w2 w3 1 := by rw [e3, e2, IntKind.wrap_i64]; simp only [sumTo]; omega
      have h4 : r4 = ((1 : Nat) : Int) := by rw [e4, IntKind.wrap_i64]; omega
      rw [h3, h4]
      refine ⟨3, fr14 w0 w1 w2 w3 (sumTo w0 w1 w2 w3 1) ((1 : Nat) : Int), _, by omega, Wkn.frame ?_, 1, by omega, rfl, rfl, rfl⟩
      repeat' first
        | exact .nil
        | refine .keep ?_
        | refine .drop ?_
    · refine ⟨by unfold inR; omega, w1, rfl, g1, fun x2 e2 r3 e3 r4 e4 => ?_⟩
      have h3 : r3 = sumTo w0 w1 w2 w3 2 := by rw [e3, e2, IntKind.wrap_i64]; simp only [sumTo]; omega
      have h4 : r4 = ((2 : Nat) : Int) := by rw [e4, IntKind.wrap_i64]; omega
      rw [h3, h4]
      refine ⟨2, fr14 w0 w1 w2 w3 (sumTo w0 w1 w2 w3 2) ((2 : Nat) : Int), _, by omega, Wkn.frame ?_, 2, by omega, rfl, rfl, rfl⟩
      repeat' first
        | exact .nil
        | refine .keep ?_
        | refine .drop ?_
    · refine ⟨by unfold inR; omega, w2, rfl, g2, fun x2 e2 r3 e3 r4 e4 => ?_⟩
      have h3 : r3 = sumTo w0 w1 w2 w3 3 := by rw [e3, e2, IntKind.wrap_i64]; simp only [sumTo]; omega
      have h4 : r4 = ((3 : Nat) : Int) := by rw [e4, IntKind.wrap_i64]; omega
      rw [h3, h4]
      refine ⟨1, fr14 w0 w1 w2 w3 (sumTo w0 w1 w2 w3 3) ((3 : Nat) : Int), _, by omega, Wkn.frame ?_, 3, by omega, rfl, rfl, rfl⟩
      repeat' first
        | exact .nil
        | refine .keep ?_
        | refine .drop ?_
    · refine ⟨by unfold inR; omega, w3, rfl, g3, fun x2 e2 r3 e3 r4 e4 => ?_⟩
      have h3 : r3 = sumTo w0 w1 w2 w3 4 := by rw [e3, e2, IntKind.wrap_i64]; simp only [sumTo]; omega
      have h4 : r4 = ((4 : Nat) : Int) := by rw [e4, IntKind.wrap_i64]; omega
      rw [h3, h4]
      refine ⟨0, fr14 w0 w1 w2 w3 (sumTo w0 w1 w2 w3 4) ((4 : Nat) : Int), _, by omega, Wkn.frame ?_, 4, by omega, rfl, rfl, rfl⟩
      repeat' first
        | exact .nil
        | refine .keep ?_
        | refine .drop ?_
  · have h4 : i = 4 := by rw [e0] at e; have := of_decide_eq_false e; omega
    subst h4
    refine ⟨fr14 w0 w1 w2 w3 (sumTo w0 w1 w2 w3 4) ((4 : Nat) : Int), _, Wkn.frame ?_, hQ ((4 : Nat) : Int) _ rfl⟩
    repeat' first
      | exact .nil
      | refine .keep ?_
      | refine .drop ?_
set_option maxRecDepth 20000 in
theorem sound14 (hs : SpecSound cx 23 s23) : SpecSound cx 14 s14 := by
  refine fn_meets2 (pre := noPre) (g := gen 14) hm (tabL_cons hs tabL_nil) hname (fn := Try.f14) Try.func14 (k := bodyOf Try.f14) rfl .plain (fun args S K Kp h => ?_)
  unfold s14 at h
  simp only at h
  split at h
  · rename_i w0 w1 w2 w3
    obtain ⟨hw, h⟩ := h
    exact ⟨at14 hs, vc14 w0 w1 w2 w3 K Kp ⟨w0, w1, w2, w3, rfl, rfl, hw, fun i n e => h n e⟩⟩
  · exact h.elim
theorem put_bool (n : Nat) (hn : n < 256) (w0 w1 w2 w3 : Int) : replaceAt (boolsTo n w0 w1 w2 w3) n [(.bool (hasZ w0 w1 w2 w3 (n : Int)), .no)] = boolsTo (n + 1) w0 w1 w2 w3 := by
  apply List.ext_getElem
  · simp [replaceAt, boolsTo]; omega
  · intro k h1 h2
    have hk : k < 256 := by simpa [boolsTo] using h2
    simp only [replaceAt, boolsTo, List.getElem_append, List.getElem_take, List.getElem_drop, List.getElem_map, List.getElem_range, List.length_append, List.length_take, List.length_map, List.length_range, List.length_cons, List.length_nil]
    have hm : min n 256 = n := by omega
    simp only [hm]
    by_cases c1 : k < n
    · rw [dif_pos (by omega), dif_pos c1, decide_eq_true c1, decide_eq_true (show k < n + 1 by omega)]
    · by_cases c2 : k = n
      · subst c2
        rw [dif_pos (by omega), dif_neg (by omega)]
        simp
      · rw [dif_neg (by omega)]
        have e : n + (0 + 1) + (k - (n + (0 + 1))) = k := by omega
        simp only [e]
        rw [decide_eq_false c1, decide_eq_false (show ¬ k < n + 1 by omega)]
theorem bools0 (w0 w1 w2 w3 : Int) : boolsTo 0 w0 w1 w2 w3 = Z256 := by
  have h : ∀ (i : Nat), ((AV.bool (decide (i < 0) && hasZ w0 w1 w2 w3 (i : Int)), Tag.no) : SV) = (.bool false, .no) := fun i => by simp
  unfold boolsTo
  simp only [h]
  rw [List.map_const', List.length_range]
theorem len_bools (n : Nat) (w0 w1 w2 w3 : Int) : (boolsTo n w0 w1 w2 w3).length = 256 := by simp [boolsTo]
def I10 (w0 w1 w2 w3 : Int) (m : Nat) (fr : Fr) (S : St) : Prop := ∃ i : Nat, i ≤ 256 ∧ m = 256 - i ∧ fr = fr10 i ∧ S = ⟨[blk4 w0 w1 w2 w3, Z256, boolsTo i w0 w1 w2 w3], []⟩
theorem loop10 : subR [0, 1, 0, 1, 1] (bodyOf Try.f10) = .loop (subR [0, 0, 1, 0, 1, 1] (bodyOf Try.f10)) := by kernel_rfl
theorem at10 : AtSound cx 0 0 (gen 10) (bodyOf Try.f10) := by
  refine at_cons ?_ at_nil
  intro fr S Q hL
  obtain ⟨w0, w1, w2, w3, cells, rfl, rfl, rfl, hw, hQ⟩ := hL
  rw [loop10]
  refine CodeH.loopW (I10 w0 w1 w2 w3) ?_ (m := 256) ⟨0, by omega, rfl, rfl, by rw [bools0]⟩
  intro m fr S hI
  obtain ⟨i, h1, rfl, rfl, rfl⟩ := hI
  refine codeW_sound (e := ev 10 0 0) (g := genD 10 1) rfl rfl rfl hm tabL_nil (root := bodyOf Try.f10) at_nil _ [0, 0, 1, 0, 1, 1] rfl _ _ _ ?_
  refine vc10b w0 w1 w2 w3 (i : Int) _ _ ?_
  intro r0 e0
  refine ⟨implB_intro fun e => ⟨by unfold nonzero; decide, fun r1 e1 => ?_⟩, implB_intro fun e => ?_⟩
  · have hlt : i < 256 := by rw [e0] at e; have := of_decide_eq_true e; omega
    have h1 : r1 = ((i / 64 : Nat) : Int) := by rw [e1, Int.tdiv_eq_ediv_of_nonneg (by omega), IntKind.wrap_i64]; omega
    refine ⟨by unfold inR; omega, [w0, w1, w2, w3].getD (i / 64) 0, ?_, by unfold nonzero; decide, fun r3 e3 r4 e4 => ?_⟩
    · rw [h1]
      have : i / 64 = 0 ∨ i / 64 = 1 ∨ i / 64 = 2 ∨ i / 64 = 3 := by omega
      rcases this with h | h | h | h <;> rw [h] <;> rfl
    have h4 : r4 = ((i % 64 : Nat) : Int) := by rw [e4, e3, Int.tmod_eq_emod_of_nonneg (by omega), IntKind.wrap_u64]; omega
    refine ⟨by unfold nonneg; omega, fun r5 e5 => ⟨by unfold nonzero; decide, fun r6 e6 r7 e7 => ⟨by unfold inR; omega, by rw [len_bools]; omega, fun cs8 e8 r9 e9 => ?_⟩⟩⟩
    have hwf := (wfL_mk hw).2 (i / 64) (by omega)
    have h7 : r7 = hasZ w0 w1 w2 w3 (i : Int) := by
      rw [hasZ_bit hw i hlt, e7, e6, e5, h4, Int.toNat_natCast, shr_nat hwf _ (by omega), Int.tmod_eq_emod_of_nonneg (Int.natCast_nonneg _)]
      unfold hasL
      rw [Nat.testBit_eq_decide_div_mod_eq, Bool.eq_iff_iff]
      simp only [beq_iff_eq, decide_eq_true_eq]
      omega
    have h8 : cs8 = boolsTo (i + 1) w0 w1 w2 w3 := by
      rw [e8, h7, ← put_bool i hlt]
      rw [show 0 + (Int.toNat (i : Int)) * 1 = i by omega]
      rfl
    have h9 : r9 = ((i + 1 : Nat) : Int) := by rw [e9, IntKind.wrap_i64]; omega
    rw [h8, h9]
    refine ⟨256 - (i + 1), fr10 ((i + 1 : Nat) : Int), _, by omega, Wkn.frame ?_, i + 1, by omega, rfl, rfl, rfl⟩
    repeat' first
      | exact .nil
      | refine .keep ?_
      | refine .drop ?_
  · have h4 : i = 256 := by rw [e0] at e; have := of_decide_eq_false e; omega
    subst h4
    refine ⟨fr10 ((256 : Nat) : Int), _, Wkn.frame ?_, hQ ((256 : Nat) : Int) _ rfl⟩
    repeat' first
      | exact .nil
      | refine .keep ?_
      | refine .drop ?_
theorem lows_of {m : Nat} : ∀ {xs : List AV}, (∀ x ∈ xs, x.low m = true) → AV.lows m xs = true
  | [], _ => rfl
  | x :: xs, h => by
    simp only [AV.lows, h x (List.mem_cons_self ..), lows_of fun y hy => h y (List.mem_cons_of_mem _ hy), Bool.and_self]
theorem expand_flat (L : Blk) (h : ∀ x ∈ L, x.2 = .no) : expand (.agg (L.map fun x => x.1), .agg (L.map fun x => x.2)) = L := by
  unfold expand
  apply List.ext_getElem
  · simp
  · intro k h1 h2
    have hx := h L[k] (List.getElem_mem h2)
    simp [Tag.at, List.getD_eq_getElem?_getD, h2, hx, Tag.flat]
    exact Prod.ext rfl hx.symm
theorem kept_flat (o : Nat) (old L : Blk) (h : ∀ x ∈ L, x.2 = .no) : keptCells false o old L = L := by
  unfold keptCells
  apply List.ext_getElem
  · simp
  · intro k h1 h2
    have hx := h L[k] (List.getElem_mem h2)
    simp [hx, keepTag]
    exact Prod.ext rfl hx.symm
theorem bools_flat (n : Nat) (w0 w1 w2 w3 : Int) : ∀ x ∈ boolsTo n w0 w1 w2 w3, x.2 = .no ∧ x.1.isCell = true ∧ ∀ m, x.1.low m = true := by
  intro x hx
  unfold boolsTo at hx
  obtain ⟨i, _, rfl⟩ := List.mem_map.1 hx
  exact ⟨rfl, rfl, fun _ => rfl⟩
theorem bools_of (w0 w1 w2 w3 : Int) : (boolsTo 256 w0 w1 w2 w3).map (fun x => x.1) = ofL w0 w1 w2 w3 := by
  unfold boolsTo ofL
  rw [List.map_map]
  exact List.map_congr_left fun i hi => by
    have : i < 256 := by simpa using hi
    simp [this]
set_option maxRecDepth 20000 in
theorem sound10 : SpecSound cx 10 s10 := by
  refine fn_meets2 (pre := noPre) (g := gen 10) hm tabL_nil hname (fn := Try.f10) Try.func10 (k := bodyOf Try.f10) rfl .great (fun args S K Kp h => ?_)
  unfold s10 at h
  simp only at h
  split at h
  · rename_i w0 w1 w2 w3
    obtain ⟨hw, h⟩ := h
    refine ⟨at10, vc10 w0 w1 w2 w3 K Kp ?_⟩
    have ez : expand (.agg (List.replicate 256 (.bool false)), .agg (List.replicate 256 .no)) = Z256 := by
      have := expand_flat Z256 (fun x hx => by rw [List.eq_of_mem_replicate hx])
      rw [List.map_replicate, List.map_replicate] at this
      exact this
    refine ⟨⟨rfl, by decide, ?_, by decide⟩, fun cs e => ⟨w0, w1, w2, w3, cs, rfl, rfl, e, hw, fun i cs8 e8 => ?_⟩⟩
    · intro y hy
      rw [ez] at hy
      rw [List.eq_of_mem_replicate hy]
      exact ⟨rfl, rfl⟩
    have l8 : cs8.length = 256 := by rw [e8, len_bools]
    have t8 : List.take 256 (List.drop 0 cs8) = cs8 := by rw [List.drop_zero, List.take_of_length_le (by omega)]
    have f8 : ∀ x ∈ cs8, x.2 = .no ∧ x.1.isCell = true ∧ ∀ m, x.1.low m = true := by rw [e8]; exact bools_flat 256 w0 w1 w2 w3
    rw [t8]
    have ex := expand_flat cs8 fun x hx => (f8 x hx).1
    refine ⟨by omega, ⟨by rw [ex]; exact l8, by decide, fun y hy => ?_, by decide⟩, fun cs10 e10 => ?_⟩
    · rw [ex] at hy
      exact ⟨(f8 y hy).2.1, (f8 y hy).2.2 _⟩
    have h10 : cs10 = cs8 := by
      rw [e10, ex, show decide (1 < 0) = false from rfl, kept_flat 0 Z256 cs8 fun x hx => (f8 x hx).1]
      unfold replaceAt
      rw [List.take_zero, List.nil_append, List.drop_of_length_le (by rw [List.length_replicate]; omega), List.append_nil]
    rw [h10, t8]
    refine ⟨by omega, fun v hv => ?_, ?_⟩
    · have ev : v = collect cs8 := by
        have : v ∈ [collect cs8] := hv
        simpa using this
      rw [ev]
      unfold collect
      simp only [AV.low]
      exact lows_of fun x hx => by
        obtain ⟨y, hy, rfl⟩ := List.mem_map.1 hx
        exact (f8 y hy).2.2 _
    · exact h _ (by rw [e8, bools_of])
  · exact h.elim
/-- and acts on bytes apart -/
theorem and_low (a m : Nat) (b c : Nat) (hb : b < 256) (hc : c < 256) : (256 * a + b) &&& (256 * m + c) = 256 * (a &&& m) + (b &&& c) := by
  have h1 : ((256 * a + b) &&& (256 * m + c)) / 2 ^ 8 = (a &&& m) := by
    rw [Nat.and_div_two_pow]
    rw [show (256 * a + b) / 2 ^ 8 = a by omega, show (256 * m + c) / 2 ^ 8 = m by omega]
  have h2 : ((256 * a + b) &&& (256 * m + c)) % 2 ^ 8 = (b &&& c) := by
    rw [Nat.and_mod_two_pow]
    rw [show (256 * a + b) % 2 ^ 8 = b by omega, show (256 * m + c) % 2 ^ 8 = c by omega]
  omega
/-- the bits of pairs, of fours, of bytes -/
def p1 (m n : Nat) : Nat := ((n / 2) &&& m) + (n &&& m)
def p2 (m n : Nat) : Nat := ((n / 4) &&& m) + (n &&& m)
theorem low1 : ∀ x, x < 2 → ∀ r, r < 256 → (128 * x + r / 2) &&& 0x55 = (r / 2) &&& 0x55 := by decide +kernel
theorem low2 : ∀ x, x < 4 → ∀ r, r < 256 → (64 * x + r / 4) &&& 0x33 = (r / 4) &&& 0x33 := by decide +kernel
theorem p1_split (m q r : Nat) (hr : r < 256) : p1 (256 * m + 0x55) (256 * q + r) = 256 * p1 m q + p1 0x55 r := by
  unfold p1
  have e : (256 * q + r) / 2 = 256 * (q / 2) + (128 * (q % 2) + r / 2) := by omega
  rw [e, and_low _ _ _ _ (by omega) (by decide), and_low _ _ _ _ hr (by decide), low1 _ (by omega) r hr]
  omega
theorem p2_split (m q r : Nat) (hr : r < 256) : p2 (256 * m + 0x33) (256 * q + r) = 256 * p2 m q + p2 0x33 r := by
  unfold p2
  have e : (256 * q + r) / 4 = 256 * (q / 4) + (64 * (q % 4) + r / 4) := by omega
  rw [e, and_low _ _ _ _ (by omega) (by decide), and_low _ _ _ _ hr (by decide), low2 _ (by omega) r hr]
  omega
def p3 (m n : Nat) : Nat := (n / 16 + n) &&& m
/-- a byte's bits -/
def pc (r : Nat) : Nat := (List.range 8).countP fun i => r.testBit i
theorem byte1 : ∀ r, r < 256 → p1 0x55 r < 256 ∧ p2 0x33 (p1 0x55 r) < 69 ∧ p2 0x33 (p1 0x55 r) % 16 < 5 ∧ p3 0x0f (p2 0x33 (p1 0x55 r)) = pc r := by decide +kernel
theorem low3 : ∀ x, x < 5 → ∀ r, r < 69 → (16 * x + r / 16 + r) &&& 0x0f = (r / 16 + r) &&& 0x0f := by decide +kernel
theorem p3_split (m q r : Nat) (hr : r < 69) (hq : q % 16 < 5) : p3 (256 * m + 0x0f) (256 * q + r) = 256 * p3 m q + p3 0x0f r := by
  unfold p3
  have e : (256 * q + r) / 16 + (256 * q + r) = 256 * (q / 16 + q) + (16 * (q % 16) + r / 16 + r) := by omega
  rw [e, and_low _ _ _ _ (by omega) (by decide), low3 _ hq r hr]
def mk (b : Nat) : Nat → Nat
  | 0 => 0
  | k + 1 => 256 * mk b k + b
/-- the bytes' bits, each in its byte -/
def pcs : Nat → Nat → Nat
  | 0, _ => 0
  | k + 1, n => 256 * pcs k (n / 256) + pc (n % 256)
theorem swar : ∀ (k n : Nat), p2 (mk 0x33 k) (p1 (mk 0x55 k) n) % 16 < 5 ∧ p3 (mk 0x0f k) (p2 (mk 0x33 k) (p1 (mk 0x55 k) n)) = pcs k n
  | 0, n => by simp [mk, p1, p2, p3, pcs]
  | k + 1, n => by
    obtain ⟨h1, h2⟩ := swar k (n / 256)
    obtain ⟨b1, b2, b3, b4⟩ := byte1 (n % 256) (by omega)
    have e : n = 256 * (n / 256) + n % 256 := by omega
    have s1 : p1 (mk 0x55 (k + 1)) n = 256 * p1 (mk 0x55 k) (n / 256) + p1 0x55 (n % 256) := by
      conv => lhs; rw [e]
      exact p1_split _ _ _ (by omega)
    have s2 : p2 (mk 0x33 (k + 1)) (p1 (mk 0x55 (k + 1)) n) = 256 * p2 (mk 0x33 k) (p1 (mk 0x55 k) (n / 256)) + p2 0x33 (p1 0x55 (n % 256)) := by
      rw [s1]; exact p2_split _ _ _ b1
    refine ⟨by rw [s2]; omega, ?_⟩
    rw [s2]
    have s3 := p3_split (mk 0x0f k) (p2 (mk 0x33 k) (p1 (mk 0x55 k) (n / 256))) (p2 0x33 (p1 0x55 (n % 256))) b2 h1
    rw [show mk 0x0f (k + 1) = 256 * mk 0x0f k + 0x0f from rfl, s3, h2, b4]
    rfl
theorem masks : mk 0x55 8 = 6148914691236517205 ∧ mk 0x33 8 = 3689348814741910323 ∧ mk 0x0f 8 = 1085102592571150095 := by decide +kernel
theorem pc_le (r : Nat) : pc r ≤ 8 := by
  have : (List.range 8).countP (fun i => r.testBit i) ≤ (List.range 8).length := List.countP_le_length
  simpa [pc] using this
theorem cnt_bytes : ∀ (k n : Nat), (List.range (8 * (k + 1))).countP (fun i => n.testBit i) = pc (n % 256) + (List.range (8 * k)).countP (fun i => (n / 256).testBit i) := fun k n => by
  rw [show 8 * (k + 1) = 8 + 8 * k by omega, List.range_add, List.countP_append, List.countP_map]
  congr 1
  · exact List.countP_congr fun i hi => by
      have : i < 8 := by simpa using hi
      rw [show (256 : Nat) = 2 ^ 8 from rfl, Nat.testBit_mod_two_pow]
      simp [this]
  · exact List.countP_congr fun i hi => by
      rw [show (256 : Nat) = 2 ^ 8 from rfl, Nat.testBit_div_two_pow]
      simp [Function.comp, Nat.add_comm]
theorem sumA (A0 A1 A2 A3 z1 z2 z3 : Nat) (h0 : A0 < 5000) (h1 : A1 < 5000) (h2 : A2 < 5000) (h3 : A3 < 5000) (k1 : z1 = A0 + 65536 * A1 + 4294967296 * A2 + 281474976710656 * A3) (e2 : z2 = z1 + z1 / 2 ^ 16) (e3 : z3 = z2 + z2 / 2 ^ 32) :
    z1 < 2 ^ 61 ∧ z2 < 2 ^ 62 ∧ z3 < 2 ^ 63 ∧ z3 % 128 = (A0 + A1 + A2 + A3) % 128 := by
  have q1 : z1 / 2 ^ 16 = A1 + 65536 * A2 + 4294967296 * A3 := by
    rw [k1, show A0 + 65536 * A1 + 4294967296 * A2 + 281474976710656 * A3 = A0 + 2 ^ 16 * (A1 + 65536 * A2 + 4294967296 * A3) by omega, Nat.add_mul_div_left _ _ (by decide), Nat.div_eq_of_lt (by omega)]
    omega
  rw [q1] at e2
  have k2 : z2 = (A0 + A1 + 65536 * (A1 + A2)) + 2 ^ 32 * (A2 + A3 + 65536 * A3) := by rw [e2, k1]; omega
  have q2 : z2 / 2 ^ 32 = A2 + A3 + 65536 * A3 := by
    rw [k2, Nat.add_mul_div_left _ _ (by decide), Nat.div_eq_of_lt (by omega)]
    omega
  rw [q2] at e3
  have k3 : z3 = (A0 + A1 + A2 + A3) + 128 * (512 * (A1 + A2) + 33554432 * (A2 + A3 + 65536 * A3) + 512 * A3) := by rw [e3, k2]; omega
  refine ⟨by rw [k1]; omega, by rw [k2]; omega, by rw [k3]; omega, by rw [k3, Nat.add_mul_mod_self_left]⟩
theorem sum8 (a0 a1 a2 a3 a4 a5 a6 a7 y : Nat) (h0 : a0 ≤ 8) (h1 : a1 ≤ 8) (h2 : a2 ≤ 8) (h3 : a3 ≤ 8) (h4 : a4 ≤ 8) (h5 : a5 ≤ 8) (h6 : a6 ≤ 8) (h7 : a7 ≤ 8)
    (hy : y = 256 * (256 * (256 * (256 * (256 * (256 * (256 * a7 + a6) + a5) + a4) + a3) + a2) + a1) + a0) :
    y < 2 ^ 60 ∧ ∀ z1 z2 z3, z1 = y + y / 2 ^ 8 → z2 = z1 + z1 / 2 ^ 16 → z3 = z2 + z2 / 2 ^ 32 → z1 < 2 ^ 61 ∧ z2 < 2 ^ 62 ∧ z3 < 2 ^ 63 ∧ z3 % 128 = a0 + a1 + a2 + a3 + a4 + a5 + a6 + a7 := by
  have q : y / 2 ^ 8 = 256 * (256 * (256 * (256 * (256 * (256 * a7 + a6) + a5) + a4) + a3) + a2) + a1 := by
    rw [hy]
    generalize 256 * (256 * (256 * (256 * (256 * (256 * a7 + a6) + a5) + a4) + a3) + a2) + a1 = X
    omega
  have hyl : y = a0 + 256 * a1 + 65536 * a2 + 16777216 * a3 + 4294967296 * a4 + 1099511627776 * a5 + 281474976710656 * a6 + 72057594037927936 * a7 := by rw [hy]; omega
  refine ⟨by rw [hyl]; omega, fun z1 z2 z3 e1 e2 e3 => ?_⟩
  rw [q] at e1
  clear q hy
  have k1 : z1 = 256 * (a1 + a2) + a0 + a1 + 65536 * (256 * (a3 + a4) + a2 + a3) + 4294967296 * (256 * (a5 + a6) + a4 + a5) + 281474976710656 * (256 * a7 + a6 + a7) := by rw [e1, hyl]; clear e1 e2 e3 hyl; omega
  clear e1 hyl
  obtain ⟨t1, t2, t3, t4⟩ := sumA (256 * (a1 + a2) + a0 + a1) (256 * (a3 + a4) + a2 + a3) (256 * (a5 + a6) + a4 + a5) (256 * a7 + a6 + a7) z1 z2 z3 (by omega) (by omega) (by omega) (by omega) k1 e2 e3
  exact ⟨t1, t2, t3, by rw [t4]; clear t1 t2 t3 t4 e2 e3 k1; omega⟩
theorem cnt_pc (n : Nat) : (List.range 64).countP (fun i => n.testBit i) = pc (n % 256) + (pc (n / 256 % 256) + (pc (n / 256 / 256 % 256) + (pc (n / 256 / 256 / 256 % 256) + (pc (n / 256 / 256 / 256 / 256 % 256) + (pc (n / 256 / 256 / 256 / 256 / 256 % 256) + (pc (n / 256 / 256 / 256 / 256 / 256 / 256 % 256) + pc (n / 256 / 256 / 256 / 256 / 256 / 256 / 256 % 256))))))) := by
  rw [show 64 = 8 * (7 + 1) from rfl, cnt_bytes, show 8 * 7 = 8 * (6 + 1) from rfl, cnt_bytes, show 8 * 6 = 8 * (5 + 1) from rfl, cnt_bytes, show 8 * 5 = 8 * (4 + 1) from rfl, cnt_bytes, show 8 * 4 = 8 * (3 + 1) from rfl, cnt_bytes,
    show 8 * 3 = 8 * (2 + 1) from rfl, cnt_bytes, show 8 * 2 = 8 * (1 + 1) from rfl, cnt_bytes, show 8 * 1 = 8 * (0 + 1) from rfl, cnt_bytes]
  simp
/-- THE COUNT OF BITS -/
theorem ones (n x y z1 z2 z3 : Nat) (hx : x = p2 3689348814741910323 (p1 6148914691236517205 n)) (hy : y = p3 1085102592571150095 x) (e1 : z1 = y + y / 2 ^ 8) (e2 : z2 = z1 + z1 / 2 ^ 16) (e3 : z3 = z2 + z2 / 2 ^ 32) :
    y < 2 ^ 60 ∧ z1 < 2 ^ 61 ∧ z2 < 2 ^ 62 ∧ z3 < 2 ^ 63 ∧ z3 % 128 = (List.range 64).countP (fun i => n.testBit i) := by
  obtain ⟨m1, m2, m3⟩ := masks
  have h := (swar 8 n).2
  rw [m1, m2, m3, ← hx, ← hy] at h
  obtain ⟨s1, s2⟩ := sum8 _ _ _ _ _ _ _ _ y (pc_le (n % 256)) (pc_le (n / 256 % 256)) (pc_le (n / 256 / 256 % 256)) (pc_le (n / 256 / 256 / 256 % 256)) (pc_le (n / 256 / 256 / 256 / 256 % 256)) (pc_le (n / 256 / 256 / 256 / 256 / 256 % 256)) (pc_le (n / 256 / 256 / 256 / 256 / 256 / 256 % 256)) (pc_le (n / 256 / 256 / 256 / 256 / 256 / 256 / 256 % 256)) (by rw [h]; simp only [pcs]; omega)
  obtain ⟨t1, t2, t3, t4⟩ := s2 z1 z2 z3 e1 e2 e3
  exact ⟨s1, t1, t2, t3, by rw [t4, cnt_pc]; omega⟩
theorem andI_nat {a b : Nat} (ha : a < 2 ^ 64) (hb : b < 2 ^ 64) : andI .u64 (a : Int) (b : Int) = ((a &&& b : Nat) : Int) := by
  rw [andI_u64 (by unfold wf; omega) (by unfold wf; omega), Int.toNat_natCast, Int.toNat_natCast]
theorem andI_low {z : Nat} (hz : z < 2 ^ 63) : andI .i64 (z : Int) 127 = ((z % 128 : Nat) : Int) := by
  have e : andI .i64 (z : Int) 127 = IntKind.i64.wrap ((BitVec.ofInt 64 (z : Int) &&& BitVec.ofInt 64 127).toNat : Int) := rfl
  have e1 : (127 : Int).toNat = 2 ^ 7 - 1 := rfl
  rw [e, BitVec.toNat_and, ofInt_nat _ (by unfold wf; omega), ofInt_nat _ (by unfold wf; decide), Int.toNat_natCast, e1, Nat.and_two_pow_sub_one_eq_mod, IntKind.wrap_i64]
  omega
theorem fdiv_nat (a k : Nat) (i : Int) (hi : min i.toNat 64 = k) : Int.fdiv (a : Int) ((2 : Int) ^ (min i.toNat 64)) = ((a / 2 ^ k : Nat) : Int) := by
  rw [hi, Int.fdiv_eq_ediv_of_nonneg _ (Int.pow_nonneg (by decide)), Int.natCast_ediv, Int.natCast_pow]
  rfl
theorem wrapU {a b : Nat} (h : a + b < 2 ^ 64) : IntKind.wrap IntKind.u64 ((a : Int) + (b : Int)) = ((a + b : Nat) : Int) := by
  rw [IntKind.wrap_u64]; omega
theorem sound23 : SpecSound cx 23 s23 := by
  refine fn_meets (pre := noPre) (g := gen 23) hm tabL_nil hname (fn := Try.f23) Try.func23 (k := bodyOf Try.f23) rfl .plain (fun _ _ => at_nil) (fun args S K Kp h => ?_)
  unfold s23 at h
  simp only at h
  split at h
  · rename_i w
    obtain ⟨hw, h⟩ := h
    refine vc23 w K Kp ?_
    obtain ⟨n, rfl⟩ := Int.eq_ofNat_of_zero_le hw.1
    have hn : n < 2 ^ 64 := by unfold wf at hw; omega
    refine ⟨by unfold nonneg; decide, fun r0 e0 r1 e1 r2 e2 r3 e3 => ⟨by unfold nonneg; decide, fun r4 e4 r5 e5 r6 e6 r7 e7 => ⟨by unfold nonneg; decide, fun r8 e8 r9 e9 r10 e10 => ⟨by unfold nonneg; decide, fun r11 e11 r12 e12 => ⟨by unfold nonneg; decide, fun r13 e13 r14 e14 => ⟨by unfold nonneg; decide, fun r15 e15 r16 e16 r17 e17 r18 e18 => ?_⟩⟩⟩⟩⟩⟩
    have c1 : (6148914691236517205 : Int) = ((6148914691236517205 : Nat) : Int) := rfl
    have c2 : (3689348814741910323 : Int) = ((3689348814741910323 : Nat) : Int) := rfl
    have c3 : (1085102592571150095 : Int) = ((1085102592571150095 : Nat) : Int) := rfl
    have b1 : ∀ a : Nat, a &&& 6148914691236517205 ≤ 6148914691236517205 := fun a => Nat.and_le_right
    have b2 : ∀ a : Nat, a &&& 3689348814741910323 ≤ 3689348814741910323 := fun a => Nat.and_le_right
    have d0 : r0 = ((n / 2 : Nat) : Int) := by rw [e0, fdiv_nat n 1 1 rfl]
    have d1 : r1 = ((n / 2 &&& 6148914691236517205 : Nat) : Int) := by rw [e1, d0, c1, andI_nat (by omega) (by decide)]
    have d2 : r2 = ((n &&& 6148914691236517205 : Nat) : Int) := by rw [e2, c1, andI_nat hn (by decide)]
    have d3 : r3 = ((p1 6148914691236517205 n : Nat) : Int) := by
      rw [e3, d1, d2, wrapU (by have := b1 (n / 2); have := b1 n; omega)]; rfl
    have l3 : p1 6148914691236517205 n < 2 ^ 64 := by have := b1 (n / 2); have := b1 n; unfold p1; omega
    generalize hx1 : p1 6148914691236517205 n = x1 at d3 l3
    have d4 : r4 = ((x1 / 4 : Nat) : Int) := by rw [e4, d3, fdiv_nat x1 2 2 rfl]
    have d5 : r5 = ((x1 / 4 &&& 3689348814741910323 : Nat) : Int) := by rw [e5, d4, c2, andI_nat (by omega) (by decide)]
    have d6 : r6 = ((x1 &&& 3689348814741910323 : Nat) : Int) := by rw [e6, d3, c2, andI_nat l3 (by decide)]
    have l7 : p2 3689348814741910323 x1 < 7378697629483820647 := by have := b2 (x1 / 4); have := b2 x1; unfold p2; omega
    have d7 : r7 = ((p2 3689348814741910323 x1 : Nat) : Int) := by
      rw [e7, d5, d6, wrapU (by have := b2 (x1 / 4); have := b2 x1; omega)]; rfl
    generalize hx2 : p2 3689348814741910323 x1 = x2 at d7 l7
    have d8 : r8 = ((x2 / 16 : Nat) : Int) := by rw [e8, d7, fdiv_nat x2 4 4 rfl]
    have d9 : r9 = ((x2 / 16 + x2 : Nat) : Int) := by rw [e9, d8, d7, wrapU (by omega)]
    have d10 : r10 = ((p3 1085102592571150095 x2 : Nat) : Int) := by rw [e10, d9, c3, andI_nat (by omega) (by decide)]; rfl
    obtain ⟨o1, o2, o3, o4, o5⟩ := ones n x2 (p3 1085102592571150095 x2) _ _ _ (by rw [← hx2, ← hx1]) rfl rfl rfl rfl
    generalize p3 1085102592571150095 x2 = y at *
    have d11 : r11 = ((y / 2 ^ 8 : Nat) : Int) := by rw [e11, d10, fdiv_nat y 8 8 rfl]
    have d12 : r12 = ((y + y / 2 ^ 8 : Nat) : Int) := by rw [e12, d10, d11, wrapU (by omega)]
    generalize y + y / 2 ^ 8 = z1 at *
    have d13 : r13 = ((z1 / 2 ^ 16 : Nat) : Int) := by rw [e13, d12, fdiv_nat z1 16 16 rfl]
    have d14 : r14 = ((z1 + z1 / 2 ^ 16 : Nat) : Int) := by rw [e14, d12, d13, wrapU (by omega)]
    generalize z1 + z1 / 2 ^ 16 = z2 at *
    have d15 : r15 = ((z2 / 2 ^ 32 : Nat) : Int) := by rw [e15, d14, fdiv_nat z2 32 32 rfl]
    have d16 : r16 = ((z2 + z2 / 2 ^ 32 : Nat) : Int) := by rw [e16, d14, d15, wrapU (by omega)]
    generalize z2 + z2 / 2 ^ 32 = z3 at *
    have d17 : r17 = (z3 : Int) := by rw [e17, d16, IntKind.wrap_i64]; omega
    have d18 : r18 = cnt (n : Int) := by rw [e18, d17, andI_low o4, o5]; unfold cnt; rw [Int.toNat_natCast]
    exact h _ d18
  · exact h.elim
def cntUp (a0 a1 a2 a3 : Int) (i : Nat) : Nat := (List.range i).countP fun (k : Nat) => hasZ a0 a1 a2 a3 (k : Int)
theorem cntUp_succ (a0 a1 a2 a3 : Int) (i : Nat) : cntUp a0 a1 a2 a3 (i + 1) = cntUp a0 a1 a2 a3 i + (if hasZ a0 a1 a2 a3 (i : Int) then 1 else 0) := by
  unfold cntUp
  rw [List.range_succ, List.countP_append]
  simp [List.countP_cons]
theorem cntUp_le (a0 a1 a2 a3 : Int) (i : Nat) : cntUp a0 a1 a2 a3 i ≤ i := by
  unfold cntUp
  have : (List.range i).countP (fun (k : Nat) => hasZ a0 a1 a2 a3 (k : Int)) ≤ (List.range i).length := List.countP_le_length
  simpa using this
theorem cntUp_all {a0 a1 a2 a3 : Int} (h : wf a0 ∧ wf a1 ∧ wf a2 ∧ wf a3) : ((cntUp a0 a1 a2 a3 256 : Nat) : Int) = cnt a0 + cnt a1 + cnt a2 + cnt a3 := by
  rw [← cnt_all]
  unfold cntUp
  congr 1
  exact List.countP_congr fun i hi => by rw [hasZ_bit h i (by simpa using hi)]
theorem bools_at (a0 a1 a2 a3 : Int) (i : Nat) (hi : i < 256) : (boolsTo 256 a0 a1 a2 a3)[0 + i * 1]? = some (.bool (hasZ a0 a1 a2 a3 (i : Int)), .no) := by
  unfold boolsTo
  simp [hi]
theorem tab4 : TabSound cx (tabL (calls 4)) := tabL_cons sound8 (tabL_cons sound9 (tabL_cons sound10 (tabL_cons sound11 (tabL_cons sound12 (tabL_cons sound13 (tabL_cons (sound14 sound23) tabL_nil))))))
theorem loop4 : subR [0, 1, 0, 1, 1, 1, 1] (bodyOf Try.f4) = .loop (subR [0, 0, 1, 0, 1, 1, 1, 1] (bodyOf Try.f4)) := by kernel_rfl
def I4 (a0 a1 a2 a3 x y : Int) (S0 : St) (m : Nat) (fr : Fr) (S : St) : Prop := ∃ i : Nat, i ≤ 256 ∧ m = 256 - i ∧ fr = fr4 x y (cntUp a0 a1 a2 a3 i : Nat) i ∧ S = S0
set_option maxRecDepth 20000 in
set_option maxHeartbeats 4000000 in
theorem at4 : AtSound cx 0 0 (gen 4) (bodyOf Try.f4) := by
  refine at_cons ?_ at_nil
  intro fr S Q hL
  obtain ⟨a0, a1, a2, a3, b0, b1, b2, b3, x, y, X, Y, m0, m1, m2, m3, n0, n1, n2, n3, u0, u1, u2, u3, rfl, rfl, hX, hY, hm', hn', hu', hw, hQ⟩ := hL
  rw [loop4]
  refine CodeH.loopW (I4 a0 a1 a2 a3 x y (st4 a0 a1 a2 a3 b0 b1 b2 b3 x y X Y m0 m1 m2 m3 n0 n1 n2 n3 u0 u1 u2 u3)) ?_ (m := 256) ⟨0, by omega, rfl, rfl, rfl⟩
  intro m fr S hI
  obtain ⟨i, h1, rfl, rfl, rfl⟩ := hI
  refine codeW_sound (e := ev 4 0 0) (g := genD 4 1) rfl rfl rfl hm tab4 (root := bodyOf Try.f4) at_nil _ [0, 0, 1, 0, 1, 1, 1, 1] rfl _ _ _ ?_
  refine vc4b a0 a1 a2 a3 b0 b1 b2 b3 x y X Y m0 m1 m2 m3 n0 n1 n2 n3 u0 u1 u2 u3 _ (i : Int) _ ?_
  intro r0 e0
  refine ⟨implB_intro fun e => ?_, implB_intro fun e => ?_⟩
  · have hlt : i < 256 := by rw [e0] at e; have := of_decide_eq_true e; omega
    clear e0 e
    have gX : X[0 + (Int.toNat (i : Int)) * 1]? = some (.bool (hasZ a0 a1 a2 a3 (i : Int)), .no) := by rw [hX, Int.toNat_natCast]; exact bools_at _ _ _ _ i hlt
    have gY : Y[0 + (Int.toNat (i : Int)) * 1]? = some (.bool (hasZ b0 b1 b2 b3 (i : Int)), .no) := by rw [hY, Int.toNat_natCast]; exact bools_at _ _ _ _ i hlt
    have gm := hm' i hlt
    have gn := hn' i hlt
    have gu := hu' i hlt
    have gR : inR (i : Int) 256 := by unfold inR; omega
    have gU : (0 : Int) ≤ (i : Int) ∧ (i : Int) < (256 : Int) := by omega
    have nx : ∀ (env : Env) (d : Int) (j : Int), WkL env (fr4 x y d j).env → d = (cntUp a0 a1 a2 a3 (i + 1) : Nat) → j = ((i + 1 : Nat) : Int) →
        ∃ m' fr2 S2, m' < 256 - i ∧ Wkn cx 0 0 ⟨env, []⟩ (st4 a0 a1 a2 a3 b0 b1 b2 b3 x y X Y m0 m1 m2 m3 n0 n1 n2 n3 u0 u1 u2 u3) fr2 S2 ∧ I4 a0 a1 a2 a3 x y (st4 a0 a1 a2 a3 b0 b1 b2 b3 x y X Y m0 m1 m2 m3 n0 n1 n2 n3 u0 u1 u2 u3) m' fr2 S2 := by
      intro env d j hk hd hj
      subst hd; subst hj
      exact ⟨256 - (i + 1), _, _, by omega, Wkn.frame hk, i + 1, by omega, rfl, rfl, rfl⟩
    have hs := cntUp_succ a0 a1 a2 a3 i
    have hle := cntUp_le a0 a1 a2 a3 i
    intro r1 e1
    have h1 : r1 = (i : Int) := by rw [e1, IntKind.wrap_u8]; omega
    subst h1
    clear e1 hm' hn' hu' hX hY hQ
    have gx : decide ((i : Int) ≥ x) = decide (x ≤ (i : Int)) := rfl
    generalize decide (x ≤ (i : Int)) = P at *
    generalize decide ((i : Int) ≤ y) = R at *
    generalize hasZ a0 a1 a2 a3 (i : Int) = A at *
    generalize hasZ b0 b1 b2 b3 (i : Int) = B at *
    cases A <;> cases B <;> cases P <;> cases R
    all_goals
      repeat' first
        | exact True.intro
        | exact rfl
        | exact gR
        | exact gU
        | refine ⟨_, gX, ?_⟩
        | refine ⟨_, gY, ?_⟩
        | apply And.intro
        | (refine implB_intro fun e => ?_; first | (exact absurd e (by decide)) | skip)
        | (refine nx _ ?_ ?_ ?_ ?_ ?_)
        | (intro r e; first | (rw [gm] at e; subst e) | (rw [gn] at e; subst e) | (rw [gu] at e; subst e) | (rw [gx] at e; subst e) | (rw [IntKind.wrap_i64] at e) | (subst e))
        | exact WkL.nil
        | refine WkL.keep ?_
        | refine WkL.drop ?_
    all_goals first | (subst_vars; simp at hs; omega) | skip
  · have h4 : i = 256 := by rw [e0] at e; have := of_decide_eq_false e; omega
    subst h4
    refine ⟨fr4 x y _ ((256 : Nat) : Int), _, Wkn.frame ?_, hQ ((256 : Nat) : Int) _ (cntUp_all hw)⟩
    repeat' first
      | exact .nil
      | refine .keep ?_
      | refine .drop ?_
theorem expand_no (L : Blk) (h : ∀ x ∈ L, x.2 = .no) : expand (.agg (L.map fun x => x.1), .no) = L := by
  unfold expand
  apply List.ext_getElem
  · simp
  · intro k h1 h2
    have hx := h L[k] (List.getElem_mem h2)
    simp [Tag.at]
    exact Prod.ext rfl hx.symm
theorem expand_of {a0 a1 a2 a3 : Int} : expand (.agg (ofL a0 a1 a2 a3), .no) = boolsTo 256 a0 a1 a2 a3 := by
  rw [← bools_of]
  exact expand_no _ fun x hx => (bools_flat 256 a0 a1 a2 a3 x hx).1
theorem low_of (a0 a1 a2 a3 : Int) : AV.low 0 (.agg (ofL a0 a1 a2 a3)) = true := by
  simp only [AV.low]
  rw [← bools_of]
  exact lows_of fun x hx => by
    obtain ⟨y, hy, rfl⟩ := List.mem_map.1 hx
    exact (bools_flat 256 a0 a1 a2 a3 y hy).2.2 _
theorem put_of (a0 a1 a2 a3 : Int) (b : Bool) (hb : b = false) : replaceAt (List.replicate 256 (AV.bool false, Tag.no)) 0 (keptCells b 0 (List.replicate 256 (AV.bool false, Tag.no)) (boolsTo 256 a0 a1 a2 a3)) = boolsTo 256 a0 a1 a2 a3 := by
  subst hb
  have hk := kept_flat 0 (List.replicate 256 (AV.bool false, Tag.no)) (boolsTo 256 a0 a1 a2 a3) fun x hx => (bools_flat 256 a0 a1 a2 a3 x hx).1
  rw [hk]
  unfold replaceAt
  rw [List.take_zero, List.nil_append, List.drop_of_length_le (by rw [List.length_replicate, len_bools]; omega), List.append_nil]
theorem big_ok (a0 a1 a2 a3 : Int) (n : Nat) : (boolsTo 256 a0 a1 a2 a3).length = 256 ∧ 1 ≤ 256 ∧ (∀ y : SV, List.Mem y (boolsTo 256 a0 a1 a2 a3) → AV.isCell y.1 = true ∧ AV.low n y.1 = true) ∧ 0 + 256 ≤ 256 :=
  ⟨len_bools _ _ _ _ _, by decide, fun y hy => ⟨(bools_flat 256 a0 a1 a2 a3 y hy).2.1, (bools_flat 256 a0 a1 a2 a3 y hy).2.2 _⟩, by decide⟩
theorem wf_at {ws : List Int} (h : wfL ws) : wf (ws.getD 0 0) ∧ wf (ws.getD 1 0) ∧ wf (ws.getD 2 0) ∧ wf (ws.getD 3 0) := ⟨h.2 0 (by decide), h.2 1 (by decide), h.2 2 (by decide), h.2 3 (by decide)⟩
theorem four {ws : List Int} (h : wfL ws) : [ws.getD 0 0, ws.getD 1 0, ws.getD 2 0, ws.getD 3 0] = ws := by
  obtain ⟨a, b, c, d, rfl, _⟩ := wfL_all h
  rfl
theorem add_has {a0 a1 a2 a3 x y : Int} (hw : wf a0 ∧ wf a1 ∧ wf a2 ∧ wf a3) (hx : 0 ≤ x ∧ x < 256) (hy : 0 ≤ y ∧ y < 256) (c : Nat) (hc : c < 256) :
    hasZ (addW a0 a1 a2 a3 x y 0) (addW a0 a1 a2 a3 x y 1) (addW a0 a1 a2 a3 x y 2) (addW a0 a1 a2 a3 x y 3) (c : Int) = (hasZ a0 a1 a2 a3 (c : Int) || (decide (x ≤ (c : Int)) && decide ((c : Int) ≤ y))) := by
  obtain ⟨n, rfl⟩ := Int.eq_ofNat_of_zero_le hx.1
  obtain ⟨h1, h2⟩ := addR_bit (y + 1 - (n : Int)).toNat [a0, a1, a2, a3] n (wfL_mk hw) (by omega)
  have hh := wf_at h1
  have h4 := four h1
  unfold addW
  rw [hasZ_bit hh c hc, h4, h2 c hc, hasZ_bit hw c hc]
  congr 1
  rw [Bool.eq_iff_iff]
  simp only [Bool.and_eq_true, decide_eq_true_eq]
  omega
set_option maxRecDepth 20000 in
set_option maxHeartbeats 4000000 in
theorem sound4 : SpecSound cx 4 s4 := by
  refine fn_meets2 (pre := noPre) (g := gen 4) hm tab4 hname (fn := Try.f4) Try.func4 (k := bodyOf Try.f4) rfl .plain (fun args S K Kp h => ?_)
  unfold s4 at h
  simp only at h
  split at h
  · rename_i a0 a1 a2 a3 b0 b1 b2 b3 x y
    obtain ⟨⟨⟨hw, hv⟩, hx, hy⟩, h⟩ := h
    refine ⟨at4, vc4 a0 a1 a2 a3 b0 b1 b2 b3 x y K Kp ?_⟩
    have hnw : wf (notW a0) ∧ wf (notW a1) ∧ wf (notW a2) ∧ wf (notW a3) := ⟨(notW_bit hw.1).1, (notW_bit hw.2.1).1, (notW_bit hw.2.2.1).1, (notW_bit hw.2.2.2).1⟩
    have huw : wf (orI .u64 a0 b0) ∧ wf (orI .u64 a1 b1) ∧ wf (orI .u64 a2 b2) ∧ wf (orI .u64 a3 b3) := ⟨(orI_u64 hw.1 hv.1).2, (orI_u64 hw.2.1 hv.2.1).2, (orI_u64 hw.2.2.1 hv.2.2.1).2, (orI_u64 hw.2.2.2 hv.2.2.2).2⟩
    refine ⟨by unfold inR; decide, by unfold inR; decide, rfl, rfl, hw, fun x0 e0 => ⟨⟨by rw [e0]; exact low_of _ _ _ _, rfl⟩, hv, fun x1 e1 => ⟨⟨by rw [e1]; exact low_of _ _ _ _, rfl⟩, ?_, fun cs3 e3 => ⟨?_, fun cs5 e5 => ⟨rfl, rfl, rfl, ⟨hx, hy⟩, ?_⟩⟩⟩⟩⟩
    · rw [e0, expand_of]; exact big_ok _ _ _ _ _
    · rw [e1, expand_of]; exact big_ok _ _ _ _ _
    rw [e0, expand_of, put_of _ _ _ _ _ (by decide)] at e3
    rw [e1, expand_of, put_of _ _ _ _ _ (by decide)] at e5
    intro x6 e6 x7 e7 x8 e8 x9 e9
    refine ⟨hw, fun x10 e10 x11 e11 x12 e12 x13 e13 x14 e14 x15 e15 x16 e16 x17 e17 => ⟨rfl, rfl, rfl, rfl, rfl, rfl, rfl, rfl, rfl, ?_⟩⟩
    subst e6; subst e7; subst e8; subst e9; subst e10; subst e11; subst e12; subst e13; subst e14; subst e15; subst e16; subst e17
    refine ⟨a0, a1, a2, a3, b0, b1, b2, b3, x, y, cs3, cs5, _, _, _, _, _, _, _, _, _, _, _, _, rfl, rfl, e3, e5, add_has hw hx hy, ?_, ?_, hw, ?_⟩
    · intro c hc
      rw [hasZ_bit hnw c hc, hasZ_bit hw c hc]; exact not_bit hw c hc
    · intro c hc
      rw [hasZ_bit huw c hc, hasZ_bit hw c hc, hasZ_bit hv c hc]; exact or_bit hw hv c hc
    intro i n hn
    have q0 := cnt_not hw.1
    have q1 := cnt_not hw.2.1
    have q2 := cnt_not hw.2.2.1
    have q3 := cnt_not hw.2.2.2
    have p0 := cnt_bound a0
    have p1 := cnt_bound a1
    have p2 := cnt_bound a2
    have p3 := cnt_bound a3
    refine ⟨hw, fun x47 e47 r48 e48 => ⟨implB_intro fun _ => ⟨⟨hnw, fun x49 e49 => ⟨⟨fun r50 e50 => ⟨fun r51 e51 => ⟨implB_intro fun _ => ⟨⟨hnw, fun x52 e52 x53 e53 x54 e54 x55 e55 => ⟨⟨fun r56 e56 => ⟨implB_intro fun _ => ⟨rfl, rfl, rfl, rfl, rfl, h⟩, implB_intro fun e => ?_⟩, trivial⟩, trivial⟩⟩, trivial⟩, implB_intro fun e => ?_⟩, trivial⟩, trivial⟩, trivial⟩⟩, trivial⟩, implB_intro fun e => ?_⟩⟩
    · rw [notNot] at e52 e53 e54 e55
      rw [e56, e52, e53, e54, e55] at e; simp at e
    · rw [IntKind.wrap_i64] at e50
      rw [e51] at e
      have : x49 = r50 := by omega
      rw [this] at e; simp at e
    · rw [e48, e47, hn] at e; simp at e
  · exact h.elim
section
open Go.ChangeShapes Go.WideShapes
/-- an array of numbers, read -/
theorem open_arr {H : Type} {enc : TypeId × Value → H} {P : Program} {w : World} {base : Nat} {spare : Nat → Bool} {held : Bool} {t e : TypeId} {n : Nat} {k : IntKind} {v : Value} {d : DataW H} {ps : List MemPlace}
    (ht : P.underlying t = some (.array n e)) (he : P.underlying e = some (.int k)) (hc : P.cellsOf e = 1) (hct : P.cellsOf t = n) (hn : 2 ≤ n) (hd : DataW.Trod enc P w base spare held t v d ps) :
    ∃ ns : List Int, ns.length = n ∧ v = .agg (ns.map (Value.int k)).toArray ∧ ∀ x ∈ ns, (Lit.int k x).wf = true := by
  obtain ⟨fuel, hf⟩ := hd
  obtain ⟨xs, m, rfl, hx, hl, hxl, hall⟩ := Go.DataW.trod_array ht hf
  rw [hct] at hl
  have hv : v = .agg v.cells := by
    cases v <;> first | rfl | (simp [Value.cells] at hl; omega)
  generalize hcs : v.cells.toList = cs at *
  have hi : ∀ i (h : i < cs.length), ∃ q, cs[i] = .int k q ∧ (Lit.int k q).wf = true := by
    intro i h
    have h1 := hall i (by omega)
    rw [hc, Nat.mul_one] at h1
    have hsome : ∃ y, xs[i]? = some y := ⟨xs[i]'(by omega), List.getElem?_eq_getElem _⟩
    obtain ⟨y, hy⟩ := hsome
    rw [hy] at h1
    obtain ⟨q, hq, _, hw⟩ := DataW.trod_int he h1
    refine ⟨q, ?_, hw⟩
    have h2 : (List.take 1 (List.drop i cs))[0]? = some (.int k q) := by rw [hq]; rfl
    rw [List.getElem?_take_of_lt (by omega), List.getElem?_drop, Nat.add_zero, List.getElem?_eq_getElem h] at h2
    exact Option.some.inj h2
  refine ⟨cs.map fun x => match x with | .int _ q => q | _ => 0, by simpa using hl, ?_, ?_⟩
  · rw [hv]
    congr 1
    apply Array.toList_inj.1
    rw [hcs]
    apply List.ext_getElem
    · simp
    · intro i h1 h2
      obtain ⟨q, hq, _⟩ := hi i h1
      simp [hq]
  · intro x hx
    obtain ⟨y, hy, rfl⟩ := List.mem_map.1 hx
    obtain ⟨i, h, rfl⟩ := List.getElem_of_mem hy
    obtain ⟨q, hq, hw⟩ := hi i h
    simp [hq, hw]
theorem wf_u64 {x : Int} (h : (Lit.int .u64 x).wf = true) : wf x := by
  simp [Lit.wf, IntKind.min, IntKind.max, IntKind.signed, IntKind.bits] at h
  unfold wf; omega
theorem wf_u8 {x : Int} (h : (Lit.int .u8 x).wf = true) : 0 ≤ x ∧ x < 256 := by
  simp [Lit.wf, IntKind.min, IntKind.max, IntKind.signed, IntKind.bits] at h
  omega
end
theorem rargs3 {G : Gh} {T : List Nat} {x y z : SV} {u v w : Value} (hx : RS G T x u) (hy : RS G T y v) (hz : RS G T z w) : RArgs G T [x, y, z] #[u, v, w] := ⟨rfl, fun i h1 h2 => by
  have e : i = 0 ∨ i = 1 ∨ i = 2 := by simp at h1; omega
  rcases e with rfl | rfl | rfl
  · exact hx
  · exact hy
  · exact hz⟩
theorem arr_arg (G : Gh) (T : List Nat) (k : IntKind) (ns : List Int) : RS G T (.agg (ns.map (AV.int k)), .no) (.agg (ns.map (Value.int k)).toArray) := by
  refine .no (.agg _ _ (by simp) fun i h1 h2 => ?_)
  simp
  exact .int _ _
theorem walkSets (la lb lt : List Int) (ha : la.length = 4) (hb : lb.length = 4) (ht : lt.length = 2) (wa : ∀ x ∈ la, wf x) (wb : ∀ x ∈ lb, wf x) (wt : ∀ x ∈ lt, 0 ≤ x ∧ x < 256) (W : World) :
    Calls Try.prog 4 #[.agg (la.map (Value.int .u64)).toArray, .agg (lb.map (Value.int .u64)).toArray, .agg (lt.map (Value.int .u8)).toArray] W fun e w' => e = .returned (.bool true) ∧ Go.RowKit.Below W.heap.size W w' := by
  match la, ha, lb, hb, lt, ht with
  | [a0, a1, a2, a3], _, [b0, b1, b2, b3], _, [x, y], _ =>
    simp only [List.mem_cons, List.not_mem_nil, or_false, forall_eq_or_imp, forall_eq] at wa wb wt
    exact walk_of_spec (c := cx) sound4 (args := [(A4 a0 a1 a2 a3, .no), (A4 b0 b1 b2 b3, .no), (.agg [.int .u8 x, .int .u8 y], .no)]) (tg := .no) (S' := ⟨[], []⟩) ⟨⟨⟨wa, wb⟩, wt⟩, rfl⟩ (fn := Try.f4) Try.func4 (k := bodyOf Try.f4) rfl (hname 4 Try.f4 Try.func4) _ W (fun _ _ h => by cases h)
      (rargs3 (arr_arg _ _ .u64 [a0, a1, a2, a3]) (arr_arg _ _ .u64 [b0, b1, b2, b3]) (arr_arg _ _ .u8 [x, y]))
end Go.Proofs.Ytdiphholophdcaa.V.Sets
namespace Go.Proofs.Ytdiphholophdcaa.classSets
open Go.ChangeShapes Go.WideShapes Go.ChangeAt Go.RowKit
open Go.ChangeMaps (open_string shut_string)
theorem own : ownKnob Try.prog.godebug = none := by kernel_rfl
theorem laid : laidOutB Try.prog = true := by kernel_rfl
set_option maxRecDepth 100000 in
theorem lifted (os : Os) (started : os.Started) (H : Type) (enc : TypeId × Value → H) :
    ReturnsInHanded {} Try.checked os 4 .any (Rows.classSetsSpec.pre6 enc Try.prog Try.f4 Rows.classSetsRow.domain false) (Rows.classSetsSpec.post enc Try.prog Try.f4 false true false false) := by
  refine returnsInHanded_of_change_sized (C := Try.checked) own started (by kernel_rfl) Try.func4
    (ChangeSpec.witness6 (enc := enc) (C := Try.checked) false ⟨#[], #[.agg #[.int .u64 0, .int .u64 0, .int .u64 0, .int .u64 0], .agg #[.int .u64 0, .int .u64 0, .int .u64 0, .int .u64 0], .agg #[.int .u8 0, .int .u8 0]], []⟩ 8 (by kernel_rfl) (by kernel_rfl) (by kernel_rfl) (by kernel_rfl)) ?_
  intro W base args ds gs before hval0 hW hcnd hsz0 _
  have hsz : (DataW.weightsEach Try.prog (Try.f4.params.toList ++ Rows.classSetsSpec.plain.varTypes Try.prog) (ds ++ gs)).all (· ≤ reachBytes) = true := hsz0
  have hval : ∀ (j : Nat) t v, Try.f4.params[j]? = some t → args[j]? = some v → Value.okWide Try.prog W .any base t v := hval0
  have hW' := hW
  obtain ⟨p, q, hA0, hV, rfl, hfz, hnd⟩ := hW
  have hA : DataW.TrodAll enc Try.prog W 0 (fun _ => true) true Try.f4.params.toList args.toList ds p := hA0
  rw [Try.params4] at hA hval hsz
  obtain ⟨v0, vs0, d0, ds0, p0, q0, hargs, rfl, rfl, h0, r0⟩ := trodAll_cons hA
  obtain ⟨v1, vs1, d1, ds1, p1, q1, rfl, rfl, rfl, h1, r1⟩ := trodAll_cons r0
  obtain ⟨v2, vs2, d2, ds2, p2, q2, rfl, rfl, rfl, h2, r2⟩ := trodAll_cons r1
  obtain ⟨rfl, rfl, rfl⟩ := trodAll_nil r2
  obtain rfl : args = #[v0, v1, v2] := by cases args; simp_all
  obtain ⟨rfl, rfl⟩ := trodVars_none hV
  have k0 := h0
  have l0 : ∀ x ∈ p0, x.block < W.heap.size := fun x hx => hW'.lt x (by simp [hx])
  have k1 := h1
  have l1 : ∀ x ∈ p1, x.block < W.heap.size := fun x hx => hW'.lt x (by simp [hx])
  have k2 := h2
  have l2 : ∀ x ∈ p2, x.block < W.heap.size := fun x hx => hW'.lt x (by simp [hx])
  obtain ⟨la, ha, rfl, wa⟩ := V.Sets.open_arr Try.underlying24 Try.underlying22 (by kernel_rfl) (by kernel_rfl) (by decide) h0
  obtain ⟨lb, hb, rfl, wb⟩ := V.Sets.open_arr Try.underlying24 Try.underlying22 (by kernel_rfl) (by kernel_rfl) (by decide) h1
  obtain ⟨lt, ht, rfl, wt⟩ := V.Sets.open_arr Try.underlying32 Try.underlying5 (by kernel_rfl) (by kernel_rfl) (by decide) h2
  clear hA0 hval0 hsz0 hsz
  refine (V.Sets.walkSets la lb lt ha hb ht (fun x hx => V.Sets.wf_u64 (wa x hx)) (fun x hx => V.Sets.wf_u64 (wb x hx)) (fun x hx => V.Sets.wf_u8 (wt x hx)) W).mono fun e W' ⟨he, bel⟩ => ?_
  subst he
  exact ⟨_, rfl, _, _, _, [], _, [], hW', trodAll_mk1 (shut_bool Try.underlying4 _), (trodAll_cons_mk (Below.trod laid (by kernel_rfl) (of_decide_eq_true (by kernel_rfl)) k0 bel l0) (trodAll_cons_mk (Below.trod laid (by kernel_rfl) (of_decide_eq_true (by kernel_rfl)) k1 bel l1) (trodAll_cons_mk (Below.trod laid (by kernel_rfl) (of_decide_eq_true (by kernel_rfl)) k2 bel l2) trodAll_mk0))), rfl, bel.frame _, fun h => by cases h⟩
theorem over : Rows.classSetsRow.holds Go.Proofs.Ytdiphholophdcaa.Try.pinned (OpenSpec.ofChange Rows.classSetsSpec) :=
  OpenClaim.holds_of_wide 4 Try.f4 rfl rfl rfl rfl rfl rfl rfl ⟨rfl, rfl, rfl, rfl, rfl⟩ rfl rfl rfl rfl rfl (by kernel_rfl) Try.func4 (by kernel_rfl)
    (of_decide_eq_true (by kernel_rfl)) (by unfold Func.isWrapper; first | (rw [if_pos (by decide +kernel)]; kernel_rfl) | (rw [if_neg (by decide +kernel)]; exact ⟨rfl, rfl⟩))
    (fun os started H enc _ => lifted os started H enc)
end Go.Proofs.Ytdiphholophdcaa.classSets
namespace Go.Proofs.Ytdiphholophdcaa
/-- The row, under a short name, for the claim. -/
theorem classSets_holds : Rows.ClassSetsSaid := classSets.over
#print axioms classSets_holds
end Go.Proofs.Ytdiphholophdcaa

