import Derived.Test.YtdiphholophdcaaDoorXKTrEP
import Derived.Test.YtdiphholophdcaaDoorXKAbT4
import Derived.Lib.IndexAny
set_option linter.all false
section
open Go Go.Ab
/- PATTERNS AS TREES: the values, and what the library's functions come to. -/
namespace Go.Proofs.YtdiphholophdcaaDoor.T
variable {K : Out → Prop}
theorem tw_needT {f : FuncId} {t : Tree} : (Tree.need True t).wp lay.ev f K ↔ t.wp lay.ev f K := ⟨fun h => h.2, fun h => ⟨trivial, h⟩⟩
/-- a pattern -/
inductive Re where
  | mk (k a b c d mn mx : Int) (l : List Re)
mutual
def Re.av : Re → AV
  | .mk k a b c d mn mx l => .agg [.int .i64 k, .int .u64 a, .int .u64 b, .int .u64 c, .int .u64 d, .int .i64 mn, .int .i64 mx, .sl (Re.avs l)]
def Re.avs : List Re → List AV
  | [] => []
  | x :: r => x.av :: Re.avs r
end
theorem avs_map : ∀ l : List Re, Re.avs l = l.map Re.av
  | [] => rfl
  | x :: r => by simp only [Re.avs, List.map_cons, avs_map r]
theorem avs_len (l : List Re) : (Re.avs l).length = l.length := by rw [avs_map, List.length_map]
mutual
theorem av_low : ∀ x : Re, AV.low 0 x.av = true
  | .mk k a b c d mn mx l => by simp only [Re.av, AV.low, AV.lows, avs_low l, Bool.and_self]
theorem avs_low : ∀ l : List Re, AV.lows 0 (Re.avs l) = true
  | [] => rfl
  | x :: r => by simp only [Re.avs, AV.lows, av_low x, avs_low r, Bool.and_self]
end
theorem avs_sz : ∀ l : List Re, szOk (Re.avs l) 8 = true
  | [] => rfl
  | .mk k a b c d mn mx l :: r => rfl
theorem elemAt_avs {l : List Re} {i : Nat} (h : i < l.length) : elemAt (Re.avs l) (i : Int) = some (l[i].av.cells) := by
  unfold elemAt
  rw [if_pos (by omega), Int.toNat_natCast, avs_map]
  simp [h]
theorem re_cells (k a b c d mn mx : Int) (l : List Re) : (Re.mk k a b c d mn mx l).av.cells = [.int .i64 k, .int .u64 a, .int .u64 b, .int .u64 c, .int .u64 d, .int .i64 mn, .int .i64 mx, .sl (Re.avs l)] := rfl
/-! ### the library -/
theorem writeByte_wp {c : Int} {s : List UInt8} (hc : 0 ≤ c ∧ c < 256) (hs : s.length + 1 ≤ Ab.maxLen) (h : K (.ret (.nili, .no), ⟨[[(.bself 59 0, .no), (.buf 5 (s ++ [UInt8.ofNat c.toNat]), .tok 0)]], [(s ++ [UInt8.ofNat c.toNat]).length]⟩)) : lay.Wp 42 0 [.int .u8 c, .buf 5 s] K := by
  refine Lay.wp_of h42 (fun call => e42x0 call c s) ?_
  unfold t42x0
  simp only [tw_need, tw_done, true_and]
  exact ⟨hc, hs, h⟩
theorem bString_wp {s : List UInt8} (hs : s.length ≤ Ab.maxLen) (h : K (.ret (.str s, .no), ⟨[[(.bself 59 0, .no), (.buf 5 s, .tok 0)]], [s.length]⟩)) : lay.Wp 44 0 [.buf 5 s] K := by
  refine Lay.wp_of h44 (fun call => e44x0 call s) ?_
  unfold t44x0
  simp only [tw_need, tw_nm, tw_done, true_and]
  exact ⟨hs, h⟩
theorem hasPrefix_wp {s t : List UInt8} (h : K (.ret (.bool (decide (t <+: s)), .no), ⟨[], []⟩)) : lay.Wp 55 0 [.str s, .str t] K := by
  refine Lay.wp_of h55 (fun call => e55x0 call _ _) ?_
  unfold t55x0
  simp only [tw_callT]
  refine Lay.wp_of h79 (fun call => e79x0 call _ _) ?_
  unfold t79x0
  simp only [tw_nm, tw_ite, tw_need, tw_done, s79x0, tw_needR, true_and, List.drop_zero, Int.toNat_natCast]
  by_cases hl : t.length ≤ s.length
  · rw [if_pos (by simp; omega)]
    refine ⟨⟨by omega, by omega⟩, ?_⟩
    have e : (List.take t.length s == t) = decide (t <+: s) := by
      rw [Bool.eq_iff_iff, beq_iff_eq, decide_eq_true_eq, List.prefix_iff_eq_take]
      exact eq_comm
    rw [e]; exact h
  · rw [if_neg (by simp; omega)]
    have e : decide (t <+: s) = false := by
      rw [decide_eq_false_iff_not]
      intro hp; exact hl hp.length_le
    rw [e] at h; exact h
theorem indexByte_wp {s : List UInt8} {c : UInt8} (h : ∀ r : Int, ((0 ≤ r) ↔ c ∈ s) → K (.ret (.int .i64 r, .no), ⟨[], []⟩)) : lay.Wp 54 0 [.str s, .int .u8 ((c.toNat : Nat) : Int)] K := by
  refine Lay.wp_of h54 (fun call => e54x0 call _ _) ?_
  unfold t54x0
  simp only [tw_callT]
  refine Lay.wp_of h78 (fun call => e78x0 call _ _) ?_
  unfold t78x0
  simp only [tw_nm, tw_done, s78x0, tw_needR, tw_needT]
  have e : Nat.toUInt8 (Int.toNat ((c.toNat : Nat) : Int)) = c := by simp
  rw [e]
  refine h _ ?_
  have := Go.Lib.contains_iff_indexByte s c
  rw [← decide_eq_true_eq (p := 0 ≤ Go.Lib.indexByte s c), ← this]
  simp
/-! ### what is a tree -/
mutual
def canF : Re → Int → Int → Bool
  | .mk k a b c d mn mx l, w, dp =>
    if 100 < dp then false
    else if k ≠ 1 ∧ ¬ (a = 0 ∧ b = 0 ∧ c = 0 ∧ d = 0) then false
    else if k ≠ 6 ∧ (mn ≠ 0 ∨ mx ≠ 0) then false
    else if k = 0 then decide (l.length = 0) && decide (w ≠ 4)
    else if k = 1 ∨ k = 2 ∨ k = 3 then decide (l.length = 0)
    else if k = 4 ∨ k = 5 then (if w = k ∨ l.length < 2 then false else canL l k (dp + 1))
    else if k = 6 then (if l.length ≠ 1 ∨ mn < 0 ∨ 50 < mn ∨ (mx ≠ -1 ∧ (mx < mn ∨ 50 < mx)) then false else canL l k (dp + 1))
    else false
def canL : List Re → Int → Int → Bool
  | [], _, _ => true
  | x :: r, w, dp => canF x w dp && canL r w dp
end
/-- no list in it is too long -/
def big : Nat := 1152921504606846976
mutual
def Re.fits : Re → Prop
  | .mk _ _ _ _ _ _ _ l => l.length ≤ big ∧ Re.fitsL l
def Re.fitsL : List Re → Prop
  | [] => True
  | x :: r => x.fits ∧ Re.fitsL r
end
/-- a closure's own variables -/
abbrev canB (k a b c d mn mx : Int) (l : List Re) (dp : Int) : St := ⟨[[(.int .i64 k, .no), (.int .u64 a, .no), (.int .u64 b, .no), (.int .u64 c, .no), (.int .u64 d, .no), (.int .i64 mn, .no), (.int .i64 mx, .no), (.sl (Re.avs l), .no)], [(.int .i64 dp, .no)]], []⟩
mutual
theorem can_wp : ∀ (x : Re) (w dp : Int) {K : Out → Prop}, x.fits → -1 ≤ dp → dp ≤ 1000 → K (.ret (.bool (canF x w dp), .no), ⟨[], []⟩) → lay.Wp 46 0 (x.av.cells ++ [.int .i64 w, .int .i64 dp]) K
  | .mk k a b c d mn mx l, w, dp, K, hf, h1, h2, h => by
    rw [re_cells]
    obtain ⟨hl, hfl⟩ := hf
    have hb : big = 1152921504606846976 := rfl
    -- the tests
    have tail (b1 b3 b4 b5 : Bool) (k2 : Int) (hdp : ¬ 100 < dp) (h5 : b5 = true ↔ (k = 4 ∨ k = 5)) (hk2 : k2 = k)
        (h : K (.ret (.bool (if k = 4 ∨ k = 5 then (if w = k ∨ l.length < 2 then false else canL l k (dp + 1)) else if k = 6 then (if l.length ≠ 1 ∨ mn < 0 ∨ 50 < mn ∨ (mx ≠ -1 ∧ (mx < mn ∨ 50 < mx)) then false else canL l k (dp + 1)) else false), .no), ⟨[], []⟩)) :
        lay.Wp 46 2 [.int .i64 w, .bool b1, .int .i64 k2, .bool b3, .bool b4, .bool b5, .int .i64 k, .int .u64 a, .int .u64 b, .int .u64 c, .int .u64 d, .int .i64 mn, .int .i64 mx, .sl (Re.avs l), .int .i64 dp] K := by
      have loop (h : K (.ret (.bool (canL l k (dp + 1)), .no), ⟨[], []⟩)) : lay.Wp 67 0 [.sl (Re.avs l), .int .i64 k, .int .u64 a, .int .u64 b, .int .u64 c, .int .u64 d, .int .i64 mn, .int .i64 mx, .sl (Re.avs l), .int .i64 dp] fun o =>
          (outT o67x0 o (fun (b18 : Bool) (i19 : Int) (i20 : Int) (i21 : Int) (i22 : Int) (i23 : Int) (i24 : Int) (i25 : Int) (l26 : List AV) (i27 : Int) =>
          .need ((AV.lows 0 l26) = Bool.true) <|
          .nm (Bool.not b18) fun (b28 : Bool) =>
          .done ((.ret ((.bool b28), .no)), ⟨[], ([] : List Nat)⟩))
           (.fail)).wp lay.ev 46 K := by
        refine Lay.wp_of h67 (fun call => e67x0 call _ _ _ _ _ _ _ _ _ _) ?_
        unfold t67x0
        simp only [tw_need, tw_callT]
        refine ⟨avs_low l, avs_low l, ?_⟩
        refine Lay.wp_of h85 (fun call => e85x0 call _ _ _ _ _ _ _ _ _ _) ?_
        unfold t85x0
        simp only [tw_nm, tw_jump, avs_len]
        refine canL_wp l l 0 rfl (by omega) hfl k a b c d mn mx l dp (by omega) (by omega) ?_
        intro r hr
        simp only [s85x0, s67x0, tw_needR, tw_needT, true_and, tw_need, tw_nm, tw_done]
        have e : (!decide (r ≥ 0)) = canL l k (dp + 1) := by
          cases hc : canL l k (dp + 1)
          · rw [hc] at hr
            have : r ≥ 0 := hr.2 rfl
            simp [this]
          · rw [hc] at hr
            have : ¬ r ≥ 0 := fun hh => by cases hr.1 hh
            simp [this]
        rw [e]
        exact ⟨avs_low l, avs_low l, h⟩
      subst hk2
      refine Lay.wp_of h46 (fun call => e46x2 call _ _ _ _ _ _ _ _ _ _ _ _ _ _ _) ?_
      unfold t46x2
      simp only [tw_nm, tw_ite, tw_need, tw_done, tw_callT, avs_len]
      by_cases c1 : k2 = 4 ∨ k2 = 5
      · rw [if_pos (h5.2 c1)]
        rw [if_pos c1] at h
        by_cases c2 : w = k2
        · rw [if_pos (by simpa using c2)]
          rw [if_pos (.inl c2)] at h
          exact h
        rw [if_neg (by simpa using c2)]
        by_cases c3 : l.length < 2
        · rw [if_pos (by simp; omega)]
          rw [if_pos (.inr c3)] at h
          exact h
        rw [if_neg (by simp; omega)]
        rw [if_neg (by rintro (e | e); exact c2 e; exact c3 e)] at h
        exact ⟨avs_low l, avs_low l, loop h⟩
      rw [if_neg (fun e => c1 (h5.1 e))]
      rw [if_neg c1] at h
      by_cases c2 : k2 = 6
      · rw [if_pos (by simpa using c2)]
        rw [if_pos c2] at h
        by_cases c3 : l.length = 1
        · rw [if_neg (by simp [c3])]
          by_cases c4 : mn < 0
          · rw [if_pos (by simpa using c4)]
            rw [if_pos (.inr (.inl c4))] at h
            exact h
          rw [if_neg (by simpa using c4)]
          by_cases c5 : 50 < mn
          · rw [if_pos (by simpa using c5)]
            rw [if_pos (.inr (.inr (.inl c5)))] at h
            exact h
          rw [if_neg (by simpa using c5)]
          by_cases c6 : mx = -1
          · rw [if_neg (by simp [c6])]
            rw [if_neg (by rintro (e | e | e | e); exact e c3; exact c4 e; exact c5 e; exact e.1 c6)] at h
            exact ⟨avs_low l, avs_low l, loop h⟩
          rw [if_pos (by simpa using c6)]
          by_cases c7 : mx < mn
          · rw [if_pos (by simpa using c7)]
            rw [if_pos (.inr (.inr (.inr ⟨c6, .inl c7⟩)))] at h
            exact h
          rw [if_neg (by simpa using c7)]
          by_cases c8 : 50 < mx
          · rw [if_pos (by simpa using c8)]
            rw [if_pos (.inr (.inr (.inr ⟨c6, .inr c8⟩)))] at h
            exact h
          rw [if_neg (by simpa using c8)]
          rw [if_neg (by rintro (e | e | e | e); exact e c3; exact c4 e; exact c5 e; rcases e.2 with e | e; exact c7 e; exact c8 e)] at h
          exact ⟨avs_low l, avs_low l, loop h⟩
        · rw [if_pos (by simp; omega)]
          rw [if_pos (.inl c3)] at h
          exact h
      · rw [if_neg (by simpa using c2)]
        rw [if_neg c2] at h
        exact h
    have one (b1 b3 b4 : Bool) (hdp : ¬ 100 < dp) (h4 : b4 = true ↔ (k = 1 ∨ k = 2 ∨ k = 3))
        (h : K (.ret (.bool (if k = 1 ∨ k = 2 ∨ k = 3 then decide (l.length = 0) else if k = 4 ∨ k = 5 then (if w = k ∨ l.length < 2 then false else canL l k (dp + 1)) else if k = 6 then (if l.length ≠ 1 ∨ mn < 0 ∨ 50 < mn ∨ (mx ≠ -1 ∧ (mx < mn ∨ 50 < mx)) then false else canL l k (dp + 1)) else false), .no), ⟨[], []⟩)) :
        lay.Wp 46 1 [.int .i64 w, .bool b1, .int .i64 k, .bool b3, .bool b4, .int .i64 k, .int .u64 a, .int .u64 b, .int .u64 c, .int .u64 d, .int .i64 mn, .int .i64 mx, .sl (Re.avs l), .int .i64 dp] K := by
      refine Lay.wp_of h46 (fun call => e46x1 call _ _ _ _ _ _ _ _ _ _ _ _ _ _) ?_
      unfold t46x1
      simp only [tw_nm, tw_ite, tw_need, tw_done, tw_callT, tw_jump, avs_len]
      by_cases c1 : k = 1 ∨ k = 2 ∨ k = 3
      · rw [if_pos (h4.2 c1)]
        rw [if_pos c1] at h
        have e : (((l.length : Nat) : Int) == 0) = decide (l.length = 0) := by
          rw [Bool.eq_iff_iff, beq_iff_eq, decide_eq_true_eq]; omega
        rw [e]
        exact h
      rw [if_neg (fun e => c1 (h4.1 e))]
      rw [if_neg c1] at h
      by_cases c2 : k = 4
      · rw [if_pos (by simpa using c2)]
        exact tail _ _ _ _ _ hdp ⟨fun _ => .inl c2, fun _ => by simpa using c2⟩ rfl h
      · rw [if_neg (by simpa using c2)]
        exact tail _ _ _ _ _ hdp ⟨fun e => .inr (by simpa using e), fun e => by rcases e with e | e; exact (c2 e).elim; simpa using e⟩ rfl h
    have sw (b1 : Bool) (hdp : ¬ 100 < dp) (h : K (.ret (.bool (if k = 0 then decide (l.length = 0) && decide (w ≠ 4) else if k = 1 ∨ k = 2 ∨ k = 3 then decide (l.length = 0) else if k = 4 ∨ k = 5 then (if w = k ∨ l.length < 2 then false else canL l k (dp + 1)) else if k = 6 then (if l.length ≠ 1 ∨ mn < 0 ∨ 50 < mn ∨ (mx ≠ -1 ∧ (mx < mn ∨ 50 < mx)) then false else canL l k (dp + 1)) else false), .no), ⟨[], []⟩)) :
        (if (k == 0) = true then (if (((l.length : Nat) : Int) == 0) = true then K (.ret (.bool (w != 4), .no), ⟨[], []⟩) else K (.ret (.bool false, .no), ⟨[], []⟩))
          else if (k == 1) = true then lay.Wp 46 1 [.int .i64 w, .bool b1, .int .i64 k, .bool (k == 0), .bool (k == 1), .int .i64 k, .int .u64 a, .int .u64 b, .int .u64 c, .int .u64 d, .int .i64 mn, .int .i64 mx, .sl (Re.avs l), .int .i64 dp] K
          else if (k == 2) = true then lay.Wp 46 1 [.int .i64 w, .bool b1, .int .i64 k, .bool (k == 0), .bool (k == 2), .int .i64 k, .int .u64 a, .int .u64 b, .int .u64 c, .int .u64 d, .int .i64 mn, .int .i64 mx, .sl (Re.avs l), .int .i64 dp] K
          else lay.Wp 46 1 [.int .i64 w, .bool b1, .int .i64 k, .bool (k == 0), .bool (k == 3), .int .i64 k, .int .u64 a, .int .u64 b, .int .u64 c, .int .u64 d, .int .i64 mn, .int .i64 mx, .sl (Re.avs l), .int .i64 dp] K) := by
      by_cases c0 : k = 0
      · rw [if_pos (by simpa using c0)]
        rw [if_pos c0] at h
        by_cases c1 : l.length = 0
        · rw [if_pos (by simp [c1])]
          have e : (w != 4) = (decide (l.length = 0) && decide (w ≠ 4)) := by simp [c1]; rfl
          rw [e]; exact h
        · rw [if_neg (by rw [beq_iff_eq]; omega)]
          have e : (decide (l.length = 0) && decide (w ≠ 4)) = false := by rw [decide_eq_false c1, Bool.false_and]
          rw [e] at h; exact h
      rw [if_neg (by simpa using c0)]
      rw [if_neg c0] at h
      by_cases c1 : k = 1
      · rw [if_pos (by simpa using c1)]
        exact one _ _ _ hdp ⟨fun _ => .inl c1, fun _ => by simpa using c1⟩ h
      rw [if_neg (by simpa using c1)]
      by_cases c2 : k = 2
      · rw [if_pos (by simpa using c2)]
        exact one _ _ _ hdp ⟨fun _ => .inr (.inl c2), fun _ => by simpa using c2⟩ h
      rw [if_neg (by simpa using c2)]
      exact one _ _ _ hdp ⟨fun e => .inr (.inr (by simpa using e)), fun e => by rcases e with e | e | e; exact (c1 e).elim; exact (c2 e).elim; simpa using e⟩ h
    unfold canF at h
    refine Lay.wp_of h46 (fun call => e46x0 call _ _ _ _ _ _ _ _ _ _) ?_
    unfold t46x0
    simp only [tw_nm, tw_ite, tw_need, tw_done, tw_callT, tw_jump, avs_len]
    by_cases c1 : 100 < dp
    · rw [if_pos (by simpa using c1)]
      rw [if_pos c1] at h
      exact h
    rw [if_neg (by simpa using c1)]
    rw [if_neg c1] at h
    -- how often
    have often (hk : ¬ (k ≠ 1 ∧ ¬ (a = 0 ∧ b = 0 ∧ c = 0 ∧ d = 0))) := hk
    by_cases c2 : k = 1
    · rw [if_neg (by simp [c2])]
      rw [if_neg (fun e => e.1 c2)] at h
      rw [if_pos (by simp [c2])]
      by_cases c3 : mn = 0
      · rw [if_neg (by simp [c3])]
        by_cases c4 : mx = 0
        · rw [if_neg (by simp [c4])]
          rw [if_neg (by rintro ⟨_, e | e⟩; exact e c3; exact e c4)] at h
          exact sw _ c1 h
        · rw [if_pos (by simpa using c4)]
          rw [if_pos ⟨by omega, .inr c4⟩] at h
          exact h
      · rw [if_pos (by simpa using c3)]
        rw [if_pos ⟨by omega, .inl c3⟩] at h
        exact h
    rw [if_pos (by simpa using c2)]
    by_cases c3 : a = 0 ∧ b = 0 ∧ c = 0 ∧ d = 0
    · rw [if_neg (by simp [c3])]
      rw [if_neg (fun e => e.2 c3)] at h
      by_cases c4 : k = 6
      · rw [if_neg (by simp [c4])]
        rw [if_neg (fun e => e.1 c4)] at h
        exact sw _ c1 h
      rw [if_pos (by simpa using c4)]
      by_cases c5 : mn = 0
      · rw [if_neg (by simp [c5])]
        by_cases c6 : mx = 0
        · rw [if_neg (by simp [c6])]
          rw [if_neg (by rintro ⟨_, e | e⟩; exact e c5; exact e c6)] at h
          exact sw _ c1 h
        · rw [if_pos (by simpa using c6)]
          rw [if_pos ⟨c4, .inr c6⟩] at h
          exact h
      · rw [if_pos (by simpa using c5)]
        rw [if_pos ⟨c4, .inl c5⟩] at h
        exact h
    · rw [if_pos (by rw [Bool.not_eq_true', Bool.eq_false_iff]; intro hh; simp only [Bool.and_true, Bool.and_eq_true, beq_iff_eq] at hh; exact c3 hh)]
      rw [if_pos ⟨c2, c3⟩] at h
      exact h
theorem canL_wp : ∀ (l L : List Re) (i : Nat), l = L.drop i → L.length ≤ big → Re.fitsL l → ∀ (k a b c d mn mx : Int) (l0 : List Re) (dp : Int) {K : Out → Prop}, -1 ≤ dp → dp ≤ 100 →
    (∀ r : Int, (0 ≤ r ↔ canL l k (dp + 1) = false) → K (.ret (.int .i64 r, .no), canB k a b c d mn mx l0 dp)) →
    lay.Wp 85 1 [.sl (Re.avs L), .int .i64 (L.length : Nat), .int .i64 (i : Nat), .int .i64 k, .int .u64 a, .int .u64 b, .int .u64 c, .int .u64 d, .int .i64 mn, .int .i64 mx, .sl (Re.avs l0), .int .i64 dp] K
  | [], L, i, hi, hL, hf, k, a, b, c, d, mn, mx, l0, dp, K, h1, h2, h => by
    have hlen : L.length ≤ i := by
      have := congrArg List.length hi
      simp at this; omega
    refine Lay.wp_of h85 (fun call => e85x1 call _ _ _ _ _ _ _ _ _ _ _ _) ?_
    unfold t85x1
    simp only [tw_nm, tw_ite, tw_done]
    rw [if_neg (by simp; omega)]
    exact h _ (by simp [canL])
  | x :: l, L, i, hi, hL, hf, k, a, b, c, d, mn, mx, l0, dp, K, h1, h2, h => by
    have hb : big = 1152921504606846976 := rfl
    have hlt : i < L.length := by
      have := congrArg List.length hi
      simp at this; omega
    have hx : L[i] = x := by
      have := List.drop_eq_getElem_cons hlt
      rw [← hi] at this
      exact (List.cons.inj this).1.symm
    have hd : l = L.drop (i + 1) := by
      have := List.drop_eq_getElem_cons hlt
      rw [← hi] at this
      exact (List.cons.inj this).2
    obtain ⟨hf1, hf2⟩ := hf
    have e := elemAt_avs hlt
    rw [hx] at e
    have hc := fun K' h' => can_wp x k (dp + 1) (K := K') hf1 (by omega) (by omega) h'
    have low := av_low x
    obtain ⟨k', a', b', c', d', mn', mx', l'⟩ := x
    rw [re_cells] at e hc
    refine Lay.wp_of h85 (fun call => e85x1 call _ _ _ _ _ _ _ _ _ _ _ _) ?_
    unfold t85x1
    simp only [e, tw_nm, tw_ite, tw_done, tw_opnS, openC_int, openC_sl, openC_nil, tw_need, tw_callT, tw_jump]
    rw [if_pos (by simp; omega)]
    refine ⟨avs_low l', avs_low l0, ?_⟩
    refine Lay.wp_of h68 (fun call => e68x0 call _ _ _ _ _ _ _ _ _ _ _ _ _ _ _ _ _) ?_
    unfold t68x0
    simp only [tw_nm, tw_need, tw_callT]
    rw [wrap64 (by omega) (by omega)]
    refine ⟨avs_low l', hc _ ?_⟩
    simp only [s46x0, s68x0, tw_needR, tw_needT, true_and, tw_need, tw_nm, tw_ite, tw_done, tw_jump]
    refine ⟨avs_low l0, ?_⟩
    by_cases c1 : canF (.mk k' a' b' c' d' mn' mx' l') k (dp + 1) = true
    · rw [if_neg (by simp [c1]), wrap64 (by omega) (by omega)]
      refine canL_wp l L (i + 1) hd hL hf2 k a b c d mn mx l0 dp h1 h2 fun r hr => h r ?_
      rw [hr, canL, c1, Bool.true_and]
    · rw [if_pos (by simpa using c1)]
      refine h _ ⟨fun _ => ?_, fun _ => by omega⟩
      rw [canL, Bool.eq_false_iff.2 c1, Bool.false_and]
end
end Go.Proofs.YtdiphholophdcaaDoor.T
end
section
open Go Go.Ab
/- PATTERNS' TEXTS ARE READ: bytes, sets of one byte, joining, pieces. -/
namespace Go.Proofs.YtdiphholophdcaaDoor.T
variable {K : Out → Prop}
/-! ### sets of one byte -/
def wd (j : Nat) (c : UInt8) : Int := if c.toNat / 64 = j then ((2 ^ (c.toNat % 64) : Nat) : Int) else 0
theorem wrapU64 {n : Nat} (h : n < 18446744073709551616) : IntKind.wrap .u64 ((n : Nat) : Int) = ((n : Nat) : Int) := by
  simp [IntKind.wrap, IntKind.signed, IntKind.bits]; omega
theorem orI_nat {x y : Nat} (hx : x < 18446744073709551616) (hy : y < 18446744073709551616) : orI .u64 ((x : Nat) : Int) ((y : Nat) : Int) = ((x ||| y : Nat) : Int) := by
  have hb : (BitVec.ofInt 64 ((x : Nat) : Int) ||| BitVec.ofInt 64 ((y : Nat) : Int)).toNat = x ||| y := by
    rw [BitVec.toNat_or, BitVec.toNat_ofInt, BitVec.toNat_ofInt]
    congr 1 <;> omega
  unfold orI
  rw [show IntKind.bits .u64 = 64 from rfl, hb]
  exact wrapU64 (Nat.or_lt_two_pow (n := 64) hx hy)
theorem pow_lt64 (n : Nat) : (2 ^ (n % 64) : Nat) < 18446744073709551616 := by
  have h : n % 64 < 64 := Nat.mod_lt _ (by decide)
  calc 2 ^ (n % 64) < 2 ^ 64 := Nat.pow_lt_pow_right (by decide) h
    _ = 18446744073709551616 := by decide
theorem add133 {c : UInt8} (h : K (.ret (.agg [.int .u64 (wd 0 c), .int .u64 (wd 1 c), .int .u64 (wd 2 c), .int .u64 (wd 3 c)], .no), ⟨[], []⟩)) :
    lay.Wp 133 0 [.int .u64 0, .int .u64 0, .int .u64 0, .int .u64 0, .int .u8 ((c.toNat : Nat) : Int), .int .u8 ((c.toNat : Nat) : Int)] K := by
  have hn : c.toNat < 256 := c.toNat_lt
  unfold wd at h
  generalize c.toNat = n at hn h
  have w1 : IntKind.wrap .i64 ((n : Nat) : Int) = ((n : Nat) : Int) := wrap64 (by omega) (by omega)
  have w2 : IntKind.wrap .i64 (((n : Nat) : Int) + 1) = ((n + 1 : Nat) : Int) := by rw [wrap64 (by omega) (by omega)]; omega
  have d1 : IntKind.wrap .i64 (Int.tdiv ((n : Nat) : Int) 64) = ((n / 64 : Nat) : Int) := by
    have : Int.tdiv ((n : Nat) : Int) 64 = ((n / 64 : Nat) : Int) := rfl
    rw [this, wrap64 (by omega) (by omega)]
  have d2 : Int.tmod ((n : Nat) : Int) 64 = ((n % 64 : Nat) : Int) := rfl
  have p1 : IntKind.wrap .u64 ((1 : Int) * ((2 : Int) ^ (Min.min (Int.toNat ((n % 64 : Nat) : Int)) 64))) = ((2 ^ (n % 64) : Nat) : Int) := by
    rw [Int.toNat_natCast, Nat.min_eq_left (by omega), Int.one_mul]
    have : ((2 : Int) ^ (n % 64)) = ((2 ^ (n % 64) : Nat) : Int) := by norm_cast
    rw [this, wrapU64 (pow_lt64 n)]
  have o1 : orI .u64 (0 : Int) ((2 ^ (n % 64) : Nat) : Int) = ((2 ^ (n % 64) : Nat) : Int) := by
    have := orI_nat (x := 0) (y := 2 ^ (n % 64)) (by decide) (pow_lt64 n)
    rw [Nat.zero_or] at this
    exact this
  refine Lay.wp_of h133 (fun call => e133x0 call _ _ _ _ _ _) ?_
  unfold t133x0
  simp only [w1, tw_nm, tw_jump]
  refine Lay.wp_of h133 (fun call => e133x1 call _ _ _ _ _ _ _ _ _ _) ?_
  unfold t133x1
  simp only [w1, w2, d1, d2, p1, tw_nm, tw_ite, tw_need, tw_jump]
  rw [if_pos (by simp)]
  have stop : ∀ (a b c d : Int), K (.ret (.agg [.int .u64 a, .int .u64 b, .int .u64 c, .int .u64 d], .no), ⟨[], []⟩) → lay.Wp 133 1 [.int .u8 ((n : Nat) : Int), .int .i64 ((n + 1 : Nat) : Int), .int .u64 a, .int .u64 b, .int .u64 c, .int .u64 d, .int .u64 0, .int .u64 0, .int .u64 0, .int .u64 0] K := by
    intro a b c d hh
    refine Lay.wp_of h133 (fun call => e133x1 call _ _ _ _ _ _ _ _ _ _) ?_
    unfold t133x1
    simp only [w1, tw_nm, tw_ite, tw_done]
    rw [if_neg (by simp; omega)]
    exact hh
  have hj : n / 64 = 0 ∨ n / 64 = 1 ∨ n / 64 = 2 ∨ n / 64 = 3 := by omega
  rcases hj with e | e | e | e <;>
  · rw [e] at h ⊢
    refine ⟨by simp [nonzero], ⟨by omega, by omega⟩, _, rfl, ?_⟩
    simp only [openC_int, openC_nil, tw_nm, tw_need, d2, p1, o1]
    refine ⟨by simp [nonzero], by simp [nonneg]; omega, ⟨by omega, by omega⟩, by decide, _, rfl, ?_⟩
    simp only [openC_int, openC_nil, tw_nm, tw_jump]
    exact stop _ _ _ _ (by simpa using h)
theorem add_one {c : UInt8} (h : K (.ret (.agg [.int .u64 (wd 0 c), .int .u64 (wd 1 c), .int .u64 (wd 2 c), .int .u64 (wd 3 c)], .no), ⟨[], []⟩)) :
    lay.Wp 124 0 [.int .u64 0, .int .u64 0, .int .u64 0, .int .u64 0, .int .u8 ((c.toNat : Nat) : Int), .int .u8 ((c.toNat : Nat) : Int)] K := by
  refine Lay.wp_of h124 (fun call => e124x0 call _ _ _ _ _ _) ?_
  unfold t124x0
  simp only [tw_callT]
  refine add133 ?_
  simp only [s133x0, tw_needR, tw_needT, true_and, tw_done]
  exact h
abbrev oneV (c : UInt8) : List AV := [.int .i64 1, .int .u64 (wd 0 c), .int .u64 (wd 1 c), .int .u64 (wd 2 c), .int .u64 (wd 3 c), .int .i64 0, .int .i64 0, .sl []]
def oneR (c : UInt8) : Re := .mk 1 (wd 0 c) (wd 1 c) (wd 2 c) (wd 3 c) 0 0 []
theorem one_wp {c : UInt8} (h : K (.ret (.agg (oneV c), .no), ⟨[], []⟩)) : lay.Wp 111 0 [.int .u8 ((c.toNat : Nat) : Int)] K := by
  refine Lay.wp_of h111 (fun call => e111x0 call _) ?_
  unfold t111x0
  simp only [tw_callT]
  refine add_one ?_
  simp only [s124x0, tw_needR, tw_needT, true_and, tw_need, tw_done]
  exact ⟨rfl, rfl, h⟩
/-! ### bytes that come -/
abbrev rd (s : List UInt8) (p : Nat) : St := ⟨[[(.str s, .no), (.int .i64 (p : Nat), .no)]], []⟩
theorem peek_end {s : List UInt8} {p : Nat} (hp : p = s.length) (h : K (.ret (.tup [.int .u8 0, .bool false], .agg [.no, .no]), rd s p)) : lay.Wp 91 0 [.str s, .int .i64 (p : Nat)] K := by
  refine Lay.wp_of h91 (fun call => e91x0 call _ _) ?_
  unfold t91x0
  simp only [tw_nm, tw_ite, tw_done]
  rw [if_pos (by simp [hp])]
  exact h
theorem peek_at {pre r : List UInt8} {c : UInt8} (h : K (.ret (.tup [.int .u8 ((c.toNat : Nat) : Int), .bool true], .agg [.no, .no]), rd (pre ++ c :: r) pre.length)) : lay.Wp 91 0 [.str (pre ++ c :: r), .int .i64 (pre.length : Nat)] K := by
  refine Lay.wp_of h91 (fun call => e91x0 call _ _) ?_
  unfold t91x0
  simp only [byteAt_app, tw_nm, tw_ite, tw_bindS, tw_done]
  rw [if_neg (by simp; omega)]
  exact h
theorem goes_no {pre r : List UInt8} {c : UInt8} {k : Int} (hk : ((c.toNat : Nat) : Int) = k) (hr : r.head? ≠ some c) (h : K (.ret (.bool false, .no), rd (pre ++ r) pre.length)) : lay.Wp 76 0 [.int .u8 k, .str (pre ++ r), .int .i64 (pre.length : Nat)] K := by
  refine Lay.wp_of h76 (fun call => e76x0 call _ _ _) ?_
  unfold t76x0
  simp only [tw_callT]
  cases r with
  | nil =>
    refine peek_end (by simp) ?_
    simp only [s91x0, tw_needR, tw_needT, true_and, tw_nm, tw_iteF, tw_done]
    exact h
  | cons d r =>
    have hd : d ≠ c := fun e => hr (by simp [e])
    have hf : (((d.toNat : Nat) : Int) == k) = false := by
      rw [← Bool.not_eq_true, byteEq (b := d) c hk]
      exact hd
    refine peek_at ?_
    simp only [s91x0, hf, tw_needR, tw_needT, true_and, tw_nm, tw_iteF, tw_iteT, tw_done]
    exact h
theorem goes_yes {pre r : List UInt8} {c : UInt8} {k : Int} (hk : ((c.toNat : Nat) : Int) = k) (hl : pre.length ≤ 100000) (h : K (.ret (.bool true, .no), rd (pre ++ c :: r) (pre.length + 1))) : lay.Wp 76 0 [.int .u8 k, .str (pre ++ c :: r), .int .i64 (pre.length : Nat)] K := by
  refine Lay.wp_of h76 (fun call => e76x0 call _ _ _) ?_
  unfold t76x0
  simp only [tw_callT]
  have hf : (((c.toNat : Nat) : Int) == k) = true := (byteEq (b := c) c hk).2 rfl
  refine peek_at ?_
  simp only [s91x0, hf, tw_needR, tw_needT, true_and, tw_nm, tw_iteT, tw_done]
  have w1 : IntKind.wrap .i64 (((pre.length : Nat) : Int) + 1) = ((pre.length + 1 : Nat) : Int) := by rw [wrap64 (by omega) (by omega)]; omega
  rw [w1]
  exact h
/-- a byte behind a stroke -/
theorem stroke_wp {pre r : List UInt8} {c : UInt8} (hl : pre.length ≤ 1000000) (h1 : c ≠ 110) (h2 : c ≠ 116) (h : K (.ret (.int .u8 ((c.toNat : Nat) : Int), .no), rd (pre ++ c :: r) (pre.length + 1))) : lay.Wp 112 0 [.str (pre ++ c :: r), .int .i64 (pre.length : Nat)] K := by
  refine Lay.wp_of h112 (fun call => e112x0 call _ _) ?_
  unfold t112x0
  simp only [tw_callT]
  have f1 : (((c.toNat : Nat) : Int) == 110) = false := by rw [← Bool.not_eq_true, byteEq (b := c) 110 (k := 110) rfl]; exact h1
  have f2 : (((c.toNat : Nat) : Int) == 116) = false := by rw [← Bool.not_eq_true, byteEq (b := c) 116 (k := 116) rfl]; exact h2
  have w1 : IntKind.wrap .i64 (((pre.length : Nat) : Int) + 1) = ((pre.length + 1 : Nat) : Int) := by rw [wrap64 (by omega) (by omega)]; omega
  refine peek_at ?_
  simp only [s91x0, f1, f2, w1, Bool.not_true, tw_needR, tw_needT, true_and, tw_nm, tw_iteF, tw_done]
  exact h
/-! ### pieces -/
/-- nothing tells how often -/
def NoRep (r : List UInt8) : Prop := r.head? ≠ some 42 ∧ r.head? ≠ some 43 ∧ r.head? ≠ some 63 ∧ r.head? ≠ some 123
abbrev jnk (i2 i3 i4 i5 i6 i7 i8 : Int) (l9 : List AV) : List AV := [.int .i64 i2, .int .u64 i3, .int .u64 i4, .int .u64 i5, .int .u64 i6, .int .i64 i7, .int .i64 i8, .sl l9]
theorem piece_end {pre r : List UInt8} {j2 j3 j4 j5 j6 j7 j8 : Int} {l9 : List AV} {k a b c d mn mx : Int} {l : List Re} (hr : NoRep r)
    (h : K (.ret ((Re.mk k a b c d mn mx l).av, .no), rd (pre ++ r) pre.length)) :
    lay.Wp 92 1 ([.str (pre ++ r), .int .i64 (pre.length : Nat)] ++ jnk j2 j3 j4 j5 j6 j7 j8 l9 ++ (Re.mk k a b c d mn mx l).av.cells) K := by
  refine Lay.wp_of h92 (fun call => e92x1 call _ _ _ _ _ _ _ _ _ _ _ _ _ _ _ _ _ _) ?_
  unfold t92x1
  simp only [tw_callT]
  refine goes_no (c := 42) rfl hr.1 ?_
  simp only [s76x0, tw_needR, tw_needT, true_and, tw_iteF, tw_callT]
  refine goes_no (c := 43) rfl hr.2.1 ?_
  simp only [s76x0, tw_needR, tw_needT, true_and, tw_iteF, tw_callT]
  refine goes_no (c := 63) rfl hr.2.2.1 ?_
  simp only [s76x0, tw_needR, tw_needT, true_and, tw_iteF, tw_callT]
  refine goes_no (c := 123) rfl hr.2.2.2 ?_
  simp only [s76x0, tw_needR, tw_needT, true_and, tw_iteF, tw_need, tw_done]
  exact ⟨avs_low l, avs_low l, h⟩
end Go.Proofs.YtdiphholophdcaaDoor.T
end
section
open Go Go.Ab
/- PARTS ARE JOINED; BYTES AS ATOMS. -/
namespace Go.Proofs.YtdiphholophdcaaDoor.T
variable {K : Out → Prop}
def Re.kind : Re → Int
  | .mk k _ _ _ _ _ _ _ => k
def Re.subs : Re → List Re
  | .mk _ _ _ _ _ _ _ l => l
abbrev Re.nil : Re := .mk 0 0 0 0 0 0 0 []
def flat1 (k : Int) (x : Re) : List Re := if x.kind = k then x.subs else if x.kind ≠ 0 ∨ k = 5 then [x] else []
def flatR (k : Int) (l : List Re) : List Re := l.flatMap (flat1 k)
def join2 (k : Int) (l : List Re) : Re := match flatR k l with
  | [] => .nil
  | [x] => x
  | o => .mk k 0 0 0 0 0 0 o
def joinF (k : Int) (l : List Re) : Re := match l with
  | [] => .nil
  | [x] => x
  | l => join2 k l
theorem outR (x : Re) : ∃ k a b c d mn mx l, x = .mk k a b c d mn mx l := by
  obtain ⟨k, a, b, c, d, mn, mx, l⟩ := x
  exact ⟨_, _, _, _, _, _, _, _, rfl⟩
theorem joined_none {k : Int} (h : K (.ret (Re.nil.av, .no), ⟨[], []⟩)) : lay.Wp 77 0 [.int .i64 k, .sl (Re.avs [])] K := by
  refine Lay.wp_of h77 (fun call => e77x0 call _ _) ?_
  unfold t77x0
  simp only [tw_nm, tw_ite, tw_need, tw_done, avs_len]
  rw [if_pos (by simp)]
  exact ⟨rfl, rfl, h⟩
theorem joined_one {k : Int} {x : Re} (h : K (.ret (x.av, .no), ⟨[], []⟩)) : lay.Wp 77 0 [.int .i64 k, .sl (Re.avs [x])] K := by
  obtain ⟨k', a, b, c, d, mn, mx, l, rfl⟩ := outR x
  have e := elemAt_avs (l := [Re.mk k' a b c d mn mx l]) (i := 0) (by simp)
  simp only [List.getElem_cons_zero, re_cells] at e
  refine Lay.wp_of h77 (fun call => e77x0 call _ _) ?_
  unfold t77x0
  simp only [tw_nm, tw_ite, tw_done, avs_len]
  rw [if_neg (by simp), if_pos (by simp)]
  refine ⟨_, e, ?_⟩
  simp only [openC_int, openC_sl, openC_nil, tw_need, tw_done]
  exact ⟨avs_low l, avs_low l, h⟩
theorem avs_append (l r : List Re) : Re.avs l ++ Re.avs r = Re.avs (l ++ r) := by rw [avs_map, avs_map, avs_map, List.map_append]
theorem avs_single (k a b c d mn mx : Int) (l : List Re) : [AV.agg [.int .i64 k, .int .u64 a, .int .u64 b, .int .u64 c, .int .u64 d, .int .i64 mn, .int .i64 mx, .sl (Re.avs l)]] = Re.avs [.mk k a b c d mn mx l] := rfl
theorem joined_loop {k : Int} {L : List Re} (hL : L.length ≤ 4294967296) (hF : (flatR k L).length ≤ 4294967296) {b2 b3 : Bool} {j7 j8 j9 j10 j11 j12 j13 : Int} {j14 : List AV} (h : K (.ret ((join2 k L).av, .no), ⟨[], []⟩)) :
    ∀ (n i : Nat) (acc : List Re), L.length - i = n → i ≤ L.length → acc ++ flatR k (L.drop i) = flatR k L →
    lay.Wp 77 1 [.int .i64 k, .sl (Re.avs acc), .bool b2, .bool b3, .sl (Re.avs L), .int .i64 (L.length : Nat), .int .i64 (i : Nat), .int .i64 j7, .int .u64 j8, .int .u64 j9, .int .u64 j10, .int .u64 j11, .int .i64 j12, .int .i64 j13, .sl j14] K := by
  intro n
  have hk : Ab.maxLen = 4294967296 := rfl
  induction n with
  | zero =>
    intro i acc hn hi hacc
    rw [List.drop_eq_nil_of_le (by omega), flatR, List.flatMap_nil, List.append_nil] at hacc
    refine Lay.wp_of h77 (fun call => e77x1 call _ _ _ _ _ _ _ _ _ _ _ _ _ _ _) ?_
    unfold t77x1
    simp only [tw_nm, tw_ite, tw_need, tw_done, tw_callT, avs_len]
    rw [if_neg (by simp; omega)]
    unfold join2 at h
    rw [← hacc] at h
    match acc, h with
    | [], h =>
      rw [if_pos (by simp)]
      refine ⟨rfl, joined_none ?_⟩
      simp only [s77x0, Re.av, tw_needR, tw_needT, true_and, tw_need, tw_done]
      exact ⟨rfl, rfl, rfl, h⟩
    | [x], h =>
      rw [if_pos (by simp)]
      refine ⟨avs_low _, joined_one ?_⟩
      obtain ⟨k', a, b, c, d, mn, mx, l, rfl⟩ := outR x
      simp only [s77x0, Re.av, tw_needR, tw_needT, true_and, tw_need, tw_done]
      exact ⟨avs_low l, avs_low l, avs_low l, h⟩
    | x :: y :: r, h =>
      rw [if_neg (by simp; omega)]
      exact ⟨avs_low _, avs_low _, h⟩
  | succ n ih =>
    intro i acc hn hi hacc
    have hlt : i < L.length := by omega
    rw [List.drop_eq_getElem_cons hlt, flatR, List.flatMap_cons, ← flatR, ← List.append_assoc] at hacc
    have hlen : (acc ++ flat1 k L[i]).length ≤ 4294967296 := by
      have := congrArg List.length hacc
      simp only [List.length_append] at this ⊢
      omega
    have e := elemAt_avs hlt
    have next := ih (i + 1) (acc ++ flat1 k L[i]) (by omega) (by omega) hacc
    have w1 : IntKind.wrap .i64 (((i : Nat) : Int) + 1) = ((i + 1 : Nat) : Int) := by rw [wrap64 (by omega) (by omega)]; omega
    generalize L[i] = x at e next hlen
    obtain ⟨k', a, b, c, d, mn, mx, l, rfl⟩ := outR x
    rw [re_cells] at e
    refine Lay.wp_of h77 (fun call => e77x1 call _ _ _ _ _ _ _ _ _ _ _ _ _ _ _) ?_
    unfold t77x1
    simp only [e, w1, tw_nm, tw_ite, tw_opnS, openC_int, openC_sl, openC_nil, tw_needR, tw_needT, true_and, tw_need, tw_done, tw_callT, tw_jump, avs_len, avs_append, avs_single]
    rw [if_pos (by simp; omega)]
    refine ⟨avs_low l, ?_⟩
    by_cases c1 : k' = k
    · rw [if_pos (by simpa using c1)]
      rw [show flat1 k (.mk k' a b c d mn mx l) = l from if_pos c1] at next hlen
      rw [List.length_append] at hlen
      exact ⟨avs_sz _, avs_sz _, by omega, avs_low _, avs_low _, next⟩
    rw [if_neg (by simpa using c1)]
    rw [show flat1 k (.mk k' a b c d mn mx l) = if k' ≠ 0 ∨ k = 5 then [.mk k' a b c d mn mx l] else [] from if_neg c1] at next hlen
    by_cases c2 : k' ≠ 0
    · rw [if_pos (by simpa using c2)]
      rw [if_pos (.inl c2)] at next hlen
      rw [List.length_append, List.length_singleton] at hlen
      exact ⟨avs_sz _, by rfl, by omega, avs_low _, avs_low _, next⟩
    rw [if_neg (by simpa using c2)]
    by_cases c3 : k = 5
    · rw [if_pos (by simpa using c3)]
      rw [if_pos (.inr c3)] at next hlen
      rw [List.length_append, List.length_singleton] at hlen
      exact ⟨avs_sz _, by rfl, by omega, avs_low _, avs_low _, next⟩
    rw [if_neg (by simpa using c3)]
    rw [if_neg (by rintro (e | e); exact c2 e; exact c3 e), List.append_nil] at next
    exact ⟨avs_low _, avs_low _, next⟩
theorem joined_wp {k : Int} {L : List Re} (hL : L.length ≤ 4294967296) (hF : (flatR k L).length ≤ 4294967296) (h : K (.ret ((joinF k L).av, .no), ⟨[], []⟩)) : lay.Wp 77 0 [.int .i64 k, .sl (Re.avs L)] K := by
  match L, hL, hF, h with
  | [], _, _, h => exact joined_none h
  | [x], _, _, h => exact joined_one h
  | x :: y :: r, hL, hF, h =>
    refine Lay.wp_of h77 (fun call => e77x0 call _ _) ?_
    unfold t77x0
    simp only [tw_nm, tw_ite, tw_needR, tw_needT, true_and, tw_jump, avs_len]
    rw [if_neg (by simp; omega), if_neg (by simp; omega)]
    exact joined_loop hL hF h _ 0 [] rfl (by omega) rfl
/-! ### bytes as atoms -/
def specialL : List UInt8 := [46, 91, 93, 40, 41, 123, 125, 42, 43, 63, 124, 94, 36, 92]
theorem neByte {c d : UInt8} {k : Int} (hk : ((d.toNat : Nat) : Int) = k) (h : c ≠ d) : (((c.toNat : Nat) : Int) == k) = false := by
  rw [← Bool.not_eq_true, byteEq (b := c) d hk]; exact h
theorem atom_plain {pre r : List UInt8} {c : UInt8} {d : Int} (hl : pre.length ≤ 100000) (hc : c ∉ specialL) (h : K (.ret ((oneR c).av, .no), rd (pre ++ c :: r) (pre.length + 1))) : lay.Wp 101 0 [.int .i64 d, .str (pre ++ c :: r), .int .i64 (pre.length : Nat)] K := by
  simp only [specialL, List.mem_cons, List.not_mem_nil, or_false, not_or] at hc
  obtain ⟨a1, a2, a3, a4, a5, a6, a7, a8, a9, a10, a11, a12, a13, a14⟩ := hc
  have f1 := neByte (k := 46) rfl a1; have f2 := neByte (k := 91) rfl a2; have f4 := neByte (k := 40) rfl a4; have f5 := neByte (k := 41) rfl a5; have f6 := neByte (k := 123) rfl a6
  have f8 := neByte (k := 42) rfl a8; have f9 := neByte (k := 43) rfl a9; have f10 := neByte (k := 63) rfl a10; have f12 := neByte (k := 94) rfl a12; have f13 := neByte (k := 36) rfl a13; have f14 := neByte (k := 92) rfl a14
  have w1 : IntKind.wrap .i64 (((pre.length : Nat) : Int) + 1) = ((pre.length + 1 : Nat) : Int) := by rw [wrap64 (by omega) (by omega)]; omega
  refine Lay.wp_of h101 (fun call => e101x0 call _ _ _) ?_
  unfold t101x0
  simp only [tw_callT]
  refine peek_at ?_
  simp only [s91x0, f6, f8, f9, f10, tw_needR, tw_needT, true_and, tw_nm, tw_iteF, tw_jump]
  refine Lay.wp_of h101 (fun call => e101x1 call _ _ _ _ _ _ _ _ _ _ _ _ _ _ _) ?_
  unfold t101x1
  simp only [f5, f2, tw_nm, tw_iteF, tw_jump]
  refine Lay.wp_of h101 (fun call => e101x2 call _ _ _ _ _ _ _ _ _ _ _ _ _ _ _ _) ?_
  unfold t101x2
  simp only [w1, f4, f1, f12, f13, f14, tw_nm, tw_iteF, tw_callT]
  refine one_wp ?_
  simp only [s111x0, tw_needR, tw_needT, true_and, tw_need, tw_done]
  exact ⟨rfl, rfl, rfl, h⟩
theorem atom_esc {pre r : List UInt8} {c : UInt8} {d : Int} (hl : pre.length ≤ 100000) (h1 : c ≠ 110) (h2 : c ≠ 116) (h : K (.ret ((oneR c).av, .no), rd (pre ++ 92 :: c :: r) (pre.length + 2))) : lay.Wp 101 0 [.int .i64 d, .str (pre ++ 92 :: c :: r), .int .i64 (pre.length : Nat)] K := by
  have ne (k : Int) (d : UInt8) (hk : ((d.toNat : Nat) : Int) = k) (h : (92 : UInt8) ≠ d) := neByte (c := 92) hk h
  have f1 := ne 46 46 rfl (by decide); have f2 := ne 91 91 rfl (by decide); have f4 := ne 40 40 rfl (by decide); have f5 := ne 41 41 rfl (by decide); have f6 := ne 123 123 rfl (by decide)
  have f8 := ne 42 42 rfl (by decide); have f9 := ne 43 43 rfl (by decide); have f10 := ne 63 63 rfl (by decide); have f12 := ne 94 94 rfl (by decide); have f13 := ne 36 36 rfl (by decide)
  have f14 : ((((92 : UInt8).toNat : Nat) : Int) == 92) = true := rfl
  have w1 : IntKind.wrap .i64 (((pre.length : Nat) : Int) + 1) = ((pre.length + 1 : Nat) : Int) := by rw [wrap64 (by omega) (by omega)]; omega
  refine Lay.wp_of h101 (fun call => e101x0 call _ _ _) ?_
  unfold t101x0
  simp only [tw_callT]
  refine peek_at ?_
  simp only [s91x0, f6, f8, f9, f10, tw_needR, tw_needT, true_and, tw_nm, tw_iteF, tw_jump]
  refine Lay.wp_of h101 (fun call => e101x1 call _ _ _ _ _ _ _ _ _ _ _ _ _ _ _) ?_
  unfold t101x1
  simp only [f5, f2, tw_nm, tw_iteF, tw_jump]
  refine Lay.wp_of h101 (fun call => e101x2 call _ _ _ _ _ _ _ _ _ _ _ _ _ _ _ _) ?_
  unfold t101x2
  simp only [w1, f4, f1, f12, f13, f14, tw_nm, tw_iteF, tw_iteT, tw_callT]
  have hs : pre ++ 92 :: c :: r = (pre ++ [92]) ++ c :: r := by simp
  have hp : pre.length + 1 = (pre ++ [92]).length := by simp
  rw [hs, hp]
  refine stroke_wp (by simp; omega) h1 h2 ?_
  rw [← hs, ← hp]
  simp only [s112x0, s112x1, n112x0x1, tw_needR, tw_needT, true_and, tw_callT]
  refine one_wp ?_
  simp only [s111x0, tw_needR, tw_needT, true_and, tw_need, tw_done]
  exact ⟨rfl, rfl, rfl, h⟩
end Go.Proofs.YtdiphholophdcaaDoor.T
end
section
open Go Go.Ab
/- SETS AND TREES ARE WRITTEN. -/
namespace Go.Proofs.YtdiphholophdcaaDoor.T
variable {K : Out → Prop}
/-! ### sets -/
def wordN (a b c d : Nat) (j : Nat) : Nat := if j = 0 then a else if j = 1 then b else if j = 2 then c else d
def hasN (a b c d : Nat) (n : Nat) : Bool := (wordN a b c d (n / 64)).testBit (n % 64)
theorem bitInt (x m : Nat) (hx : x < 18446744073709551616) (hm : m < 64) : (andI .u64 (Int.fdiv ((x : Nat) : Int) ((2 : Int) ^ (Min.min (Int.toNat ((m : Nat) : Int)) 64))) 1 == 1) = x.testBit m := by
  rw [Int.toNat_natCast, Nat.min_eq_left (by omega)]
  have e1 : ((2 : Int) ^ m) = ((2 ^ m : Nat) : Int) := by norm_cast
  have e2 : Int.fdiv ((x : Nat) : Int) ((2 ^ m : Nat) : Int) = ((x / 2 ^ m : Nat) : Int) := by
    rw [Int.fdiv_eq_ediv_of_nonneg _ (Int.natCast_nonneg _)]; rfl
  rw [e1, e2]
  have hd : x / 2 ^ m < 18446744073709551616 := Nat.lt_of_le_of_lt (Nat.div_le_self _ _) hx
  have hb : (BitVec.ofInt 64 ((x / 2 ^ m : Nat) : Int) &&& BitVec.ofInt 64 1).toNat = x / 2 ^ m % 2 := by
    rw [BitVec.toNat_and, BitVec.toNat_ofInt, BitVec.toNat_ofInt]
    have q1 : ((((x / 2 ^ m : Nat) : Int) % ((2 ^ 64 : Nat) : Int)).toNat) = x / 2 ^ m := by
      have : ((2 ^ 64 : Nat) : Int) = 18446744073709551616 := rfl
      generalize x / 2 ^ m = y at *
      omega
    have q2 : ((1 : Int) % ((2 ^ 64 : Nat) : Int)).toNat = 1 := rfl
    rw [q1, q2, Nat.and_one_is_mod]
  unfold andI
  rw [show IntKind.bits .u64 = 64 from rfl, hb, wrapU64 (by omega), Nat.testBit_eq_decide_div_mod_eq, Bool.eq_iff_iff, beq_iff_eq, decide_eq_true_eq]
  omega
theorem has_wp {a b c d n : Nat} (ha : a < 18446744073709551616) (hb : b < 18446744073709551616) (hc : c < 18446744073709551616) (hd : d < 18446744073709551616) (hn : n < 256) (h : K (.ret (.bool (hasN a b c d n), .no), ⟨[], []⟩)) :
    lay.Wp 87 0 [.int .u64 (a : Nat), .int .u64 (b : Nat), .int .u64 (c : Nat), .int .u64 (d : Nat), .int .u8 (n : Nat)] K := by
  have d1 : IntKind.wrap .u8 (Int.tdiv ((n : Nat) : Int) 64) = ((n / 64 : Nat) : Int) := by
    have : Int.tdiv ((n : Nat) : Int) 64 = ((n / 64 : Nat) : Int) := rfl
    rw [this, IntKind.wrap_u8]; omega
  have d2 : Int.tmod ((n : Nat) : Int) 64 = ((n % 64 : Nat) : Int) := rfl
  unfold hasN at h
  refine Lay.wp_of h87 (fun call => e87x0 call _ _ _ _ _) ?_
  unfold t87x0
  simp only [d1, d2, tw_nm, tw_need]
  have hj : n / 64 = 0 ∨ n / 64 = 1 ∨ n / 64 = 2 ∨ n / 64 = 3 := by omega
  rcases hj with ej | ej | ej | ej <;>
  · rw [ej] at h ⊢
    refine ⟨by simp [nonzero], ⟨by omega, by omega⟩, _, rfl, ?_⟩
    simp only [openC_int, openC_nil, tw_nm, tw_need, tw_done]
    refine ⟨by simp [nonzero], by simp [nonneg]; omega, ?_⟩
    rw [bitInt _ _ (by assumption) (by omega)]
    exact h
theorem not64 {x : Nat} (hx : x < 18446744073709551616) : xorI .u64 ((((2 ^ 64) - 1 : Nat)) : Int) ((x : Nat) : Int) = ((18446744073709551616 - 1 - x : Nat) : Int) := by
  have hb : (BitVec.ofInt 64 (((2 ^ 64) - 1 : Nat) : Int) ^^^ BitVec.ofInt 64 ((x : Nat) : Int)).toNat = 18446744073709551616 - 1 - x := by
    have e : BitVec.ofInt 64 (((2 ^ 64) - 1 : Nat) : Int) = BitVec.allOnes 64 := rfl
    rw [e, BitVec.allOnes_xor, BitVec.toNat_not, BitVec.toNat_ofInt]
    have q1 : ((((x : Nat) : Int) % ((2 ^ 64 : Nat) : Int)).toNat) = x := by
      have : ((2 ^ 64 : Nat) : Int) = 18446744073709551616 := rfl
      omega
    rw [q1]
  unfold xorI
  rw [show IntKind.bits .u64 = 64 from rfl, hb]
  exact wrapU64 (by omega)
theorem not_wp {a b c d : Nat} (ha : a < 18446744073709551616) (hb : b < 18446744073709551616) (hc : c < 18446744073709551616) (hd : d < 18446744073709551616) (h : K (.ret (.agg [.int .u64 ((18446744073709551616 - 1 - a : Nat) : Int), .int .u64 ((18446744073709551616 - 1 - b : Nat) : Int), .int .u64 ((18446744073709551616 - 1 - c : Nat) : Int), .int .u64 ((18446744073709551616 - 1 - d : Nat) : Int)], .no), ⟨[], []⟩)) :
    lay.Wp 86 0 [.int .u64 (a : Nat), .int .u64 (b : Nat), .int .u64 (c : Nat), .int .u64 (d : Nat)] K := by
  refine Lay.wp_of h86 (fun call => e86x0 call _ _ _ _) ?_
  unfold t86x0
  simp only [tw_jump]
  have w : ∀ n : Nat, n < 10 → IntKind.wrap .i64 ((n : Nat) : Int) = ((n : Nat) : Int) := fun n hn => wrap64 (by omega) (by omega)
  have s0 : IntKind.wrap .i64 ((0 : Int) + 1) = 1 := rfl
  have s1 : IntKind.wrap .i64 ((1 : Int) + 1) = 2 := rfl
  have s2 : IntKind.wrap .i64 ((2 : Int) + 1) = 3 := rfl
  have s3 : IntKind.wrap .i64 ((3 : Int) + 1) = 4 := rfl
  refine Lay.wp_of h86 (fun call => e86x1 call _ _ _ _ _ _ _ _ _) ?_
  unfold t86x1
  simp only [s0, tw_nm, tw_ite, tw_need, tw_jump, tw_done]
  rw [if_pos (by decide)]
  refine ⟨⟨by decide, by decide⟩, _, rfl, ?_⟩
  simp only [openC_int, openC_nil, tw_nm, tw_need, not64 ha]
  refine ⟨⟨by decide, by decide⟩, by decide, _, rfl, ?_⟩
  simp only [openC_int, openC_nil, tw_nm, tw_jump]
  refine Lay.wp_of h86 (fun call => e86x1 call _ _ _ _ _ _ _ _ _) ?_
  unfold t86x1
  simp only [s1, tw_nm, tw_ite, tw_need, tw_jump, tw_done]
  rw [if_pos (by decide)]
  refine ⟨⟨by decide, by decide⟩, _, rfl, ?_⟩
  simp only [openC_int, openC_nil, tw_nm, tw_need, not64 hb]
  refine ⟨⟨by decide, by decide⟩, by decide, _, rfl, ?_⟩
  simp only [openC_int, openC_nil, tw_nm, tw_jump]
  refine Lay.wp_of h86 (fun call => e86x1 call _ _ _ _ _ _ _ _ _) ?_
  unfold t86x1
  simp only [s2, tw_nm, tw_ite, tw_need, tw_jump, tw_done]
  rw [if_pos (by decide)]
  refine ⟨⟨by decide, by decide⟩, _, rfl, ?_⟩
  simp only [openC_int, openC_nil, tw_nm, tw_need, not64 hc]
  refine ⟨⟨by decide, by decide⟩, by decide, _, rfl, ?_⟩
  simp only [openC_int, openC_nil, tw_nm, tw_jump]
  refine Lay.wp_of h86 (fun call => e86x1 call _ _ _ _ _ _ _ _ _) ?_
  unfold t86x1
  simp only [s3, tw_nm, tw_ite, tw_need, tw_jump, tw_done]
  rw [if_pos (by decide)]
  refine ⟨⟨by decide, by decide⟩, _, rfl, ?_⟩
  simp only [openC_int, openC_nil, tw_nm, tw_need, not64 hd]
  refine ⟨⟨by decide, by decide⟩, by decide, _, rfl, ?_⟩
  simp only [openC_int, openC_nil, tw_nm, tw_jump]
  refine Lay.wp_of h86 (fun call => e86x1 call _ _ _ _ _ _ _ _ _) ?_
  unfold t86x1
  simp only [tw_nm, tw_ite, tw_need, tw_jump, tw_done]
  rw [if_neg (by decide)]
  exact h
/-! ### a set's text -/
def strokesL : List UInt8 := [94, 45, 93, 91, 92]
def encC (n : Nat) : List UInt8 := if UInt8.ofNat n ∈ strokesL then [92, UInt8.ofNat n] else [UInt8.ofNat n]
def clsL (f : Nat → Bool) : Nat → Nat → List UInt8
  | 0, _ => []
  | m + 1, i => (if f i then encC i else []) ++ clsL f m (i + 1)
theorem clsL_len (f : Nat → Bool) : ∀ m i, (clsL f m i).length ≤ 2 * m
  | 0, i => by simp [clsL]
  | m + 1, i => by
    have h1 := clsL_len f m (i + 1)
    have h2 : (if f i then encC i else []).length ≤ 2 := by
      split
      · unfold encC; split <;> simp
      · simp
    simp only [clsL, List.length_append]; omega
def clsText (a b c d : Nat) : List UInt8 := if a = 0 ∧ b = 0 ∧ c = 0 ∧ d = 0 then [91, 94] ++ clsL (fun _ => true) 256 0 ++ [93] else [91] ++ clsL (hasN a b c d) 256 0 ++ [93]
theorem clsText_len (a b c d : Nat) : (clsText a b c d).length ≤ 520 := by
  unfold clsText
  split
  · have := clsL_len (fun _ => true) 256 0; simp; omega
  · have := clsL_len (hasN a b c d) 256 0; simp; omega
theorem clsL_congr {f g : Nat → Bool} : ∀ m i, (∀ n, i ≤ n → n < i + m → f n = g n) → clsL f m i = clsL g m i
  | 0, i, h => rfl
  | m + 1, i, h => by
    simp only [clsL]
    rw [h i (by omega) (by omega), clsL_congr m (i + 1) fun n h1 h2 => h n (by omega) (by omega)]
theorem has_all (n : Nat) (hn : n < 256) : hasN (18446744073709551616 - 1) (18446744073709551616 - 1) (18446744073709551616 - 1) (18446744073709551616 - 1) n = true := by
  have key : ∀ n, n < 256 → hasN (18446744073709551616 - 1) (18446744073709551616 - 1) (18446744073709551616 - 1) (18446744073709551616 - 1) n = true := by decide +kernel
  exact key n hn
theorem cls_loop {a b c d : Nat} (ha : a < 18446744073709551616) (hb : b < 18446744073709551616) (hc : c < 18446744073709551616) (hd : d < 18446744073709551616) {b0 : Bool} : ∀ (m i : Nat) (acc : List UInt8), i + m = 256 → acc.length ≤ 2 * i + 2 → K (.ret (.str (acc ++ clsL (hasN a b c d) m i ++ [93]), .no), ⟨[], []⟩) →
    lay.Wp 70 1 [.bool b0, .int .i64 (i : Nat), .int .u64 (a : Nat), .int .u64 (b : Nat), .int .u64 (c : Nat), .int .u64 (d : Nat), .buf 5 acc] K := by
  intro m
  have hk : Ab.maxLen = 4294967296 := rfl
  induction m with
  | zero =>
    intro i acc hi hacc h
    refine Lay.wp_of h70 (fun call => e70x1 call _ _ _ _ _ _ _) ?_
    unfold t70x1
    simp only [tw_nm, tw_ite, tw_needR, tw_needT, true_and, tw_need, tw_callT]
    rw [if_neg (by simp; omega)]
    refine writeByte_wp (by omega) (by omega) ?_
    simp only [s42x0, tw_needR, tw_needT, true_and, tw_need, tw_callT]
    refine bString_wp (by simp; omega) ?_
    simp only [s44x0, tw_needR, tw_needT, true_and, tw_need, tw_done]
    simpa [clsL] using h
  | succ m ih =>
    intro i acc hi hacc h
    have w1 : IntKind.wrap .i64 (((i : Nat) : Int) + 1) = ((i + 1 : Nat) : Int) := by rw [wrap64 (by omega) (by omega)]; omega
    have w8 : IntKind.wrap .u8 ((i : Nat) : Int) = ((i : Nat) : Int) := by rw [IntKind.wrap_u8]; omega
    simp only [clsL] at h
    have hu : ((i : Nat) : Int) = (((UInt8.ofNat i).toNat : Nat) : Int) := by
      have : (UInt8.ofNat i).toNat = i := by simp; omega
      rw [this]
    refine Lay.wp_of h70 (fun call => e70x1 call _ _ _ _ _ _ _) ?_
    unfold t70x1
    simp only [w1, w8, tw_nm, tw_ite, tw_needR, tw_needT, true_and, tw_need, tw_callT, tw_jump]
    rw [if_pos (by simp; omega)]
    refine has_wp ha hb hc hd (by omega) ?_
    simp only [s87x0, tw_needR, tw_needT, true_and, tw_nm, tw_ite, tw_need, tw_callT, tw_jump]
    by_cases c1 : hasN a b c d i = true
    · rw [if_neg (by simp [c1])]
      rw [if_pos c1] at h
      rw [hu]
      refine indexByte_wp (s := strokesL) fun r hr => ?_
      simp only [s54x0, tw_needR, tw_needT, true_and, tw_nm, tw_ite, tw_need, tw_callT]
      rw [← hu]
      by_cases c2 : UInt8.ofNat i ∈ strokesL
      · rw [if_pos (by simpa using hr.2 c2)]
        rw [show encC i = [92, UInt8.ofNat i] from if_pos c2] at h
        refine writeByte_wp (by omega) (by omega) ?_
        simp only [s42x0, tw_needR, tw_needT, true_and, tw_nm, tw_need, tw_callT]
        refine writeByte_wp (by omega) (by simp; omega) ?_
        simp only [s42x0, tw_needR, tw_needT, true_and, tw_nm, tw_need, tw_jump]
        refine ih (i + 1) _ (by omega) (by simp; omega) ?_
        have e92 : UInt8.ofNat (Int.toNat 92) = 92 := rfl
        rw [e92, Int.toNat_natCast]
        simpa using h
      · rw [if_neg (by simp; exact Int.not_le.1 fun e => c2 (hr.1 e))]
        rw [show encC i = [UInt8.ofNat i] from if_neg c2] at h
        refine writeByte_wp (by omega) (by omega) ?_
        simp only [s42x0, tw_needR, tw_needT, true_and, tw_nm, tw_need, tw_jump]
        refine ih (i + 1) _ (by omega) (by simp; omega) ?_
        rw [Int.toNat_natCast]
        simpa using h
    · rw [if_pos (by simpa using c1)]
      rw [if_neg c1, List.nil_append] at h
      exact ih (i + 1) _ (by omega) (by omega) h
theorem cls_wp {a b c d : Nat} (ha : a < 18446744073709551616) (hb : b < 18446744073709551616) (hc : c < 18446744073709551616) (hd : d < 18446744073709551616) (h : K (.ret (.str (clsText a b c d), .no), ⟨[], []⟩)) : lay.Wp 70 0 [.int .u64 (a : Nat), .int .u64 (b : Nat), .int .u64 (c : Nat), .int .u64 (d : Nat)] K := by
  have hk : Ab.maxLen = 4294967296 := rfl
  unfold clsText at h
  refine Lay.wp_of h70 (fun call => e70x0 call _ _ _ _) ?_
  unfold t70x0
  simp only [tw_needR, tw_needT, true_and, tw_callT]
  refine writeByte_wp (by omega) (by simp; omega) ?_
  simp only [s42x0, tw_needR, tw_needT, true_and, tw_nm, tw_ite, tw_need, tw_callT, tw_jump]
  by_cases c1 : a = 0 ∧ b = 0 ∧ c = 0 ∧ d = 0
  · rw [if_pos c1] at h
    obtain ⟨rfl, rfl, rfl, rfl⟩ := c1
    rw [if_pos (by decide)]
    refine writeByte_wp (by omega) (by simp; omega) ?_
    simp only [s42x0, tw_needR, tw_needT, true_and, tw_nm, tw_need, tw_callT]
    refine not_wp (by decide) (by decide) (by decide) (by decide) ?_
    simp only [s86x0, tw_needR, tw_needT, true_and, tw_nm, tw_need, tw_jump]
    refine cls_loop (by decide) (by decide) (by decide) (by decide) 256 0 _ rfl (by simp) ?_
    have e := clsL_congr (f := hasN (18446744073709551616 - 1 - 0) (18446744073709551616 - 1 - 0) (18446744073709551616 - 1 - 0) (18446744073709551616 - 1 - 0)) (g := fun _ => true) 256 0 fun n _ h2 => (by rw [Nat.sub_zero]; exact has_all n (by omega))
    rw [e]
    exact h
  · rw [if_neg c1] at h
    rw [if_neg (by
      intro hh
      simp only [Bool.and_true, Bool.and_eq_true, beq_iff_eq] at hh
      exact c1 ⟨by omega, by omega, by omega, by omega⟩)]
    refine cls_loop ha hb hc hd 256 0 _ rfl (by simp) ?_
    exact h
end Go.Proofs.YtdiphholophdcaaDoor.T
end
section
open Go Go.Ab
/- TREES' TEXTS. -/
namespace Go.Proofs.YtdiphholophdcaaDoor.T
variable {K : Out → Prop}
theorem join_len (xs : List (List UInt8)) (sep : List UInt8) : (Go.Lib.join xs sep).length ≤ Go.Lib.lens xs + sep.length * xs.length := by
  cases xs with
  | nil => simp [Go.Lib.join_nil]
  | cons x r =>
    rw [Go.Lib.join_cons, List.length_append, Go.Lib.joinTail_length]
    simp only [Go.Lib.lens, List.map_cons, List.sum_cons, List.length_cons, Nat.mul_succ]
    omega
def itoaF (n : Int) : List UInt8 := if n < 10 then [UInt8.ofNat (48 + n.toNat)] else [UInt8.ofNat (48 + n.toNat / 10), UInt8.ofNat (48 + n.toNat % 10)]
theorem itoaF_len (n : Int) : (itoaF n).length ≤ 2 := by unfold itoaF; split <;> simp
def oftenF (mn mx : Int) : List UInt8 :=
  if mn = 0 ∧ mx = -1 then [42] else if mn = 1 ∧ mx = -1 then [43] else if mn = 0 ∧ mx = 1 then [63]
  else if mx = -1 then 123 :: itoaF mn ++ [44, 125] else if mn = mx then 123 :: itoaF mn ++ [125] else 123 :: itoaF mn ++ [44] ++ itoaF mx ++ [125]
theorem oftenF_len (mn mx : Int) : (oftenF mn mx).length ≤ 10 := by
  have h1 := itoaF_len mn
  have h2 := itoaF_len mx
  unfold oftenF
  repeat' split
  all_goals simp <;> omega
def wrapB (kinds : List Int) (k : Int) (s : List UInt8) : List UInt8 := if k ∈ kinds then 40 :: s ++ [41] else s
theorem wrapB_len (kinds : List Int) (k : Int) (s : List UInt8) : (wrapB kinds k s).length ≤ s.length + 2 := by
  unfold wrapB; split <;> simp
def kindH : List Re → Int
  | [] => 0
  | x :: _ => x.kind
mutual
def showF : Re → List UInt8
  | .mk k a b c d mn mx l =>
    if k = 1 then (if a = 18446744073709551615 ∧ b = 18446744073709551615 ∧ c = 18446744073709551615 ∧ d = 18446744073709551615 then [46] else clsText a.toNat b.toNat c.toNat d.toNat)
    else if k = 2 then [94] else if k = 3 then [36]
    else if k = 6 then wrapB [4, 5, 0] (kindH l) (showH l) ++ oftenF mn mx
    else Go.Lib.join (showL k l) (if k = 5 then [124] else [])
def showH : List Re → List UInt8
  | [] => []
  | x :: _ => showF x
def showL (k : Int) : List Re → List (List UInt8)
  | [] => []
  | x :: r => (if k = 4 then wrapB [5] x.kind (showF x) else showF x) :: showL k r
end
mutual
def Re.nodes : Re → Nat
  | .mk _ _ _ _ _ _ _ l => 1 + Re.nodesL l
def Re.nodesL : List Re → Nat
  | [] => 0
  | x :: r => x.nodes + Re.nodesL r
end
theorem nodes_pos : ∀ x : Re, 1 ≤ x.nodes
  | .mk _ _ _ _ _ _ _ l => by simp only [Re.nodes]; omega
theorem nodesL_len : ∀ l : List Re, l.length ≤ Re.nodesL l
  | [] => by simp
  | x :: r => by have := nodesL_len r; have := nodes_pos x; simp only [Re.nodesL, List.length_cons]; omega
theorem showL_len (k : Int) : ∀ l : List Re, (showL k l).length = l.length
  | [] => rfl
  | x :: r => by simp only [showL, List.length_cons, showL_len k r]
mutual
theorem show_len : ∀ x : Re, (showF x).length + 100 ≤ 1000 * x.nodes
  | .mk k a b c d mn mx l => by
    have h1 := showH_len l
    have h2 := showL_lens k l
    have h3 := nodesL_len l
    unfold showF Re.nodes
    split
    · split
      · simp; omega
      · have := clsText_len a.toNat b.toNat c.toNat d.toNat; omega
    split
    · simp; omega
    split
    · simp; omega
    split
    · have := wrapB_len [4, 5, 0] (kindH l) (showH l)
      have := oftenF_len mn mx
      rw [List.length_append]; omega
    · have := join_len (showL k l) (if k = 5 then [124] else [])
      rw [showL_len] at this
      have hs : (if k = 5 then [124] else [] : List UInt8).length ≤ 1 := by split <;> simp
      have : (if k = 5 then [124] else [] : List UInt8).length * l.length ≤ 1 * l.length := Nat.mul_le_mul_right _ hs
      omega
theorem showH_len : ∀ l : List Re, (showH l).length ≤ 1000 * Re.nodesL l
  | [] => by simp [showH]
  | x :: r => by have := show_len x; simp only [showH, Re.nodesL]; omega
theorem showL_lens (k : Int) : ∀ l : List Re, Go.Lib.lens (showL k l) + 90 * l.length ≤ 1000 * Re.nodesL l
  | [] => by simp [showL, Go.Lib.lens, Re.nodesL]
  | x :: r => by
    have h1 := show_len x
    have h2 := showL_lens k r
    have h3 := wrapB_len [5] x.kind (showF x)
    have h4 : (if k = 4 then wrapB [5] x.kind (showF x) else showF x).length ≤ (showF x).length + 2 := by split <;> omega
    simp only [showL, Go.Lib.lens, List.map_cons, List.sum_cons, Re.nodesL, List.length_cons] at h2 ⊢
    omega
end
/-! ### what is written can be written -/
mutual
def Re.ok : Re → Prop
  | .mk k a b c d mn mx l => (0 ≤ a ∧ a < 18446744073709551616) ∧ (0 ≤ b ∧ b < 18446744073709551616) ∧ (0 ≤ c ∧ c < 18446744073709551616) ∧ (0 ≤ d ∧ d < 18446744073709551616) ∧
    (k = 6 → l ≠ [] ∧ (0 ≤ mn ∧ mn < 100) ∧ (mx = -1 ∨ 0 ≤ mx ∧ mx < 100)) ∧ Re.okL l
def Re.okL : List Re → Prop
  | [] => True
  | x :: r => x.ok ∧ Re.okL r
end
theorem small_tab : ∀ n, n < 100 → 10 ≤ n → List.drop (n * 2) (List.take (n * 2 + 2) ([48, 48, 48, 49, 48, 50, 48, 51, 48, 52, 48, 53, 48, 54, 48, 55, 48, 56, 48, 57, 49, 48, 49, 49, 49, 50, 49, 51, 49, 52, 49, 53, 49, 54, 49, 55, 49, 56, 49, 57, 50, 48, 50, 49, 50, 50, 50, 51, 50, 52, 50, 53, 50, 54, 50, 55, 50, 56, 50, 57, 51, 48, 51, 49, 51, 50, 51, 51, 51, 52, 51, 53, 51, 54, 51, 55, 51, 56, 51, 57, 52, 48, 52, 49, 52, 50, 52, 51, 52, 52, 52, 53, 52, 54, 52, 55, 52, 56, 52, 57, 53, 48, 53, 49, 53, 50, 53, 51, 53, 52, 53, 53, 53, 54, 53, 55, 53, 56, 53, 57, 54, 48, 54, 49, 54, 50, 54, 51, 54, 52, 54, 53, 54, 54, 54, 55, 54, 56, 54, 57, 55, 48, 55, 49, 55, 50, 55, 51, 55, 52, 55, 53, 55, 54, 55, 55, 55, 56, 55, 57, 56, 48, 56, 49, 56, 50, 56, 51, 56, 52, 56, 53, 56, 54, 56, 55, 56, 56, 56, 57, 57, 48, 57, 49, 57, 50, 57, 51, 57, 52, 57, 53, 57, 54, 57, 55, 57, 56, 57, 57] : List UInt8)) = [UInt8.ofNat (48 + n / 10), UInt8.ofNat (48 + n % 10)] := by decide +kernel
theorem digit_tab : ∀ n, n < 10 → List.drop n (List.take (n + 1) ([48, 49, 50, 51, 52, 53, 54, 55, 56, 57, 97, 98, 99, 100, 101, 102, 103, 104, 105, 106, 107, 108, 109, 110, 111, 112, 113, 114, 115, 116, 117, 118, 119, 120, 121, 122] : List UInt8)) = [UInt8.ofNat (48 + n)] := by decide +kernel
theorem itoa_wp {n : Int} (h0 : 0 ≤ n) (h1 : n < 100) (h : K (.ret (.str (itoaF n), .no), ⟨[], []⟩)) : lay.Wp 89 0 [.int .i64 n] K := by
  refine Lay.wp_of h89 (fun call => e89x0 call _) ?_
  unfold t89x0
  simp only [tw_callT]
  refine Lay.wp_of h99 (fun call => e99x0 call _) ?_
  unfold t99x0
  simp only [tw_callT]
  refine Lay.wp_of h107 (fun call => e107x0 call _ _) ?_
  unfold t107x0
  simp only [tw_nm, tw_ite, tw_callT]
  rw [if_pos (by decide), if_pos (by simpa using h0), if_pos (by simpa using h1)]
  refine Lay.wp_of h117 (fun call => e117x0 call _) ?_
  unfold t117x0
  unfold itoaF at h
  simp only [tw_nm, tw_ite, tw_need, tw_done]
  obtain ⟨m, rfl⟩ : ∃ m : Nat, n = (m : Nat) := ⟨n.toNat, by omega⟩
  simp only [Int.toNat_natCast] at h
  by_cases c1 : m < 10
  · rw [if_pos (by simp; omega)]
    rw [if_pos (by omega)] at h
    have w1 : IntKind.wrap .i64 (((m : Nat) : Int) + 1) = ((m + 1 : Nat) : Int) := by rw [wrap64 (by omega) (by omega)]; omega
    rw [w1, Int.toNat_natCast, Int.toNat_natCast, digit_tab m c1]
    refine ⟨⟨by omega, by omega, by omega⟩, ?_⟩
    simp only [s117x0, s107x0, s99x0, s89x0, tw_needR, tw_needT, tw_done]
    exact h
  · rw [if_neg (by simp; omega)]
    rw [if_neg (by omega)] at h
    have w1 : IntKind.wrap .i64 (((m : Nat) : Int) * 2) = ((m * 2 : Nat) : Int) := by rw [wrap64 (by omega) (by omega)]; omega
    have w2 : IntKind.wrap .i64 (((m * 2 : Nat) : Int) + 2) = ((m * 2 + 2 : Nat) : Int) := by rw [wrap64 (by omega) (by omega)]; omega
    rw [w1, w2, Int.toNat_natCast, Int.toNat_natCast, small_tab m (by omega) (by omega)]
    refine ⟨⟨by omega, by omega, by omega⟩, ?_⟩
    simp only [s117x0, s107x0, s99x0, s89x0, tw_needR, tw_needT, tw_done]
    exact h
theorem often_wp {mn mx : Int} (h1 : 0 ≤ mn ∧ mn < 100) (h2 : mx = -1 ∨ 0 ≤ mx ∧ mx < 100) (h : K (.ret (.str (oftenF mn mx), .no), ⟨[], []⟩)) : lay.Wp 72 0 [.int .i64 mn, .int .i64 mx] K := by
  have hm : maxStr = 281474976710656 := rfl
  have l1 := itoaF_len mn
  have l2 := itoaF_len mx
  unfold oftenF at h
  have three (b2 b3 b4 : Bool) (h : K (.ret (.str (if mx = -1 then 123 :: itoaF mn ++ [44, 125] else if mn = mx then 123 :: itoaF mn ++ [125] else 123 :: itoaF mn ++ [44] ++ itoaF mx ++ [125]), .no), ⟨[], []⟩)) : lay.Wp 72 3 [.int .i64 mn, .int .i64 mx, .bool b2, .bool b3, .bool b4] K := by
    refine Lay.wp_of h72 (fun call => e72x3 call _ _ _ _ _) ?_
    unfold t72x3
    simp only [tw_nm, tw_ite, tw_callT]
    by_cases c1 : mx = -1
    · rw [if_pos (by simpa using c1)]
      rw [if_pos c1] at h
      refine itoa_wp h1.1 h1.2 ?_
      simp only [s89x0, tw_needR, tw_needT, true_and, tw_need, tw_nm, tw_done]
      exact ⟨by omega, by simp; omega, h⟩
    rw [if_neg (by simpa using c1)]
    rw [if_neg c1] at h
    by_cases c2 : mn = mx
    · rw [if_pos (by simpa using c2)]
      rw [if_pos c2] at h
      refine itoa_wp h1.1 h1.2 ?_
      simp only [s89x0, tw_needR, tw_needT, true_and, tw_need, tw_nm, tw_done]
      exact ⟨by omega, by simp; omega, h⟩
    rw [if_neg (by simpa using c2)]
    rw [if_neg c2] at h
    refine itoa_wp h1.1 h1.2 ?_
    simp only [s89x0, tw_needR, tw_needT, true_and, tw_need, tw_nm, tw_callT]
    refine ⟨by omega, by simp; omega, itoa_wp (by omega) (by omega) ?_⟩
    simp only [s89x0, tw_needR, tw_needT, true_and, tw_need, tw_nm, tw_done]
    exact ⟨by simp; omega, by simp; omega, h⟩
  have two (b2 b3 : Bool) (h : K (.ret (.str (if mn = 0 ∧ mx = 1 then [63] else if mx = -1 then 123 :: itoaF mn ++ [44, 125] else if mn = mx then 123 :: itoaF mn ++ [125] else 123 :: itoaF mn ++ [44] ++ itoaF mx ++ [125]), .no), ⟨[], []⟩)) : lay.Wp 72 2 [.int .i64 mn, .int .i64 mx, .bool b2, .bool b3] K := by
    refine Lay.wp_of h72 (fun call => e72x2 call _ _ _ _) ?_
    unfold t72x2
    simp only [tw_nm, tw_ite, tw_callT, tw_jump, tw_done]
    by_cases c1 : mn = 0
    · rw [if_pos (by simpa using c1)]
      by_cases c2 : mx = 1
      · rw [if_pos (by simpa using c2)]
        rw [if_pos ⟨c1, c2⟩] at h
        exact h
      · rw [if_neg (by simpa using c2)]
        rw [if_neg (fun e => c2 e.2)] at h
        exact three _ _ _ h
    · rw [if_neg (by simpa using c1)]
      rw [if_neg (fun e => c1 e.1)] at h
      exact three _ _ _ h
  have one (b2 : Bool) (h : K (.ret (.str (if mn = 1 ∧ mx = -1 then [43] else if mn = 0 ∧ mx = 1 then [63] else if mx = -1 then 123 :: itoaF mn ++ [44, 125] else if mn = mx then 123 :: itoaF mn ++ [125] else 123 :: itoaF mn ++ [44] ++ itoaF mx ++ [125]), .no), ⟨[], []⟩)) : lay.Wp 72 1 [.int .i64 mn, .int .i64 mx, .bool b2] K := by
    refine Lay.wp_of h72 (fun call => e72x1 call _ _ _) ?_
    unfold t72x1
    simp only [tw_nm, tw_ite, tw_callT, tw_jump, tw_done]
    by_cases c1 : mn = 1
    · rw [if_pos (by simpa using c1)]
      by_cases c2 : mx = -1
      · rw [if_pos (by simpa using c2)]
        rw [if_pos ⟨c1, c2⟩] at h
        exact h
      · rw [if_neg (by simpa using c2)]
        rw [if_neg (fun e => c2 e.2)] at h
        exact two _ _ h
    · rw [if_neg (by simpa using c1)]
      rw [if_neg (fun e => c1 e.1)] at h
      exact two _ _ h
  refine Lay.wp_of h72 (fun call => e72x0 call _ _) ?_
  unfold t72x0
  simp only [tw_nm, tw_ite, tw_callT, tw_jump, tw_done]
  by_cases c1 : mn = 0
  · rw [if_pos (by simpa using c1)]
    by_cases c2 : mx = -1
    · rw [if_pos (by simpa using c2)]
      rw [if_pos ⟨c1, c2⟩] at h
      exact h
    · rw [if_neg (by simpa using c2)]
      rw [if_neg (fun e => c2 e.2)] at h
      exact one _ h
  · rw [if_neg (by simpa using c1)]
    rw [if_neg (fun e => c1 e.1)] at h
    exact one _ h
/-! ### brackets -/
theorem indexI_loop (l : List Int) (s : Int) (hl : l.length ≤ 1000) : ∀ (n i : Nat), l.length - i = n → i ≤ l.length →
    (∀ r : Int, ((0 ≤ r) ↔ s ∈ l.drop i) → K (.ret (.int .i64 r, .no), ⟨[], []⟩)) →
    lay.Wp 98 1 [.sl (l.map (AV.int .i64)), .int .i64 s, .int .i64 (l.length : Nat), .int .i64 (i : Nat)] K := by
  intro n
  induction n with
  | zero =>
    intro i hn hi h
    refine Lay.wp_of h98 (fun call => e98x1 call _ _ _ _) ?_
    unfold t98x1
    simp only [tw_nm, tw_ite, tw_done]
    rw [if_neg (by simp; omega)]
    refine h _ ?_
    rw [List.drop_eq_nil_of_le (by omega)]
    simp
  | succ n ih =>
    intro i hn hi h
    have hlt : i < l.length := by omega
    have e : elemAt (l.map (AV.int .i64)) (i : Int) = some [.int .i64 l[i]] := by
      unfold elemAt
      rw [if_pos (by omega), Int.toNat_natCast]
      simp [hlt, AV.cells]
    refine Lay.wp_of h98 (fun call => e98x1 call _ _ _ _) ?_
    unfold t98x1
    simp only [e, tw_nm, tw_ite, tw_done, tw_opnS, openC_int, openC_nil, tw_jump]
    rw [if_pos (by simp; omega)]
    rw [List.drop_eq_getElem_cons hlt] at h
    by_cases c : s = l[i]
    · rw [if_pos (by simpa using c)]
      exact h _ ⟨fun _ => by rw [c]; exact List.mem_cons_self .., fun _ => by omega⟩
    · rw [if_neg (by simpa using c), wrap64 (by omega) (by omega)]
      exact ih (i + 1) (by omega) (by omega) fun r hr => h r (by rw [hr, List.mem_cons]; simp [c])
theorem within_wp {kinds : List Int} (hk : kinds.length ≤ 1000) {x : Re} (hn : x.nodes ≤ 1000000) (hs : ∀ K : Out → Prop, K (.ret (.str (showF x), .no), ⟨[], []⟩) → lay.Wp 47 0 x.av.cells K)
    (h : K (.ret (.str (wrapB kinds x.kind (showF x)), .no), ⟨[], []⟩)) : lay.Wp 71 0 (x.av.cells ++ [.sl (kinds.map (AV.int .i64))]) K := by
  have hm : maxStr = 281474976710656 := rfl
  have hl := show_len x
  obtain ⟨k, a, b, c, d, mn, mx, l, rfl⟩ := outR x
  rw [re_cells] at hs ⊢
  refine Lay.wp_of h71 (fun call => e71x0 call _ _ _ _ _ _ _ _ _) ?_
  unfold t71x0
  simp only [tw_need, tw_callT]
  have hlow : AV.lows 0 (kinds.map (AV.int .i64)) = true := by
    rw [lows_iff]; intro y hy; obtain ⟨t, _, rfl⟩ := List.mem_map.1 hy; rfl
  refine ⟨hlow, ?_⟩
  refine Lay.wp_of h88 (fun call => e88x0 call _ _) ?_
  unfold t88x0
  simp only [tw_need, tw_callT]
  refine ⟨hlow, ?_⟩
  refine Lay.wp_of h98 (fun call => e98x0 call _ _) ?_
  unfold t98x0
  simp only [tw_nm, tw_jump, List.length_map]
  refine indexI_loop kinds k hk _ 0 rfl (by omega) fun r hr => ?_
  rw [List.drop_zero] at hr
  simp only [s98x0, s88x0, tw_needR, tw_needT, true_and, tw_nm, tw_ite, tw_need, tw_done, tw_callT]
  unfold wrapB Re.kind at h
  by_cases c1 : k ∈ kinds
  · rw [if_pos (by simpa using hr.2 c1)]
    rw [if_pos c1] at h
    refine ⟨avs_low l, hs _ ?_⟩
    simp only [s47x0, tw_needR, tw_needT, true_and, tw_nm, tw_need, tw_done]
    exact ⟨by omega, by simp; omega, h⟩
  · rw [if_neg (by simp; exact Int.not_le.1 fun e => c1 (hr.1 e))]
    rw [if_neg c1] at h
    refine ⟨avs_low l, hs _ ?_⟩
    simp only [s47x0, tw_needR, tw_needT, true_and, tw_done]
    exact h
theorem strs_low (l : List (List UInt8)) : AV.lows 0 (l.map AV.str) = true := by
  rw [lows_iff]; intro y hy; obtain ⟨t, _, rfl⟩ := List.mem_map.1 hy; rfl
theorem strs_low1 (l : List (List UInt8)) (s : List UInt8) : AV.lows 0 (l.map AV.str ++ [.str s]) = true := by
  have := strs_low (l ++ [s])
  rwa [List.map_append, List.map_singleton] at this
theorem strs_sz (l : List (List UInt8)) : szOk (l.map AV.str) 1 = true := by
  cases l <;> rfl
def cellsH : List Re → List AV
  | [] => []
  | x :: _ => x.av.cells
mutual
theorem show_wp : ∀ (x : Re) {K : Out → Prop}, x.ok → x.nodes ≤ 1000000 → K (.ret (.str (showF x), .no), ⟨[], []⟩) → lay.Wp 47 0 x.av.cells K
  | .mk k a b c d mn mx l, K, ho, hn, h => by
    rw [re_cells]
    have hm : maxStr = 281474976710656 := rfl
    have hsl := show_len (.mk k a b c d mn mx l)
    obtain ⟨ha, hb, hc, hd, h6, hol⟩ := ho
    have hnl := nodesL_len l
    simp only [Re.nodes] at hn
    unfold showF at h hsl
    refine Lay.wp_of h47 (fun call => e47x0 call _ _ _ _ _ _ _ _) ?_
    unfold t47x0
    simp only [tw_nm, tw_ite, tw_needR, tw_needT, true_and, tw_need, tw_done, tw_callT, tw_jump]
    by_cases c1 : k = 1
    · rw [if_pos (by simpa using c1)]
      rw [if_pos c1] at h
      refine Lay.wp_of h69 (fun call => e69x0 call _ _ _ _) ?_
      unfold t69x0
      simp only [tw_callT]
      refine not_wp (a := 0) (b := 0) (c := 0) (d := 0) (by decide) (by decide) (by decide) (by decide) ?_
      simp only [s86x0, s69x0, tw_needR, tw_needT, true_and, tw_nm, tw_ite, tw_need, tw_done, tw_callT]
      refine ⟨rfl, ?_⟩
      by_cases c2 : a = 18446744073709551615 ∧ b = 18446744073709551615 ∧ c = 18446744073709551615 ∧ d = 18446744073709551615
      · rw [if_pos c2] at h
        obtain ⟨rfl, rfl, rfl, rfl⟩ := c2
        rw [if_pos (by decide)]
        exact h
      · rw [if_neg c2] at h
        rw [if_neg (by
          intro hh
          simp only [Bool.and_true, Bool.and_eq_true, beq_iff_eq] at hh
          exact c2 hh)]
        have ea : ((a.toNat : Nat) : Int) = a := by omega
        have eb : ((b.toNat : Nat) : Int) = b := by omega
        have ec : ((c.toNat : Nat) : Int) = c := by omega
        have ed : ((d.toNat : Nat) : Int) = d := by omega
        have hw := cls_wp (a := a.toNat) (b := b.toNat) (c := c.toNat) (d := d.toNat) (by omega) (by omega) (by omega) (by omega) (K := fun o => (outT o70x0 o (fun (s14 : List UInt8) =>
          .done ((.ret ((.str s14), .no)), ⟨[], ([] : List Nat)⟩))
           (.fail)).wp lay.ev 47 K)
        rw [ea, eb, ec, ed] at hw
        refine hw ?_
        simp only [s70x0, tw_needR, tw_needT, tw_done]
        exact h
    rw [if_neg (by simpa using c1)]
    rw [if_neg c1] at h hsl
    by_cases c2 : k = 2
    · rw [if_pos (by simpa using c2)]
      rw [if_pos c2] at h
      exact h
    rw [if_neg (by simpa using c2)]
    rw [if_neg c2] at h hsl
    by_cases c3 : k = 3
    · rw [if_pos (by simpa using c3)]
      rw [if_pos c3] at h
      exact h
    rw [if_neg (by simpa using c3)]
    rw [if_neg c3] at h hsl
    by_cases c6 : k = 6
    · rw [if_pos (by simpa using c6)]
      rw [if_pos c6] at h hsl
      obtain ⟨hne, hmn, hmx⟩ := h6 c6
      have hsh : ∀ K : Out → Prop, K (.ret (.str (showH l), .no), ⟨[], []⟩) → lay.Wp 47 0 (cellsH l) K := fun K' h' => showHead_wp l hol (by omega) hne h'
      cases l with
      | nil => exact (hne rfl).elim
      | cons y r =>
        have hny : y.nodes ≤ 1000000 := by simp only [Re.nodesL] at hn; omega
        have hly := show_len y
        have hsy := hsh
        have hwl := wrapB_len [4, 5, 0] y.kind (showF y)
        have hol := oftenF_len mn mx
        obtain ⟨k', a', b', c', d', mn', mx', l', rfl⟩ := outR y
        have hw := within_wp (kinds := [4, 5, 0]) (by decide) (x := .mk k' a' b' c' d' mn' mx' l') hny hsy (K := fun o => (outT o71x0 o (fun (s26 : List UInt8) =>
            .call 72 0 [(.int .i64 mn), (.int .i64 mx)] fun o =>
              outT o72x0 o (fun (s27 : List UInt8) =>
              .need (((List.length s26) + (List.length s27)) ≤ maxStr) <|
              .nm (s26 ++ s27) fun (s28 : List UInt8) =>
              .need True <|
              .need True <|
              .done ((.ret ((.str s28), .no)), ⟨[], ([] : List Nat)⟩))
               (.fail))
             (.fail)).wp lay.ev 47 K) (by
          simp only [s71x0, tw_needR, tw_needT, true_and, tw_callT]
          refine often_wp hmn hmx ?_
          simp only [s72x0, tw_needR, tw_needT, true_and, tw_nm, tw_need, tw_done]
          simp only [showH, kindH] at h
          exact ⟨by omega, h⟩)
        rw [re_cells] at hw
        refine ⟨_, rfl, ?_⟩
        simp only [openC_int, openC_sl, openC_nil, tw_need, tw_callT]
        exact ⟨avs_low l', rfl, hw⟩
    rw [if_neg (by simpa using c6)]
    rw [if_neg c6] at h hsl
    simp only [avs_len]
    refine showAll_wp l l 0 [] k rfl (by omega) hol (by omega) (k == 1) (k == 2) (k == 3) (k == 6) a b c d mn mx (Re.avs l) (by simp [Go.Lib.lens]; omega) ?_
    intro ts hts
    subst hts
    exact h
theorem showHead_wp : ∀ (l : List Re), Re.okL l → Re.nodesL l ≤ 1000000 → l ≠ [] → ∀ {K : Out → Prop}, K (.ret (.str (showH l), .no), ⟨[], []⟩) → lay.Wp 47 0 (cellsH l) K
  | [], ho, hn, hne, K, h => (hne rfl).elim
  | x :: r, ho, hn, hne, K, h => show_wp x ho.1 (by simp only [Re.nodesL] at hn; omega) h
theorem showAll_wp : ∀ (l L : List Re) (i : Nat) (acc : List (List UInt8)) (k : Int), l = L.drop i → L.length ≤ 1000000 → Re.okL l → Re.nodesL l ≤ 1000000 → ∀ (b1 b2 b3 b4 : Bool) (a b c d mn mx : Int) (l15 : List AV) {K : Out → Prop}, Go.Lib.lens acc + 90 * acc.length + 1000 * Re.nodesL l ≤ 4000000000 →
    (∀ ts, ts = acc ++ showL k l → K (.ret (.str (Go.Lib.join ts (if k = 5 then [124] else [])), .no), ⟨[], []⟩)) →
    lay.Wp 47 1 [.sl (acc.map AV.str), .bool b1, .bool b2, .bool b3, .bool b4, .sl (Re.avs L), .int .i64 (L.length : Nat), .int .i64 (i : Nat), .int .i64 k, .int .u64 a, .int .u64 b, .int .u64 c, .int .u64 d, .int .i64 mn, .int .i64 mx, .sl l15] K
  | [], L, i, acc, k, hi, hL, ho, hn, b1, b2, b3, b4, a, b, c, d, mn, mx, l15, K, hacc, h => by
    have hi : L.length ≤ i := List.drop_eq_nil_iff.1 hi.symm
    have h := h _ rfl
    rw [showL, List.append_nil] at h
    have hj := join_len acc (if k = 5 then [124] else [])
    have hs : (if k = 5 then [124] else [] : List UInt8).length ≤ 1 := by split <;> simp
    have hs2 : (if k = 5 then [124] else [] : List UInt8).length * acc.length ≤ 1 * acc.length := Nat.mul_le_mul_right _ hs
    refine Lay.wp_of h47 (fun call => e47x1 call _ _ _ _ _ _ _ _ _ _ _ _ _ _ _ _) ?_
    unfold t47x1
    simp only [tw_nm, tw_ite, tw_need, tw_done, toStrs_map, allStr_map, List.length_map, true_and, eq_self]
    rw [if_neg (by simp; omega)]
    by_cases c5 : k = 5
    · rw [if_pos (by simpa using c5)]
      rw [if_pos c5] at h hj hs2
      exact ⟨strs_low _, ⟨by omega, by omega⟩, h⟩
    · rw [if_neg (by simpa using c5)]
      rw [if_neg c5] at h hj hs2
      exact ⟨strs_low _, ⟨by omega, by omega⟩, h⟩
  | x :: l, L, i, acc, k, hi, hL, ho, hn, b1, b2, b3, b4, a, b, c, d, mn, mx, l15, K, hacc, h => by
    have hm : maxStr = 281474976710656 := rfl
    have hk : Ab.maxLen = 4294967296 := rfl
    have hlt : i < L.length := by
      rcases Nat.lt_or_ge i L.length with g | g
      · exact g
      · rw [List.drop_eq_nil_of_le g] at hi; cases hi
    have hd := List.drop_eq_getElem_cons hlt
    rw [← hi] at hd
    obtain ⟨hx, hl⟩ := List.cons.inj hd
    have e := elemAt_avs hlt
    rw [← hx] at e
    have w1 : IntKind.wrap .i64 (((i : Nat) : Int) + 1) = ((i + 1 : Nat) : Int) := by rw [wrap64 (by omega) (by omega)]; omega
    have hsl := show_len x
    have hwl := wrapB_len [5] x.kind (showF x)
    simp only [Re.nodesL] at hn hacc
    have next : ∀ s, s = (if k = 4 then wrapB [5] x.kind (showF x) else showF x) → lay.Wp 47 1 [.sl (acc.map AV.str ++ [.str s]), .bool b1, .bool b2, .bool b3, .bool b4, .sl (Re.avs L), .int .i64 (L.length : Nat), .int .i64 ((i + 1 : Nat) : Int), .int .i64 k, .int .u64 a, .int .u64 b, .int .u64 c, .int .u64 d, .int .i64 mn, .int .i64 mx, .sl l15] K := by
      intro s hs
      have := showAll_wp l L (i + 1) (acc ++ [s]) k hl hL ho.2 (by omega) b1 b2 b3 b4 a b c d mn mx l15 (K := K) (by
        have h4 : s.length ≤ (showF x).length + 2 := by rw [hs]; split <;> omega
        have h5 : Go.Lib.lens (acc ++ [s]) = Go.Lib.lens acc + s.length := by simp [Go.Lib.lens]
        rw [h5, List.length_append, List.length_singleton]
        omega) (by
        intro ts hts
        refine h ts ?_
        rw [hts, showL, hs, List.append_assoc, List.singleton_append])
      rwa [List.map_append, List.map_singleton] at this
    have hlen : acc.length ≤ 1000000000 := by omega
    have hsh : ∀ K : Out → Prop, K (.ret (.str (showF x), .no), ⟨[], []⟩) → lay.Wp 47 0 x.av.cells K := fun K' h' => show_wp x ho.1 (by omega) h'
    have hnx : x.nodes ≤ 1000000 := by omega
    obtain ⟨k', a', b', c', d', mn', mx', l', rfl⟩ := outR x
    rw [re_cells] at e hsh
    refine Lay.wp_of h47 (fun call => e47x1 call _ _ _ _ _ _ _ _ _ _ _ _ _ _ _ _) ?_
    unfold t47x1
    simp only [e, w1, tw_nm, tw_ite, tw_opnS, openC_int, openC_sl, openC_nil, tw_needR, tw_needT, true_and, tw_need, tw_done, tw_callT, tw_jump, List.length_map]
    rw [if_pos (by simp; omega)]
    refine ⟨avs_low l', ?_⟩
    by_cases c4 : k = 4
    · rw [if_pos (by simpa using c4)]
      rw [if_pos c4] at next
      have hw := fun K h => within_wp (kinds := [5]) (by decide) (x := .mk k' a' b' c' d' mn' mx' l') hnx (by rw [re_cells]; exact hsh) (K := K) h
      rw [re_cells] at hw
      refine ⟨avs_low l', rfl, hw _ ?_⟩
      simp only [s71x0, tw_needR, tw_needT, true_and, tw_nm, tw_need, tw_jump]
      exact ⟨strs_sz _, rfl, by omega, strs_low1 _ _, avs_low _, next _ rfl⟩
    · rw [if_neg (by simpa using c4)]
      rw [if_neg c4] at next
      refine ⟨avs_low l', hsh _ ?_⟩
      simp only [s47x0, tw_needR, tw_needT, true_and, tw_nm, tw_need, tw_jump]
      exact ⟨strs_sz _, rfl, by omega, strs_low1 _ _, avs_low _, next _ rfl⟩
end
end Go.Proofs.YtdiphholophdcaaDoor.T
end
section
open Go Go.Ab
/- A SET'S TEXT IS READ. -/
namespace Go.Proofs.YtdiphholophdcaaDoor.T
variable {K : Out → Prop}
/-! ### places in a text -/
def At (s : List UInt8) (p : Nat) (r : List UInt8) : Prop := s.drop p = r ∧ p ≤ s.length
theorem At.app {s a r : List UInt8} {p : Nat} (h : At s p (a ++ r)) : At s (p + a.length) r := by
  obtain ⟨h1, h2⟩ := h
  refine ⟨?_, ?_⟩
  · rw [← List.drop_drop, h1, List.drop_left]
  · have := congrArg List.length h1
    simp only [List.length_drop, List.length_append] at this
    omega
theorem At.next {s r : List UInt8} {p : Nat} {c : UInt8} (h : At s p (c :: r)) : At s (p + 1) r := At.app (a := [c]) h
theorem At.le {s r : List UInt8} {p : Nat} (h : At s p r) : p + r.length = s.length := by
  have := congrArg List.length h.1
  have := h.2
  simp only [List.length_drop] at *
  omega
theorem At.pre {s r : List UInt8} {p : Nat} (h : At s p r) : ∃ pre, s = pre ++ r ∧ p = pre.length := by
  refine ⟨s.take p, ?_, ?_⟩
  · rw [← h.1, List.take_append_drop]
  · rw [List.length_take, Nat.min_eq_left h.2]
theorem At.start (s : List UInt8) : At s 0 s := ⟨rfl, Nat.zero_le _⟩
theorem peekA {s r : List UInt8} {p : Nat} {c : UInt8} (ha : At s p (c :: r)) (h : K (.ret (.tup [.int .u8 ((c.toNat : Nat) : Int), .bool true], .agg [.no, .no]), rd s p)) : lay.Wp 91 0 [.str s, .int .i64 (p : Nat)] K := by
  obtain ⟨pre, rfl, rfl⟩ := ha.pre
  exact peek_at h
theorem peekE {s : List UInt8} {p : Nat} (ha : At s p []) (h : K (.ret (.tup [.int .u8 0, .bool false], .agg [.no, .no]), rd s p)) : lay.Wp 91 0 [.str s, .int .i64 (p : Nat)] K := by
  have := ha.le
  exact peek_end (by simpa using this) h
theorem goesN {s r : List UInt8} {p : Nat} {c : UInt8} {k : Int} (ha : At s p r) (hk : ((c.toNat : Nat) : Int) = k) (hr : r.head? ≠ some c) (h : K (.ret (.bool false, .no), rd s p)) : lay.Wp 76 0 [.int .u8 k, .str s, .int .i64 (p : Nat)] K := by
  obtain ⟨pre, rfl, rfl⟩ := ha.pre
  exact goes_no hk hr h
theorem goesY {s r : List UInt8} {p : Nat} {c : UInt8} {k : Int} (ha : At s p (c :: r)) (hs : s.length ≤ 100000) (hk : ((c.toNat : Nat) : Int) = k) (h : K (.ret (.bool true, .no), rd s (p + 1))) : lay.Wp 76 0 [.int .u8 k, .str s, .int .i64 (p : Nat)] K := by
  have := ha.le
  obtain ⟨pre, rfl, rfl⟩ := ha.pre
  exact goes_yes hk (by omega) h
theorem byteA {s r : List UInt8} {p : Nat} {c : UInt8} (ha : At s p (c :: r)) : byteAt s ((p : Nat) : Int) = some ((c.toNat : Nat) : Int) := by
  obtain ⟨pre, rfl, rfl⟩ := ha.pre
  exact byteAt_app pre c r
/-! ### whether a text comes -/
theorem comesA {s t r : List UInt8} {p : Nat} (ha : At s p r) (h : K (.ret (.bool (decide (t <+: r)), .no), rd s p)) : lay.Wp 121 0 [.str t, .str s, .int .i64 (p : Nat)] K := by
  have hl := ha.2
  have e : List.drop (Int.toNat ((p : Nat) : Int)) (List.take s.length s) = r := by rw [List.take_length, Int.toNat_natCast]; exact ha.1
  refine Lay.wp_of h121 (fun call => e121x0 call _ _ _) ?_
  unfold t121x0
  simp only [tw_need, tw_callT, e]
  refine ⟨⟨by omega, by omega⟩, hasPrefix_wp ?_⟩
  simp only [s55x0, tw_needR, tw_needT, true_and, tw_done]
  exact h
theorem pref_no {k : UInt8} {t r : List UInt8} (h : r.head? ≠ some k) : decide (k :: t <+: r) = false := by
  rw [decide_eq_false_iff_not]
  rintro ⟨q, rfl⟩
  exact h rfl
theorem comesN {s t r : List UInt8} {p : Nat} {k : UInt8} (ha : At s p r) (hr : r.head? ≠ some k) (h : K (.ret (.bool false, .no), rd s p)) : lay.Wp 121 0 [.str (k :: t), .str s, .int .i64 (p : Nat)] K := by
  refine comesA ha ?_
  rw [pref_no hr]; exact h
theorem comesY {s r : List UInt8} {p : Nat} {k : UInt8} (ha : At s p (k :: r)) (h : K (.ret (.bool true, .no), rd s p)) : lay.Wp 121 0 [.str [k], .str s, .int .i64 (p : Nat)] K := by
  refine comesA ha ?_
  have e : decide ([k] <+: k :: r) = true := decide_eq_true ⟨r, rfl⟩
  rw [e]; exact h
/-! ### a byte -/
theorem encC_head (n : Nat) : ∃ c q, encC n = c :: q ∧ (c = 92 ∨ c ∉ strokesL) := by
  unfold encC
  split
  · exact ⟨92, _, rfl, .inl rfl⟩
  · rename_i h; exact ⟨_, [], rfl, .inr h⟩
theorem encC_ne {n : Nat} {r : List UInt8} {k : UInt8} (h1 : k ≠ 92) (h2 : k ∈ strokesL) : (encC n ++ r).head? ≠ some k := by
  obtain ⟨c, q, e, hc⟩ := encC_head n
  rw [e]
  intro hh
  have : c = k := by simpa using hh
  subst this
  rcases hc with hc | hc
  · exact h1 hc
  · exact hc h2
theorem singleA {s r : List UInt8} {p n : Nat} (hs : s.length ≤ 1000000000000000000) (ha : At s p (encC n ++ r))
    (h : K (.ret (.tup [.int .u8 (((UInt8.ofNat n).toNat : Nat) : Int), .bool true], .agg [.no, .no]), rd s (p + (encC n).length))) : lay.Wp 132 0 [.str s, .int .i64 (p : Nat)] K := by
  have hle := ha.le
  unfold encC at ha h hle
  have w1 : IntKind.wrap .i64 (((p : Nat) : Int) + 1) = ((p + 1 : Nat) : Int) := by rw [wrap64 (by omega) (by omega)]; omega
  have w2 : IntKind.wrap .i64 (((p + 1 : Nat) : Int) + 1) = ((p + 2 : Nat) : Int) := by rw [wrap64 (by omega) (by omega)]; omega
  have w3 : IntKind.wrap .i64 (((p + 1 : Nat) : Int) - 1) = ((p : Nat) : Int) := by rw [wrap64 (by omega) (by omega)]; omega
  have w4 : IntKind.wrap .i64 (((p + 2 : Nat) : Int) - 1) = ((p + 1 : Nat) : Int) := by rw [wrap64 (by omega) (by omega)]; omega
  refine Lay.wp_of h132 (fun call => e132x0 call _ _) ?_
  unfold t132x0
  simp only [tw_callT]
  by_cases c1 : UInt8.ofNat n ∈ strokesL
  · rw [if_pos c1] at ha h hle
    have ha1 : At s (p + 1) (UInt8.ofNat n :: r) := At.next ha
    have n1 := neByte (k := 110) (c := UInt8.ofNat n) (d := 110) rfl (fun e => by rw [e] at c1; revert c1; decide)
    have n2 := neByte (k := 116) (c := UInt8.ofNat n) (d := 116) rfl (fun e => by rw [e] at c1; revert c1; decide)
    have hlen := ha1.le
    have z : (((p + 1 : Nat) : Int) == ((s.length : Nat) : Int)) = false := by
      rw [beq_eq_false_iff_ne]; simp only [List.length_cons] at hlen; omega
    refine comesY ha ?_
    simp only [s121x0, w1, w2, w4, z, n1, n2, byteA ha1, tw_needR, tw_needT, true_and, tw_nm, tw_iteT, tw_iteF, tw_bindS, tw_done]
    exact h
  · rw [if_neg c1] at ha h hle
    have hlen := ha.le
    have z : (((p : Nat) : Int) == ((s.length : Nat) : Int)) = false := by
      rw [beq_eq_false_iff_ne]; simp only [List.length_cons, List.length_append] at hlen; omega
    have hb : byteAt s ((p : Nat) : Int) = some (((UInt8.ofNat n).toNat : Nat) : Int) := byteA (r := r) ha
    refine comesN (k := 92) ha (fun hh => c1 ?_) ?_
    · have : UInt8.ofNat n = 92 := by simpa using hh
      rw [this]; decide
    simp only [s121x0, w1, w3, z, hb, tw_needR, tw_needT, true_and, tw_nm, tw_iteF, tw_bindS, tw_done]
    exact h
theorem itemA {s r : List UInt8} {p n : Nat} (hs : s.length ≤ 1000000000000000000) (hr : r.head? ≠ some 45) (ha : At s p (encC n ++ r))
    (h : K (.ret (.tup [.agg [.int .u64 (wd 0 (UInt8.ofNat n)), .int .u64 (wd 1 (UInt8.ofNat n)), .int .u64 (wd 2 (UInt8.ofNat n)), .int .u64 (wd 3 (UInt8.ofNat n))], .int .i64 0], .agg [.no, .no]), rd s (p + (encC n).length))) : lay.Wp 122 0 [.str s, .int .i64 (p : Nat)] K := by
  refine Lay.wp_of h122 (fun call => e122x0 call _ _) ?_
  unfold t122x0
  simp only [tw_callT]
  refine comesN (k := 91) ha (encC_ne (by decide) (by decide)) ?_
  simp only [s121x0, tw_needR, tw_needT, true_and, tw_nm, tw_iteF, tw_callT]
  refine singleA hs ha ?_
  simp only [s132x0, Bool.not_true, tw_needR, tw_needT, true_and, tw_nm, tw_iteF, tw_callT]
  refine comesN (k := 45) (At.app ha) hr ?_
  simp only [s121x0, tw_needR, tw_needT, true_and, tw_nm, tw_iteF, tw_callT]
  refine add133 ?_
  simp only [s133x0, tw_needR, tw_needT, true_and, tw_done]
  exact h
/-! ### sets put together -/
theorem union_wp {a b c d a2 b2 c2 d2 : Nat} (ha : a < 18446744073709551616) (hb : b < 18446744073709551616) (hc : c < 18446744073709551616) (hd : d < 18446744073709551616)
    (ha2 : a2 < 18446744073709551616) (hb2 : b2 < 18446744073709551616) (hc2 : c2 < 18446744073709551616) (hd2 : d2 < 18446744073709551616)
    (h : K (.ret (.agg [.int .u64 ((a ||| a2 : Nat) : Int), .int .u64 ((b ||| b2 : Nat) : Int), .int .u64 ((c ||| c2 : Nat) : Int), .int .u64 ((d ||| d2 : Nat) : Int)], .no), ⟨[], []⟩)) :
    lay.Wp 123 0 [.int .u64 (a : Nat), .int .u64 (b : Nat), .int .u64 (c : Nat), .int .u64 (d : Nat), .int .u64 (a2 : Nat), .int .u64 (b2 : Nat), .int .u64 (c2 : Nat), .int .u64 (d2 : Nat)] K := by
  refine Lay.wp_of h123 (fun call => e123x0 call _ _ _ _ _ _ _ _) ?_
  unfold t123x0
  simp only [tw_jump]
  have s0 : IntKind.wrap .i64 ((0 : Int) + 1) = 1 := rfl
  have s1 : IntKind.wrap .i64 ((1 : Int) + 1) = 2 := rfl
  have s2 : IntKind.wrap .i64 ((2 : Int) + 1) = 3 := rfl
  have s3 : IntKind.wrap .i64 ((3 : Int) + 1) = 4 := rfl
  refine Lay.wp_of h123 (fun call => e123x1 call _ _ _ _ _ _ _ _ _ _ _ _ _) ?_
  unfold t123x1
  simp only [s0, tw_nm, tw_ite, tw_need, tw_jump, tw_done]
  rw [if_pos (by decide)]
  refine ⟨⟨by decide, by decide⟩, _, rfl, ?_⟩
  simp only [openC_int, openC_nil, tw_nm, tw_need]
  refine ⟨⟨by decide, by decide⟩, _, rfl, ?_⟩
  simp only [openC_int, openC_nil, tw_nm, tw_need, orI_nat ha ha2]
  refine ⟨⟨by decide, by decide⟩, by decide, _, rfl, ?_⟩
  simp only [openC_int, openC_nil, tw_nm, tw_jump]
  refine Lay.wp_of h123 (fun call => e123x1 call _ _ _ _ _ _ _ _ _ _ _ _ _) ?_
  unfold t123x1
  simp only [s1, tw_nm, tw_ite, tw_need, tw_jump, tw_done]
  rw [if_pos (by decide)]
  refine ⟨⟨by decide, by decide⟩, _, rfl, ?_⟩
  simp only [openC_int, openC_nil, tw_nm, tw_need]
  refine ⟨⟨by decide, by decide⟩, _, rfl, ?_⟩
  simp only [openC_int, openC_nil, tw_nm, tw_need, orI_nat hb hb2]
  refine ⟨⟨by decide, by decide⟩, by decide, _, rfl, ?_⟩
  simp only [openC_int, openC_nil, tw_nm, tw_jump]
  refine Lay.wp_of h123 (fun call => e123x1 call _ _ _ _ _ _ _ _ _ _ _ _ _) ?_
  unfold t123x1
  simp only [s2, tw_nm, tw_ite, tw_need, tw_jump, tw_done]
  rw [if_pos (by decide)]
  refine ⟨⟨by decide, by decide⟩, _, rfl, ?_⟩
  simp only [openC_int, openC_nil, tw_nm, tw_need]
  refine ⟨⟨by decide, by decide⟩, _, rfl, ?_⟩
  simp only [openC_int, openC_nil, tw_nm, tw_need, orI_nat hc hc2]
  refine ⟨⟨by decide, by decide⟩, by decide, _, rfl, ?_⟩
  simp only [openC_int, openC_nil, tw_nm, tw_jump]
  refine Lay.wp_of h123 (fun call => e123x1 call _ _ _ _ _ _ _ _ _ _ _ _ _) ?_
  unfold t123x1
  simp only [s3, tw_nm, tw_ite, tw_need, tw_jump, tw_done]
  rw [if_pos (by decide)]
  refine ⟨⟨by decide, by decide⟩, _, rfl, ?_⟩
  simp only [openC_int, openC_nil, tw_nm, tw_need]
  refine ⟨⟨by decide, by decide⟩, _, rfl, ?_⟩
  simp only [openC_int, openC_nil, tw_nm, tw_need, orI_nat hd hd2]
  refine ⟨⟨by decide, by decide⟩, by decide, _, rfl, ?_⟩
  simp only [openC_int, openC_nil, tw_nm, tw_jump]
  refine Lay.wp_of h123 (fun call => e123x1 call _ _ _ _ _ _ _ _ _ _ _ _ _) ?_
  unfold t123x1
  simp only [tw_nm, tw_ite, tw_need, tw_jump, tw_done]
  rw [if_neg (by decide)]
  exact h
/-! ### the words of what was read -/
def w1 (j n : Nat) : Nat := if n / 64 = j then 2 ^ (n % 64) else 0
def accW (f : Nat → Bool) (j : Nat) : Nat → Nat
  | 0 => 0
  | i + 1 => if f i then accW f j i ||| w1 j i else accW f j i
theorem w1_lt (j n : Nat) : w1 j n < 18446744073709551616 := by
  unfold w1
  split
  · exact pow_lt64 n
  · decide
theorem accW_lt (f : Nat → Bool) (j : Nat) : ∀ i, accW f j i < 18446744073709551616
  | 0 => by simp [accW]
  | i + 1 => by
    unfold accW
    split
    · exact Nat.or_lt_two_pow (n := 64) (accW_lt f j i) (w1_lt j i)
    · exact accW_lt f j i
theorem wd_w1 {n : Nat} (hn : n < 256) (j : Nat) : wd j (UInt8.ofNat n) = ((w1 j n : Nat) : Int) := by
  have e : (UInt8.ofNat n).toNat = n := by simp; omega
  unfold wd w1
  rw [e]
  split <;> rfl
theorem w1_bit (j n t : Nat) (ht : t < 64) : (w1 j n).testBit t = decide (64 * j + t = n) := by
  unfold w1
  split
  · rename_i h
    rw [Nat.testBit_two_pow, decide_eq_decide]
    omega
  · rename_i h
    rw [Nat.zero_testBit, eq_comm, decide_eq_false_iff_not]
    omega
theorem accW_bit (f : Nat → Bool) (j t : Nat) (ht : t < 64) : ∀ i, (accW f j i).testBit t = (decide (64 * j + t < i) && f (64 * j + t))
  | 0 => by simp [accW]
  | i + 1 => by
    have ih := accW_bit f j t ht i
    unfold accW
    by_cases c : 64 * j + t = i
    · subst c
      split
      · rename_i h; rw [Nat.testBit_or, ih, w1_bit _ _ _ ht, h]; simp
      · rename_i h; rw [ih, Bool.eq_false_iff.2 h]; simp
    · have e : decide (64 * j + t < i + 1) = decide (64 * j + t < i) := by rw [decide_eq_decide]; omega
      rw [e]
      split
      · rw [Nat.testBit_or, ih, w1_bit _ _ _ ht, decide_eq_false c, Bool.or_false]
      · exact ih
theorem accW_word {f : Nat → Bool} {j w : Nat} (hj : j < 4) (hw : w < 18446744073709551616) (h : ∀ t, t < 64 → f (64 * j + t) = w.testBit t) : accW f j 256 = w := by
  apply Nat.eq_of_testBit_eq
  intro t
  by_cases ht : t < 64
  · rw [accW_bit f j t ht, decide_eq_true (by omega), Bool.true_and, h t ht]
  · have p : 18446744073709551616 ≤ 2 ^ t := by
      have : 2 ^ 64 ≤ 2 ^ t := Nat.pow_le_pow_right (by decide) (by omega)
      simpa using this
    rw [Nat.testBit_lt_two_pow (Nat.lt_of_lt_of_le (accW_lt f j 256) p), Nat.testBit_lt_two_pow (Nat.lt_of_lt_of_le hw p)]
theorem hasN_word (a b c d j t : Nat) (ht : t < 64) : hasN a b c d (64 * j + t) = (wordN a b c d j).testBit t := by
  unfold hasN
  have e1 : (64 * j + t) / 64 = j := by omega
  have e2 : (64 * j + t) % 64 = t := by omega
  rw [e1, e2]
theorem clsL_none {f : Nat → Bool} : ∀ m i, clsL f m i = [] → ∀ n, i ≤ n → n < i + m → f n = false
  | 0, i, _, n, h1, h2 => by omega
  | m + 1, i, h, n, h1, h2 => by
    unfold clsL at h
    obtain ⟨ha, hb⟩ := List.append_eq_nil_iff.1 h
    by_cases c : n = i
    · subst c
      cases hf : f n
      · rfl
      · rw [hf, if_pos rfl] at ha
        obtain ⟨c, q, e, _⟩ := encC_head n
        rw [e] at ha; cases ha
    · exact clsL_none m (i + 1) hb n (by omega) (by omega)
theorem clsL_ne {f : Nat → Bool} {r : List UInt8} {k : UInt8} (h1 : k ≠ 92) (h2 : k ∈ strokesL) (hr : r.head? ≠ some k) : ∀ m i, (clsL f m i ++ r).head? ≠ some k
  | 0, i => hr
  | m + 1, i => by
    unfold clsL
    cases hf : f i
    · simpa using clsL_ne h1 h2 hr m (i + 1)
    · rw [if_pos rfl, List.append_assoc]
      exact encC_ne h1 h2
/-! ### all of it -/
def setV (o : Bool) (x : Nat) : Nat := if o then 18446744073709551616 - 1 - x else x
abbrev accV (f : Nat → Bool) (i : Nat) : List AV := [.int .u64 (accW f 0 i : Nat), .int .u64 (accW f 1 i : Nat), .int .u64 (accW f 2 i : Nat), .int .u64 (accW f 3 i : Nat)]
theorem cls_read {s rest : List UInt8} {f : Nat → Bool} {b0 b2 b3 : Bool} {j4 j5 j6 j7 : Int} (hs : s.length ≤ 1000000000000000000) : ∀ (m i p : Nat) (first : Bool), i + m = 256 → (first = true → clsL f m i ≠ []) → At s p (clsL f m i ++ 93 :: rest) →
    K (.ret (.tup [.agg [.int .u64 (setV b0 (accW f 0 256) : Nat), .int .u64 (setV b0 (accW f 1 256) : Nat), .int .u64 (setV b0 (accW f 2 256) : Nat), .int .u64 (setV b0 (accW f 3 256) : Nat)], .int .i64 ((p + (clsL f m i).length + 1 : Nat) : Int), .int .i64 0], .agg [.no, .no, .no]), ⟨[], []⟩) →
    lay.Wp 110 1 ([.bool b0, .bool first, .bool b2, .bool b3, .int .u64 j4, .int .u64 j5, .int .u64 j6, .int .u64 j7, .str s, .int .i64 (p : Nat)] ++ accV f i) K := by
  intro m
  induction m with
  | zero =>
    intro i p first hi hf ha h
    have e : i = 256 := by omega
    subst e
    have hff : first = false := by
      cases first
      · rfl
      · exact (hf rfl rfl).elim
    subst hff
    have hle := ha.le
    have w : IntKind.wrap .i64 (((p : Nat) : Int) + 1) = ((p + 1 : Nat) : Int) := by rw [wrap64 (by omega) (by omega)]; omega
    simp only [clsL, List.nil_append] at ha h
    refine Lay.wp_of h110 (fun call => e110x1 call _ _ _ _ _ _ _ _ _ _ _ _ _ _) ?_
    unfold t110x1
    simp only [tw_iteF, tw_callT]
    refine comesY ha ?_
    simp only [s121x0, Bool.not_true, tw_needR, tw_needT, true_and, tw_nm, tw_iteF]
    cases b0
    · simp only [tw_iteF, w, tw_nm, tw_needR, tw_needT, true_and, tw_done]
      exact h
    · simp only [tw_iteT, tw_callT]
      refine not_wp (accW_lt _ _ _) (accW_lt _ _ _) (accW_lt _ _ _) (accW_lt _ _ _) ?_
      simp only [s86x0, w, tw_nm, tw_needR, tw_needT, true_and, tw_done]
      exact h
  | succ m ih =>
    intro i p first hi hf ha h
    cases hfi : f i
    · have e1 : clsL f (m + 1) i = clsL f m (i + 1) := by simp [clsL, hfi]
      have e2 (j : Nat) : accW f j (i + 1) = accW f j i := by simp [accW, hfi]
      rw [e1] at hf ha h
      have := ih (i + 1) p first (by omega) hf ha h
      simp only [accV, e2] at this
      exact this
    · have e1 : clsL f (m + 1) i = encC i ++ clsL f m (i + 1) := by simp [clsL, hfi]
      have e2 (j : Nat) : accW f j (i + 1) = accW f j i ||| w1 j i := by simp [accW, hfi]
      rw [e1, List.append_assoc] at ha
      rw [e1, List.length_append, ← Nat.add_assoc] at h
      have hn := ih (i + 1) (p + (encC i).length) false (by omega) (by intro hh; cases hh) ha.app h
      simp only [accV, e2] at hn
      have hr : (clsL f m (i + 1) ++ 93 :: rest).head? ≠ some 45 := clsL_ne (by decide) (by decide) (by simp) m (i + 1)
      have hitem := fun K' h' => itemA (K := K') hs hr ha h'
      simp only [wd_w1 (n := i) (by omega)] at hitem
      refine Lay.wp_of h110 (fun call => e110x1 call _ _ _ _ _ _ _ _ _ _ _ _ _ _) ?_
      unfold t110x1
      have z : ((0 : Int) != 0) = false := rfl
      cases first
      · simp only [tw_iteF, tw_callT]
        refine comesN (k := 93) ha (encC_ne (by decide) (by decide)) ?_
        simp only [s121x0, Bool.not_false, tw_needR, tw_needT, true_and, tw_nm, tw_iteT, tw_callT]
        refine hitem _ ?_
        simp only [s122x0, z, tw_needR, tw_needT, true_and, tw_nm, tw_iteF, tw_callT]
        refine union_wp (accW_lt _ _ _) (accW_lt _ _ _) (accW_lt _ _ _) (accW_lt _ _ _) (w1_lt _ _) (w1_lt _ _) (w1_lt _ _) (w1_lt _ _) ?_
        simp only [s123x0, tw_needR, tw_needT, true_and, tw_jump]
        exact hn
      · simp only [tw_iteT, tw_callT]
        refine hitem _ ?_
        simp only [s122x0, z, tw_needR, tw_needT, true_and, tw_nm, tw_iteF, tw_callT]
        refine union_wp (accW_lt _ _ _) (accW_lt _ _ _) (accW_lt _ _ _) (accW_lt _ _ _) (w1_lt _ _) (w1_lt _ _) (w1_lt _ _) (w1_lt _ _) ?_
        simp only [s123x0, tw_needR, tw_needT, true_and, tw_jump]
        exact hn
theorem clsP_wp {s rest : List UInt8} {p a b c d : Nat} (hs : s.length ≤ 1000000000000000000) (ha : a < 18446744073709551616) (hb : b < 18446744073709551616) (hc : c < 18446744073709551616) (hd : d < 18446744073709551616) (hA : At s p (clsText a b c d ++ rest))
    (h : K (.ret (.tup [.agg [.int .u64 (a : Nat), .int .u64 (b : Nat), .int .u64 (c : Nat), .int .u64 (d : Nat)], .int .i64 ((p + (clsText a b c d).length : Nat) : Int), .int .i64 0], .agg [.no, .no, .no]), ⟨[], []⟩)) :
    lay.Wp 110 0 [.str s, .int .i64 (p : Nat)] K := by
  have hle := hA.le
  unfold clsText at hA h hle
  have hw1 : IntKind.wrap .i64 (((p : Nat) : Int) + 1) = ((p + 1 : Nat) : Int) := by rw [wrap64 (by omega) (by omega)]; omega
  have hw2 : IntKind.wrap .i64 (((p + 1 : Nat) : Int) + 1) = ((p + 2 : Nat) : Int) := by rw [wrap64 (by omega) (by omega)]; omega
  have z1 : decide (((p : Nat) : Int) < 0) = false := by rw [decide_eq_false_iff_not]; omega
  have z3 : ((((91 : UInt8).toNat : Nat) : Int) != 91) = false := rfl
  refine Lay.wp_of h110 (fun call => e110x0 call _ _) ?_
  unfold t110x0
  by_cases c1 : a = 0 ∧ b = 0 ∧ c = 0 ∧ d = 0
  · obtain ⟨rfl, rfl, rfl, rfl⟩ := c1
    rw [if_pos ⟨rfl, rfl, rfl, rfl⟩] at hA h hle
    have hA1 : At s p (91 :: 94 :: (clsL (fun _ => true) 256 0 ++ 93 :: rest)) := by simpa using hA
    have z2 : decide (((p : Nat) : Int) ≥ ((s.length : Nat) : Int)) = false := by
      have := hA1.le
      rw [decide_eq_false_iff_not]; simp only [List.length_cons] at this; omega
    simp only [z1, z2, z3, hw1, byteA hA1, tw_nm, tw_iteF, tw_bindS, tw_callT]
    refine comesY hA1.next ?_
    simp only [s121x0, hw2, tw_needR, tw_needT, true_and, tw_nm, tw_iteT, tw_jump]
    have key : ∀ j, j < 4 → accW (fun _ => true) j 256 = 18446744073709551616 - 1 := by
      intro j hj
      refine accW_word hj (by decide) fun t ht => ?_
      have : ∀ t, t < 64 → (18446744073709551616 - 1 : Nat).testBit t = true := by decide +kernel
      rw [this t ht]
    refine cls_read (f := fun _ => true) (rest := rest) hs 256 0 (p + 2) true rfl (fun _ hh => ?_) hA1.next.next ?_
    · have := clsL_none 256 0 hh 0 (by decide) (by decide)
      cases this
    · rw [key 0 (by decide), key 1 (by decide), key 2 (by decide), key 3 (by decide)]
      have e : p + ([91, 94] ++ clsL (fun _ => true) 256 0 ++ [93]).length = p + 2 + (clsL (fun _ => true) 256 0).length + 1 := by
        simp only [List.length_append, List.length_cons, List.length_nil]; omega
      rw [e] at h
      exact h
  · rw [if_neg c1] at hA h hle
    have hA1 : At s p (91 :: (clsL (hasN a b c d) 256 0 ++ 93 :: rest)) := by simpa using hA
    have z2 : decide (((p : Nat) : Int) ≥ ((s.length : Nat) : Int)) = false := by
      have := hA1.le
      rw [decide_eq_false_iff_not]; simp only [List.length_cons] at this; omega
    have word (j : Nat) (hj : j < 4) : accW (hasN a b c d) j 256 = wordN a b c d j := by
      refine accW_word hj ?_ fun t ht => hasN_word a b c d j t ht
      unfold wordN
      split
      · exact ha
      split
      · exact hb
      split
      · exact hc
      · exact hd
    simp only [z1, z2, z3, hw1, byteA hA1, tw_nm, tw_iteF, tw_bindS, tw_callT]
    refine comesN (k := 94) hA1.next (clsL_ne (by decide) (by decide) (by simp) _ _) ?_
    simp only [s121x0, tw_needR, tw_needT, true_and, tw_nm, tw_iteF, tw_jump]
    refine cls_read (f := hasN a b c d) (rest := rest) hs 256 0 (p + 1) true rfl (fun _ hh => c1 ?_) hA1.next ?_
    · have hz := clsL_none 256 0 hh
      have zero (j : Nat) (hj : j < 4) : wordN a b c d j = 0 := by
        rw [← word j hj]
        refine accW_word hj (by decide) fun t ht => ?_
        rw [hz _ (by omega) (by omega), Nat.zero_testBit]
      exact ⟨zero 0 (by decide), zero 1 (by decide), zero 2 (by decide), zero 3 (by decide)⟩
    · rw [word 0 (by decide), word 1 (by decide), word 2 (by decide), word 3 (by decide)]
      have e : p + ([91] ++ clsL (hasN a b c d) 256 0 ++ [93]).length = p + 1 + (clsL (hasN a b c d) 256 0).length + 1 := by
        simp only [List.length_append, List.length_cons, List.length_nil]; omega
      rw [e] at h
      exact h
end Go.Proofs.YtdiphholophdcaaDoor.T
end
section
open Go Go.Ab
/- NUMBERS, AND HOW OFTEN, ARE READ. -/
namespace Go.Proofs.YtdiphholophdcaaDoor.T
variable {K : Out → Prop}
theorem digit113 {s r : List UInt8} {p acc many dig : Nat} (hs : s.length ≤ 100000) (hd : dig < 10) (hm : many < 2) (hacc : acc ≤ 100) (ha : At s p (UInt8.ofNat (48 + dig) :: r))
    (h : lay.Wp 113 1 [.int .i64 ((10 * acc + dig : Nat) : Int), .int .i64 ((many + 1 : Nat) : Int), .str s, .int .i64 ((p + 1 : Nat) : Int)] K) :
    lay.Wp 113 1 [.int .i64 (acc : Nat), .int .i64 (many : Nat), .str s, .int .i64 (p : Nat)] K := by
  have hle := ha.le
  have eb : (UInt8.ofNat (48 + dig)).toNat = 48 + dig := by simp; omega
  have v0 : decide (((many : Nat) : Int) < 2) = true := by rw [decide_eq_true_eq]; omega
  have v1 : decide ((((UInt8.ofNat (48 + dig)).toNat : Nat) : Int) < 48) = false := by rw [eb, decide_eq_false_iff_not]; omega
  have v2 : decide ((((UInt8.ofNat (48 + dig)).toNat : Nat) : Int) > 57) = false := by rw [eb, decide_eq_false_iff_not]; omega
  have q1 : IntKind.wrap .i64 ((10 : Int) * ((acc : Nat) : Int)) = ((10 * acc : Nat) : Int) := by rw [wrap64 (by omega) (by omega)]; omega
  have q2 : IntKind.wrap .u8 ((((UInt8.ofNat (48 + dig)).toNat : Nat) : Int) - 48) = ((dig : Nat) : Int) := by rw [eb, IntKind.wrap_u8]; omega
  have q3 : IntKind.wrap .i64 ((dig : Nat) : Int) = ((dig : Nat) : Int) := wrap64 (by omega) (by omega)
  have q4 : IntKind.wrap .i64 (((10 * acc : Nat) : Int) + ((dig : Nat) : Int)) = ((10 * acc + dig : Nat) : Int) := by rw [wrap64 (by omega) (by omega)]; omega
  have q5 : IntKind.wrap .i64 (((p : Nat) : Int) + 1) = ((p + 1 : Nat) : Int) := by rw [wrap64 (by omega) (by omega)]; omega
  have q6 : IntKind.wrap .i64 (((many : Nat) : Int) + 1) = ((many + 1 : Nat) : Int) := by rw [wrap64 (by omega) (by omega)]; omega
  refine Lay.wp_of h113 (fun call => e113x1 call _ _ _ _) ?_
  unfold t113x1
  simp only [v0, tw_nm, tw_iteT, tw_callT]
  refine peekA ha ?_
  simp only [s91x0, Bool.not_true, v1, v2, q1, q2, q3, q4, q5, q6, tw_needR, tw_needT, true_and, tw_nm, tw_iteF, tw_jump]
  exact h
theorem stop113 {s r : List UInt8} {p acc many : Nat} {c : UInt8} (h0 : 0 < many) (hacc : acc ≤ 50) (hc : c = 44 ∨ c = 125) (ha : At s p (c :: r))
    (h : K (.ret (.tup [.int .i64 (acc : Nat), .bool true], .agg [.no, .no]), rd s p)) :
    lay.Wp 113 1 [.int .i64 (acc : Nat), .int .i64 (many : Nat), .str s, .int .i64 (p : Nat)] K := by
  have v3 : decide (((many : Nat) : Int) > 0) = true := by rw [decide_eq_true_eq]; omega
  have v4 : decide (((acc : Nat) : Int) ≤ 50) = true := by rw [decide_eq_true_eq]; omega
  refine Lay.wp_of h113 (fun call => e113x1 call _ _ _ _) ?_
  unfold t113x1
  simp only [tw_nm, tw_ite, tw_callT]
  by_cases hm : many < 2
  · rw [if_pos (by rw [decide_eq_true_eq]; omega)]
    refine peekA ha ?_
    rcases hc with rfl | rfl
    · have v1 : decide ((((44 : UInt8).toNat : Nat) : Int) < 48) = true := rfl
      simp only [s91x0, Bool.not_true, v1, v3, v4, tw_needR, tw_needT, true_and, tw_nm, tw_iteF, tw_iteT, tw_done]
      exact h
    · have v1 : decide ((((125 : UInt8).toNat : Nat) : Int) < 48) = false := rfl
      have v2 : decide ((((125 : UInt8).toNat : Nat) : Int) > 57) = true := rfl
      simp only [s91x0, Bool.not_true, v1, v2, v3, v4, tw_needR, tw_needT, true_and, tw_nm, tw_iteF, tw_iteT, tw_done]
      exact h
  · rw [if_neg (by rw [decide_eq_true_eq]; omega), if_pos v3, v4]
    exact h
theorem numA {s r : List UInt8} {p : Nat} {c : UInt8} {n : Int} (hs : s.length ≤ 100000) (h0 : 0 ≤ n) (h1 : n ≤ 50) (hc : c = 44 ∨ c = 125) (ha : At s p (itoaF n ++ c :: r))
    (h : K (.ret (.tup [.int .i64 n, .bool true], .agg [.no, .no]), rd s (p + (itoaF n).length))) : lay.Wp 113 0 [.str s, .int .i64 (p : Nat)] K := by
  refine Lay.wp_of h113 (fun call => e113x0 call _ _) ?_
  unfold t113x0
  simp only [tw_jump]
  unfold itoaF at ha h
  obtain ⟨m, rfl⟩ : ∃ m : Nat, n = (m : Nat) := ⟨n.toNat, by omega⟩
  rw [Int.toNat_natCast] at ha h
  by_cases c1 : ((m : Nat) : Int) < 10
  · rw [if_pos c1] at ha h
    refine digit113 (acc := 0) (many := 0) hs (by omega : m < 10) (by decide) (by decide) ha ?_
    have e : 10 * 0 + m = m := by omega
    rw [e]
    exact stop113 (by decide) (by omega) hc (At.app ha) h
  · rw [if_neg c1] at ha h
    refine digit113 (acc := 0) (many := 0) hs (by omega : m / 10 < 10) (by decide) (by decide) ha ?_
    refine digit113 (acc := 10 * 0 + m / 10) (many := 0 + 1) hs (by omega : m % 10 < 10) (by decide) (by omega) (At.next ha) ?_
    have e : 10 * (10 * 0 + m / 10) + m % 10 = m := by omega
    rw [e]
    exact stop113 (by decide) (by omega) hc (At.app ha) h
theorem itoaF_head (n : Int) (h0 : 0 ≤ n) (h1 : n ≤ 50) (k : UInt8) (hk : k.toNat < 48 ∨ 57 < k.toNat) (r : List UInt8) : (itoaF n ++ r).head? ≠ some k := by
  have key (m : Nat) (hm : m < 10) (q : List UInt8) : (UInt8.ofNat (48 + m) :: q).head? ≠ some k := by
    intro e
    have e : UInt8.ofNat (48 + m) = k := by simpa using e
    have : (UInt8.ofNat (48 + m)).toNat = 48 + m := by simp; omega
    rw [e] at this
    omega
  unfold itoaF
  split
  · exact key _ (by omega) _
  · exact key _ (by omega) _
/-! ### how often -/
def timesF (mn mx : Int) : List UInt8 := if mx = -1 then itoaF mn ++ [44, 125] else if mn = mx then itoaF mn ++ [125] else itoaF mn ++ [44] ++ itoaF mx ++ [125]
theorem timesA {s r : List UInt8} {p : Nat} {mn mx at0 : Int} (hs : s.length ≤ 100000) (h0 : 0 ≤ mn) (h1 : mn ≤ 50) (h2 : mx = -1 ∨ mn ≤ mx ∧ mx ≤ 50) (ha : At s p (timesF mn mx ++ r))
    (h : K (.ret (.tup [.int .i64 mn, .int .i64 mx], .agg [.no, .no]), rd s (p + (timesF mn mx).length))) : lay.Wp 102 0 [.int .i64 at0, .str s, .int .i64 (p : Nat)] K := by
  unfold timesF at ha h
  have zz : decide (mn < mn) = false := by rw [decide_eq_false_iff_not]; omega
  refine Lay.wp_of h102 (fun call => e102x0 call _ _ _) ?_
  unfold t102x0
  simp only [tw_callT]
  by_cases c1 : mx = -1
  · rw [if_pos c1] at ha h
    have ha0 : At s p (itoaF mn ++ 44 :: (125 :: r)) := by simpa using ha
    refine numA hs h0 h1 (.inl rfl) ha0 ?_
    simp only [s113x0, tw_needR, tw_needT, true_and, tw_nm, tw_iteT, tw_callT]
    refine goesY ha0.app hs rfl ?_
    simp only [s76x0, tw_needR, tw_needT, true_and, tw_nm, tw_iteT, tw_callT]
    refine goesY ha0.app.next hs rfl ?_
    simp only [s76x0, tw_needR, tw_needT, true_and, tw_nm, tw_iteT, tw_done]
    have e : p + (itoaF mn ++ [44, 125]).length = p + (itoaF mn).length + 1 + 1 := by simp only [List.length_append, List.length_cons, List.length_nil]; omega
    rw [c1, e] at h
    exact h
  rw [if_neg c1] at ha h
  by_cases c2 : mn = mx
  · rw [if_pos c2] at ha h
    have ha0 : At s p (itoaF mn ++ 125 :: r) := by simpa using ha
    refine numA hs h0 h1 (.inr rfl) ha0 ?_
    simp only [s113x0, tw_needR, tw_needT, true_and, tw_nm, tw_iteT, tw_callT]
    refine goesN (c := 44) ha0.app rfl (by simp) ?_
    simp only [s76x0, zz, Bool.not_true, tw_needR, tw_needT, true_and, tw_nm, tw_iteF, tw_callT]
    refine goesY ha0.app hs rfl ?_
    simp only [s76x0, Bool.not_true, tw_needR, tw_needT, true_and, tw_nm, tw_iteF, tw_done]
    have e : p + (itoaF mn ++ [125]).length = p + (itoaF mn).length + 1 := by simp only [List.length_append, List.length_cons, List.length_nil]; omega
    rw [← c2, e] at h
    exact h
  · rw [if_neg c2] at ha h
    have h3 : mn ≤ mx ∧ mx ≤ 50 := h2.resolve_left c1
    have ha0 : At s p (itoaF mn ++ 44 :: (itoaF mx ++ 125 :: r)) := by simpa using ha
    have z2 : decide (mx < mn) = false := by rw [decide_eq_false_iff_not]; omega
    refine numA hs h0 h1 (.inl rfl) ha0 ?_
    simp only [s113x0, tw_needR, tw_needT, true_and, tw_nm, tw_iteT, tw_callT]
    refine goesY ha0.app hs rfl ?_
    simp only [s76x0, tw_needR, tw_needT, true_and, tw_nm, tw_iteT, tw_callT]
    refine goesN (c := 125) ha0.app.next rfl (itoaF_head mx (by omega) h3.2 125 (by decide) _) ?_
    simp only [s76x0, tw_needR, tw_needT, true_and, tw_nm, tw_iteF, tw_callT]
    refine numA hs (by omega) h3.2 (.inr rfl) ha0.app.next ?_
    simp only [s113x0, z2, Bool.not_true, tw_needR, tw_needT, true_and, tw_nm, tw_iteF, tw_callT]
    refine goesY ha0.app.next.app hs rfl ?_
    simp only [s76x0, Bool.not_true, tw_needR, tw_needT, true_and, tw_nm, tw_iteF, tw_done]
    have e : p + (itoaF mn ++ [44] ++ itoaF mx ++ [125]).length = p + (itoaF mn).length + 1 + (itoaF mx).length + 1 := by simp only [List.length_append, List.length_cons, List.length_nil]; omega
    rw [e] at h
    exact h
abbrev jz : List AV := jnk 0 0 0 0 0 0 0 []
theorem repA {s r : List UInt8} {p : Nat} {mn mx k a b c d mn2 mx2 : Int} {l : List Re} (hs : s.length ≤ 100000) (h0 : 0 ≤ mn) (h1 : mn ≤ 50) (h2 : mx = -1 ∨ mn ≤ mx ∧ mx ≤ 50) (ha : At s p (oftenF mn mx ++ r))
    (h : lay.Wp 92 1 ([.str s, .int .i64 ((p + (oftenF mn mx).length : Nat) : Int)] ++ jz ++ (Re.mk 6 0 0 0 0 mn mx [.mk k a b c d mn2 mx2 l]).av.cells) K) :
    lay.Wp 92 1 ([.str s, .int .i64 (p : Nat)] ++ jz ++ (Re.mk k a b c d mn2 mx2 l).av.cells) K := by
  have hlow : AV.lows 0 [AV.agg [.int .i64 k, .int .u64 a, .int .u64 b, .int .u64 c, .int .u64 d, .int .i64 mn2, .int .i64 mx2, .sl (Re.avs l)]] = true := avs_low [.mk k a b c d mn2 mx2 l]
  unfold oftenF at ha h
  refine Lay.wp_of h92 (fun call => e92x1 call _ _ _ _ _ _ _ _ _ _ _ _ _ _ _ _ _ _) ?_
  unfold t92x1
  simp only [tw_callT]
  by_cases c1 : mn = 0 ∧ mx = -1
  · rw [if_pos c1] at ha h
    obtain ⟨rfl, rfl⟩ := c1
    refine goesY (c := 42) ha hs rfl ?_
    simp only [s76x0, hlow, tw_needR, tw_needT, true_and, tw_iteT, tw_jump]
    exact h
  rw [if_neg c1] at ha h
  by_cases c2 : mn = 1 ∧ mx = -1
  · rw [if_pos c2] at ha h
    obtain ⟨rfl, rfl⟩ := c2
    refine goesN (c := 42) ha rfl (by simp) ?_
    simp only [s76x0, tw_needR, tw_needT, true_and, tw_iteF, tw_callT]
    refine goesY (c := 43) ha hs rfl ?_
    simp only [s76x0, hlow, tw_needR, tw_needT, true_and, tw_iteT, tw_jump]
    exact h
  rw [if_neg c2] at ha h
  by_cases c3 : mn = 0 ∧ mx = 1
  · rw [if_pos c3] at ha h
    obtain ⟨rfl, rfl⟩ := c3
    refine goesN (c := 42) ha rfl (by simp) ?_
    simp only [s76x0, tw_needR, tw_needT, true_and, tw_iteF, tw_callT]
    refine goesN (c := 43) ha rfl (by simp) ?_
    simp only [s76x0, tw_needR, tw_needT, true_and, tw_iteF, tw_callT]
    refine goesY (c := 63) ha hs rfl ?_
    simp only [s76x0, hlow, tw_needR, tw_needT, true_and, tw_iteT, tw_jump]
    exact h
  rw [if_neg c3] at ha h
  have e : (if mx = -1 then 123 :: itoaF mn ++ [44, 125] else if mn = mx then 123 :: itoaF mn ++ [125] else 123 :: itoaF mn ++ [44] ++ itoaF mx ++ [125]) = 123 :: timesF mn mx := by
    unfold timesF
    split
    · rfl
    split <;> simp
  rw [e] at ha h
  refine goesN (c := 42) ha rfl (by simp) ?_
  simp only [s76x0, tw_needR, tw_needT, true_and, tw_iteF, tw_callT]
  refine goesN (c := 43) ha rfl (by simp) ?_
  simp only [s76x0, tw_needR, tw_needT, true_and, tw_iteF, tw_callT]
  refine goesN (c := 63) ha rfl (by simp) ?_
  simp only [s76x0, tw_needR, tw_needT, true_and, tw_iteF, tw_callT]
  refine goesY (c := 123) ha hs rfl ?_
  simp only [s76x0, tw_needR, tw_needT, true_and, tw_iteT, tw_callT]
  refine timesA hs h0 h1 h2 (At.next ha) ?_
  simp only [s102x0, hlow, tw_needR, tw_needT, true_and, tw_nm, tw_jump]
  have e2 : p + (123 :: timesF mn mx).length = p + 1 + (timesF mn mx).length := by simp only [List.length_cons]; omega
  rw [e2] at h
  exact h
end Go.Proofs.YtdiphholophdcaaDoor.T
end
section
open Go Go.Ab
/- THE LAW's PART OF ErePlain. -/
namespace Go.Proofs.YtdiphholophdcaaDoor.T
variable {K : Out → Prop}
/-- how a byte is written in a pattern -/
def encP (b : UInt8) : List UInt8 := if b ∈ specialL then [92, b] else [b]
/-! ### it is read -/
theorem piece_plain {pre r : List UInt8} {b : UInt8} {d : Int} (hl : pre.length ≤ 90000) (hr : NoRep r) (h : K (.ret ((oneR b).av, .no), rd (pre ++ encP b ++ r) (pre ++ encP b).length)) :
    lay.Wp 92 0 [.int .i64 d, .str (pre ++ encP b ++ r), .int .i64 (pre.length : Nat)] K := by
  refine Lay.wp_of h92 (fun call => e92x0 call _ _ _) ?_
  unfold t92x0
  simp only [tw_callT]
  have go (p : Nat) (s : List UInt8) (hs : s = pre ++ encP b ++ r) (hp : p = (pre ++ encP b).length) : (outT o101x0 (.ret ((oneR b).av, .no), rd s p) (fun (i7 : Int) (i8 : Int) (i9 : Int) (i10 : Int) (i11 : Int) (i12 : Int) (i13 : Int) (l14 : List AV) (s15 : List UInt8) (i16 : Int) =>
    .need ((AV.lows 0 l14) = Bool.true) <|
    .need ((AV.lows 0 l14) = Bool.true) <|
    .jump 1 [(.str s15), (.int .i64 i16), (.int .i64 (0 : Int)), (.int .u64 (0 : Int)), (.int .u64 (0 : Int)), (.int .u64 (0 : Int)), (.int .u64 (0 : Int)), (.int .i64 (0 : Int)), (.int .i64 (0 : Int)), (.sl []), (.int .i64 i7), (.int .u64 i8), (.int .u64 i9), (.int .u64 i10), (.int .u64 i11), (.int .i64 i12), (.int .i64 i13), (.sl l14)])
     (outT o101x1 (.ret ((oneR b).av, .no), rd s p) (fun (i3 : Int) (i4 : Int) (s5 : List UInt8) (i6 : Int) =>
    .done ((.panic (.iface 71 (.agg [(.int .i64 i3), (.int .i64 i4)]))), ⟨[[((.str s5), .no), ((.int .i64 i6), .no)]], ([] : List Nat)⟩))
     (.fail))).wp lay.ev 92 K := by
    subst hs hp
    unfold oneR
    simp only [Re.av, s101x0, tw_needR, tw_needT, true_and, tw_need, tw_jump]
    refine ⟨rfl, rfl, ?_⟩
    exact piece_end (pre := pre ++ encP b) (r := r) (k := 1) (l := []) hr h
  by_cases c1 : b ∈ specialL
  · have e : encP b = [92, b] := if_pos c1
    have hb1 : b ≠ 110 := fun e => by subst e; revert c1; decide
    have hb2 : b ≠ 116 := fun e => by subst e; revert c1; decide
    have hs : pre ++ encP b ++ r = pre ++ 92 :: b :: r := by rw [e]; simp
    have hgo := go (pre.length + 2) (pre ++ 92 :: b :: r) hs.symm (by rw [e]; simp)
    rw [hs]
    exact atom_esc (by omega) hb1 hb2 hgo
  · have e : encP b = [b] := if_neg c1
    have hs : pre ++ encP b ++ r = pre ++ b :: r := by rw [e]; simp
    have hgo := go (pre.length + 1) (pre ++ b :: r) hs.symm (by rw [e]; simp)
    rw [hs]
    exact atom_plain (by omega) c1 hgo
/-! ### how few bytes -/
mutual
def leastF : Re → Int
  | .mk k _ _ _ _ mn _ l =>
    if k = 1 then 1
    else if k = 6 then IntKind.wrap .i64 (mn * leastH l)
    else if k = 4 then leastS 0 l
    else if k = 5 then leastM (leastH l) l
    else 0
def leastH : List Re → Int
  | [] => 0
  | x :: _ => leastF x
def leastS (acc : Int) : List Re → Int
  | [] => acc
  | x :: r => leastS (IntKind.wrap .i64 (acc + leastF x)) r
def leastM (acc : Int) : List Re → Int
  | [] => acc
  | x :: r => leastM (if leastF x < acc then leastF x else acc) r
end
/-! ### parts are there where they are looked at -/
mutual
def Re.has : Re → Prop
  | .mk k _ _ _ _ _ _ l => (k = 6 ∨ k = 5 → l ≠ []) ∧ Re.hasL l
def Re.hasL : List Re → Prop
  | [] => True
  | x :: r => x.has ∧ Re.hasL r
end
mutual
theorem least_wp : ∀ (x : Re) {K : Out → Prop}, x.fits → x.has → K (.ret (.int .i64 (leastF x), .no), ⟨[], []⟩) → lay.Wp 48 0 x.av.cells K
  | .mk k a b c d mn mx l, K, hf, hh, h => by
    rw [re_cells]
    obtain ⟨hl, hfl⟩ := hf
    obtain ⟨hne, hhl⟩ := hh
    unfold leastF at h
    have headE (hl0 : l ≠ []) : ∃ x r, l = x :: r := by
      cases l with
      | nil => exact (hl0 rfl).elim
      | cons x r => exact ⟨x, r, rfl⟩
    refine Lay.wp_of h48 (fun call => e48x0 call _ _ _ _ _ _ _ _) ?_
    unfold t48x0
    simp only [tw_nm, tw_ite, tw_need, tw_done, tw_callT, tw_jump, avs_len]
    by_cases c1 : k = 1
    · rw [if_pos (by simpa using c1)]
      rw [if_pos c1] at h
      exact h
    rw [if_neg (by simpa using c1)]
    rw [if_neg c1] at h
    by_cases c2 : k = 6
    · rw [if_pos (by simpa using c2)]
      rw [if_pos c2] at h
      have hw := leastHead_wp l (K := fun o => (outT o48x0 o (fun (i18 : Int) =>
        .nm (Go.IntKind.wrap .i64 (mn * i18)) fun (r19 : Int) =>
        .need True <|
        .done ((.ret ((.int .i64 r19), .no)), ⟨[], ([] : List Nat)⟩))
         (.fail)).wp lay.ev 48 K) hfl hhl (hne (.inl c2)) (by
          simp only [s48x0, tw_needR, tw_needT, true_and, tw_need, tw_nm, tw_done]
          exact h)
      obtain ⟨k', a', b', c', d', mn', mx', l', e, hw⟩ := hw
      refine ⟨_, e, ?_⟩
      simp only [openC_int, openC_sl, openC_nil, tw_need, tw_callT]
      exact ⟨avs_low l', hw⟩
    rw [if_neg (by simpa using c2)]
    rw [if_neg c2] at h
    by_cases c3 : k = 4
    · rw [if_pos (by simpa using c3)]
      rw [if_pos c3] at h
      exact leastS_wp l l 0 0 rfl hl hfl hhl h
    rw [if_neg (by simpa using c3)]
    rw [if_neg c3] at h
    by_cases c4 : k = 5
    · rw [if_pos (by simpa using c4)]
      rw [if_pos c4] at h
      have hw := leastHead_wp l (K := fun o => (outT o48x0 o (fun (i31 : Int) =>
            .nm (((List.length (Re.avs l)) : Nat) : Int) fun (r32 : Int) =>
            .jump 2 [(.int .i64 i31), (.bool (k == 1)), (.bool (k == 6)), (.bool (k == 4)), (.bool (k == 5)), (.sl (Re.avs l)), (.int .i64 r32), (.int .i64 (0 : Int)), (.int .i64 k), (.int .u64 a), (.int .u64 b), (.int .u64 c), (.int .u64 d), (.int .i64 mn), (.int .i64 mx), (.sl (Re.avs l))])
             (.fail)).wp lay.ev 48 K) hfl hhl (hne (.inr c4)) (by
          simp only [s48x0, tw_needR, tw_needT, true_and, tw_need, tw_nm, tw_jump, avs_len]
          exact leastM_wp l l 0 (leastH l) rfl hl hfl hhl h)
      obtain ⟨k', a', b', c', d', mn', mx', l', e, hw⟩ := hw
      refine ⟨_, e, ?_⟩
      simp only [openC_int, openC_sl, openC_nil, tw_need, tw_callT]
      refine ⟨avs_low l', ?_⟩
      simpa only [avs_len] using hw
    · rw [if_neg (by simpa using c4)]
      rw [if_neg c4] at h
      exact h
theorem leastHead_wp : ∀ (l : List Re) {K : Out → Prop}, Re.fitsL l → Re.hasL l → l ≠ [] → K (.ret (.int .i64 (leastH l), .no), ⟨[], []⟩) → ∃ k a b c d mn mx l', elemAt (Re.avs l) 0 = some [.int .i64 k, .int .u64 a, .int .u64 b, .int .u64 c, .int .u64 d, .int .i64 mn, .int .i64 mx, .sl (Re.avs l')] ∧ lay.Wp 48 0 [.int .i64 k, .int .u64 a, .int .u64 b, .int .u64 c, .int .u64 d, .int .i64 mn, .int .i64 mx, .sl (Re.avs l')] K
  | [], K, hf, hh, hne, h => (hne rfl).elim
  | .mk k a b c d mn mx l' :: r, K, hf, hh, hne, h => by
    have hx := least_wp (.mk k a b c d mn mx l') (K := K) hf.1 hh.1 h
    exact ⟨k, a, b, c, d, mn, mx, l', rfl, hx⟩
theorem leastS_wp : ∀ (l L : List Re) (i : Nat) (acc : Int), l = L.drop i → L.length ≤ big → Re.fitsL l → Re.hasL l → ∀ {K : Out → Prop} {i1 : Int} {b2 b3 b4 : Bool} {i8 i9 i10 i11 i12 i13 i14 : Int} {l15 : List AV}, K (.ret (.int .i64 (leastS acc l), .no), ⟨[], []⟩) →
    lay.Wp 48 1 [.int .i64 acc, .int .i64 i1, .bool b2, .bool b3, .bool b4, .sl (Re.avs L), .int .i64 (L.length : Nat), .int .i64 (i : Nat), .int .i64 i8, .int .u64 i9, .int .u64 i10, .int .u64 i11, .int .u64 i12, .int .i64 i13, .int .i64 i14, .sl l15] K
  | [], L, i, acc, hi, hL, hf, hh, K, i1, b2, b3, b4, i8, i9, i10, i11, i12, i13, i14, l15, h => by
    have hlen : L.length ≤ i := by
      have := congrArg List.length hi
      simp at this; omega
    refine Lay.wp_of h48 (fun call => e48x1 call _ _ _ _ _ _ _ _ _ _ _ _ _ _ _ _) ?_
    unfold t48x1
    simp only [tw_nm, tw_ite, tw_done]
    rw [if_neg (by simp; omega)]
    exact h
  | x :: l, L, i, acc, hi, hL, hf, hh, K, i1, b2, b3, b4, i8, i9, i10, i11, i12, i13, i14, l15, h => by
    have hb : big = 1152921504606846976 := rfl
    have hlt : i < L.length := by
      have := congrArg List.length hi
      simp at this; omega
    have hx : L[i] = x := by
      have := List.drop_eq_getElem_cons hlt
      rw [← hi] at this
      exact (List.cons.inj this).1.symm
    have hd : l = L.drop (i + 1) := by
      have := List.drop_eq_getElem_cons hlt
      rw [← hi] at this
      exact (List.cons.inj this).2
    have e := elemAt_avs hlt
    rw [hx] at e
    have hc := fun K' h' => least_wp x (K := K') hf.1 hh.1 h'
    unfold leastS at h
    have next := leastS_wp l L (i + 1) (IntKind.wrap .i64 (acc + leastF x)) hd hL hf.2 hh.2 (i1 := i1) (b2 := b2) (b3 := b3) (b4 := b4) (i8 := i8) (i9 := i9) (i10 := i10) (i11 := i11) (i12 := i12) (i13 := i13) (i14 := i14) (l15 := l15) h
    have w1 : IntKind.wrap .i64 (((i : Nat) : Int) + 1) = ((i + 1 : Nat) : Int) := by rw [wrap64 (by omega) (by omega)]; omega
    obtain ⟨k', a', b', c', d', mn', mx', l'⟩ := x
    rw [re_cells] at e hc
    refine Lay.wp_of h48 (fun call => e48x1 call _ _ _ _ _ _ _ _ _ _ _ _ _ _ _ _) ?_
    unfold t48x1
    simp only [e, tw_nm, tw_ite, tw_done, tw_opnS, openC_int, openC_sl, openC_nil, tw_need, tw_callT, tw_jump]
    rw [if_pos (by simp; omega)]
    refine ⟨avs_low l', avs_low l', hc _ ?_⟩
    simp only [s48x0, w1, tw_needR, tw_needT, true_and, tw_need, tw_nm, tw_jump]
    exact ⟨avs_low L, next⟩
theorem leastM_wp : ∀ (l L : List Re) (i : Nat) (acc : Int), l = L.drop i → L.length ≤ big → Re.fitsL l → Re.hasL l → ∀ {K : Out → Prop} {b1 b2 b3 b4 : Bool} {i8 i9 i10 i11 i12 i13 i14 : Int} {l15 : List AV}, K (.ret (.int .i64 (leastM acc l), .no), ⟨[], []⟩) →
    lay.Wp 48 2 [.int .i64 acc, .bool b1, .bool b2, .bool b3, .bool b4, .sl (Re.avs L), .int .i64 (L.length : Nat), .int .i64 (i : Nat), .int .i64 i8, .int .u64 i9, .int .u64 i10, .int .u64 i11, .int .u64 i12, .int .i64 i13, .int .i64 i14, .sl l15] K
  | [], L, i, acc, hi, hL, hf, hh, K, b1, b2, b3, b4, i8, i9, i10, i11, i12, i13, i14, l15, h => by
    have hlen : L.length ≤ i := by
      have := congrArg List.length hi
      simp at this; omega
    refine Lay.wp_of h48 (fun call => e48x2 call _ _ _ _ _ _ _ _ _ _ _ _ _ _ _ _) ?_
    unfold t48x2
    simp only [tw_nm, tw_ite, tw_done]
    rw [if_neg (by simp; omega)]
    exact h
  | x :: l, L, i, acc, hi, hL, hf, hh, K, b1, b2, b3, b4, i8, i9, i10, i11, i12, i13, i14, l15, h => by
    have hb : big = 1152921504606846976 := rfl
    have hlt : i < L.length := by
      have := congrArg List.length hi
      simp at this; omega
    have hx : L[i] = x := by
      have := List.drop_eq_getElem_cons hlt
      rw [← hi] at this
      exact (List.cons.inj this).1.symm
    have hd : l = L.drop (i + 1) := by
      have := List.drop_eq_getElem_cons hlt
      rw [← hi] at this
      exact (List.cons.inj this).2
    have e := elemAt_avs hlt
    rw [hx] at e
    have hc := fun K' h' => least_wp x (K := K') hf.1 hh.1 h'
    unfold leastM at h
    have next := leastM_wp l L (i + 1) (if leastF x < acc then leastF x else acc) hd hL hf.2 hh.2 (b1 := b1) (b2 := b2) (b3 := b3) (b4 := b4) (i8 := i8) (i9 := i9) (i10 := i10) (i11 := i11) (i12 := i12) (i13 := i13) (i14 := i14) (l15 := l15) h
    have w1 : IntKind.wrap .i64 (((i : Nat) : Int) + 1) = ((i + 1 : Nat) : Int) := by rw [wrap64 (by omega) (by omega)]; omega
    obtain ⟨k', a', b', c', d', mn', mx', l'⟩ := x
    rw [re_cells] at e hc
    refine Lay.wp_of h48 (fun call => e48x2 call _ _ _ _ _ _ _ _ _ _ _ _ _ _ _ _) ?_
    unfold t48x2
    simp only [e, tw_nm, tw_ite, tw_done, tw_opnS, openC_int, openC_sl, openC_nil, tw_need, tw_callT, tw_jump]
    rw [if_pos (by simp; omega)]
    refine ⟨avs_low l', avs_low l', hc _ ?_⟩
    simp only [s48x0, w1, tw_needR, tw_needT, true_and, tw_need, tw_nm, tw_jump]
    exact ⟨avs_low L, next⟩
end
end Go.Proofs.YtdiphholophdcaaDoor.T
end
section
open Go Go.Ab
/- lives() IS TRUE. -/
namespace Go.Proofs.YtdiphholophdcaaDoor.T
variable {K : Out → Prop}
abbrev s4 : List UInt8 := [97, 124, 98, 42]
abbrev starB : Re := .mk 6 0 0 0 0 0 (-1) [oneR 98]
abbrev altR : Re := .mk 5 0 0 0 0 0 0 [oneR 97, starB]
theorem noRep_nil : NoRep [] := ⟨by simp, by simp, by simp, by simp⟩
theorem piece_a {d : Int} (h : K (.ret ((oneR 97).av, .no), rd s4 1)) : lay.Wp 92 0 [.int .i64 d, .str s4, .int .i64 (0 : Nat)] K := by
  have e : encP 97 = [97] := by decide +kernel
  have hp := piece_plain (pre := []) (r := [124, 98, 42]) (b := 97) (d := d) (K := K) (by simp) (by unfold NoRep; simp)
  rw [e] at hp
  exact hp h
theorem piece_b {d : Int} (h : K (.ret (starB.av, .no), rd s4 4)) : lay.Wp 92 0 [.int .i64 d, .str s4, .int .i64 (2 : Nat)] K := by
  refine Lay.wp_of h92 (fun call => e92x0 call _ _ _) ?_
  unfold t92x0
  simp only [tw_callT]
  refine atom_plain (pre := [97, 124]) (r := [42]) (c := 98) (by simp) (by decide) ?_
  unfold oneR
  simp only [Re.av, s101x0, tw_needR, tw_needT, true_and, tw_need, tw_jump]
  refine ⟨rfl, rfl, ?_⟩
  refine Lay.wp_of h92 (fun call => e92x1 call _ _ _ _ _ _ _ _ _ _ _ _ _ _ _ _ _ _) ?_
  unfold t92x1
  simp only [tw_callT]
  refine goes_yes (pre := [97, 124, 98]) (r := []) (c := 42) rfl (by simp) ?_
  simp only [s76x0, tw_needR, tw_needT, true_and, tw_iteT, tw_need, tw_jump]
  refine ⟨rfl, ?_⟩
  exact piece_end (pre := s4) (r := []) (k := 6) (a := 0) (b := 0) (c := 0) (d := 0) (mn := 0) (mx := -1) (l := [oneR 98]) noRep_nil h
theorem branch_step {pre r s' : List UInt8} {p' : Nat} {c : UInt8} {d : Int} {acc : List Re} {x : Re} {j2 j3 j4 j5 j6 j7 j8 : Int} {l9 : List AV} (hacc : acc.length ≤ 1000000)
    (c124 : c ≠ 124) (c41 : c ≠ 41) (hp : ∀ K : Out → Prop, K (.ret (x.av, .no), rd s' p') → lay.Wp 92 0 [.int .i64 d, .str (pre ++ c :: r), .int .i64 (pre.length : Nat)] K)
    (h : lay.Wp 75 1 ([.int .i64 d, .sl (Re.avs (acc ++ [x])), .str s', .int .i64 (p' : Nat)] ++ jnk j2 j3 j4 j5 j6 j7 j8 l9) K) :
    lay.Wp 75 1 ([.int .i64 d, .sl (Re.avs acc), .str (pre ++ c :: r), .int .i64 (pre.length : Nat)] ++ jnk j2 j3 j4 j5 j6 j7 j8 l9) K := by
  have hk : Ab.maxLen = 4294967296 := rfl
  have f1 := neByte (k := 124) rfl c124
  have f2 := neByte (k := 41) rfl c41
  refine Lay.wp_of h75 (fun call => e75x1 call _ _ _ _ _ _ _ _ _ _ _ _) ?_
  unfold t75x1
  simp only [tw_callT]
  refine peek_at ?_
  simp only [s91x0, f1, f2, Bool.not_true, tw_needR, tw_needT, true_and, tw_nm, tw_iteF, tw_callT]
  refine hp _ ?_
  rw [← avs_append] at h
  obtain ⟨k, a, b, c', d', mn, mx, l, rfl⟩ := outR x
  simp only [Re.av, s92x0, tw_needR, tw_needT, true_and, tw_need, tw_jump]
  exact ⟨avs_low l, avs_sz _, rfl, by rw [avs_len]; omega, h⟩
theorem branch_end {s : List UInt8} {d : Int} {x : Re} {j2 j3 j4 j5 j6 j7 j8 : Int} {l9 : List AV} (h : K (.ret (x.av, .no), rd s s.length)) :
    lay.Wp 75 1 ([.int .i64 d, .sl (Re.avs [x]), .str s, .int .i64 (s.length : Nat)] ++ jnk j2 j3 j4 j5 j6 j7 j8 l9) K := by
  refine Lay.wp_of h75 (fun call => e75x1 call _ _ _ _ _ _ _ _ _ _ _ _) ?_
  unfold t75x1
  simp only [tw_callT]
  refine peek_end (by simp) ?_
  simp only [s91x0, Bool.not_false, tw_needR, tw_needT, true_and, tw_nm, tw_iteT, tw_need, tw_callT]
  refine ⟨avs_low _, joined_one ?_⟩
  obtain ⟨k, a, b, c', d', mn, mx, l, rfl⟩ := outR x
  simp only [Re.av, s77x0, tw_needR, tw_needT, true_and, tw_need, tw_done]
  exact ⟨avs_low l, avs_low l, avs_low l, h⟩
theorem branch_bar {pre r : List UInt8} {d : Int} {x : Re} {j2 j3 j4 j5 j6 j7 j8 : Int} {l9 : List AV} (h : K (.ret (x.av, .no), rd (pre ++ 124 :: r) pre.length)) :
    lay.Wp 75 1 ([.int .i64 d, .sl (Re.avs [x]), .str (pre ++ 124 :: r), .int .i64 (pre.length : Nat)] ++ jnk j2 j3 j4 j5 j6 j7 j8 l9) K := by
  have f1 : ((((124 : UInt8).toNat : Nat) : Int) == 124) = true := rfl
  refine Lay.wp_of h75 (fun call => e75x1 call _ _ _ _ _ _ _ _ _ _ _ _) ?_
  unfold t75x1
  simp only [tw_callT]
  refine peek_at ?_
  simp only [s91x0, f1, Bool.not_true, tw_needR, tw_needT, true_and, tw_nm, tw_iteT, tw_iteF, tw_need, tw_callT]
  refine ⟨avs_low _, joined_one ?_⟩
  obtain ⟨k, a, b, c', d', mn, mx, l, rfl⟩ := outR x
  simp only [Re.av, s77x0, tw_needR, tw_needT, true_and, tw_need, tw_done]
  exact ⟨avs_low l, avs_low l, avs_low l, h⟩
theorem branch_a {d : Int} (h : K (.ret ((oneR 97).av, .no), rd s4 1)) : lay.Wp 75 0 [.int .i64 d, .str s4, .int .i64 (0 : Nat)] K := by
  refine Lay.wp_of h75 (fun call => e75x0 call _ _ _) ?_
  unfold t75x0
  simp only [tw_needR, tw_needT, true_and, tw_need, tw_jump]
  refine branch_step (pre := []) (c := 97) (r := [124, 98, 42]) (s' := s4) (p' := 1) (x := oneR 97) (acc := []) (by simp) (by decide) (by decide) (fun K h => piece_a h) ?_
  refine branch_bar (pre := [97]) (r := [98, 42]) (x := oneR 97) ?_
  simp only [oneR, Re.av, s75x0, tw_needR, tw_needT, true_and, tw_need, tw_done]
  exact h
theorem branch_b {d : Int} (h : K (.ret (starB.av, .no), rd s4 4)) : lay.Wp 75 0 [.int .i64 d, .str s4, .int .i64 (2 : Nat)] K := by
  refine Lay.wp_of h75 (fun call => e75x0 call _ _ _) ?_
  unfold t75x0
  simp only [tw_needR, tw_needT, true_and, tw_need, tw_jump]
  refine branch_step (pre := [97, 124]) (c := 98) (r := [42]) (s' := s4) (p' := 4) (x := starB) (acc := []) (by simp) (by decide) (by decide) (fun K h => piece_b h) ?_
  refine branch_end (s := s4) (x := starB) ?_
  exact h
theorem parse_alt (h : K (.ret (.tup [altR.av, .int .i64 0, .int .i64 0], .agg [.no, .no, .no]), ⟨[], []⟩)) : lay.Wp 27 0 [.str s4] K := by
  have hk : Ab.maxLen = 4294967296 := rfl
  refine Lay.wp_of h27 (fun call => e27x0 call _) ?_
  unfold t27x0
  simp only [tw_nm, tw_ite, tw_callT]
  rw [if_neg (by decide)]
  refine Lay.wp_of h53 (fun call => e53x0 call _ _ _) ?_
  unfold t53x0
  simp only [tw_callT]
  refine branch_a ?_
  simp only [oneR, Re.av, s75x0, tw_needR, tw_needT, true_and, tw_need, tw_jump]
  refine ⟨avs_low _, ?_⟩
  refine Lay.wp_of h53 (fun call => e53x1 call _ _ _ _ _ _ _ _ _ _ _ _) ?_
  unfold t53x1
  simp only [tw_callT]
  refine goes_yes (pre := [97]) (r := [98, 42]) (c := 124) rfl (by simp) ?_
  simp only [s76x0, tw_needR, tw_needT, true_and, tw_iteT, tw_need, tw_callT]
  refine branch_b ?_
  simp only [Re.av, s75x0, tw_needR, tw_needT, true_and, tw_need, tw_jump]
  refine ⟨avs_low _, rfl, rfl, by decide, ?_⟩
  refine Lay.wp_of h53 (fun call => e53x1 call _ _ _ _ _ _ _ _ _ _ _ _) ?_
  unfold t53x1
  simp only [tw_callT]
  refine goes_no (pre := s4) (r := []) (c := 124) rfl (by simp) ?_
  simp only [s76x0, tw_needR, tw_needT, true_and, tw_iteF, tw_need, tw_callT]
  refine ⟨by rfl, joined_wp (k := 5) (L := [oneR 97, starB]) (by simp) (by decide) ?_⟩
  have e : joinF 5 [oneR 97, starB] = altR := by rfl
  rw [e]
  simp only [Re.av, s77x0, tw_needR, tw_needT, true_and, tw_need, tw_done]
  refine ⟨avs_low _, avs_low _, avs_low _, ?_⟩
  simp only [s53x0, Bool.not_true, tw_needR, tw_needT, true_and, tw_need, tw_nm, tw_iteF, tw_done]
  exact ⟨avs_low _, avs_low _, avs_low _, h⟩
theorem alt_ok : altR.ok := by
  refine ⟨⟨by decide, by decide⟩, ⟨by decide, by decide⟩, ⟨by decide, by decide⟩, ⟨by decide, by decide⟩, by decide, ?_, ?_, trivial⟩
  · exact ⟨⟨by decide, by decide⟩, ⟨by decide, by decide⟩, ⟨by decide, by decide⟩, ⟨by decide, by decide⟩, by decide, trivial⟩
  · exact ⟨⟨by decide, by decide⟩, ⟨by decide, by decide⟩, ⟨by decide, by decide⟩, ⟨by decide, by decide⟩, fun _ => ⟨by simp, by decide, .inl rfl⟩, ⟨⟨by decide, by decide⟩, ⟨by decide, by decide⟩, ⟨by decide, by decide⟩, ⟨by decide, by decide⟩, by decide, trivial⟩, trivial⟩
theorem alt_fits : altR.fits := ⟨by decide, ⟨by decide, trivial⟩, ⟨by decide, ⟨by decide, trivial⟩, trivial⟩, trivial⟩
theorem alt_has : altR.has := ⟨by simp, ⟨by decide, trivial⟩, ⟨by simp, ⟨by decide, trivial⟩, trivial⟩, trivial⟩
theorem alt_can : canF altR (-1) 1 = true := by decide +kernel
theorem alt_least : leastF altR = 0 := by decide +kernel
theorem alt_show : showF altR = [91, 97, 93, 124, 91, 98, 93, 42] := by decide +kernel
theorem lives_wp (h : K (.ret (.bool true, .no), ⟨[], []⟩)) : lay.Wp 20 0 [] K := by
  have hc := fun K' h' => can_wp altR (-1) 1 (K := K') alt_fits (by decide) (by decide) h'
  have hle := fun K' h' => least_wp altR (K := K') alt_fits alt_has h'
  have hsh := fun K' h' => show_wp altR (K := K') alt_ok (by decide) h'
  rw [alt_can] at hc
  rw [alt_least] at hle
  rw [alt_show] at hsh
  rw [re_cells] at hc hle hsh
  refine Lay.wp_of h20 (fun call => e20x0 call) ?_
  unfold t20x0
  simp only [tw_callT]
  refine parse_alt ?_
  have hlow := av_low altR
  simp only [Re.av] at hlow ⊢
  have z : ((0 : Int) == 0) = true := rfl
  have z5 : ((5 : Int) == 5) = true := rfl
  have z2 : ((([oneR 97, starB].length : Nat) : Int) == 2) = true := rfl
  simp only [s27x0, tw_needR, tw_needT, true_and, hlow, z, z5, tw_iteT, tw_nm, tw_need, tw_callT, avs_len, z2]
  refine ⟨avs_low _, avs_low _, ?_⟩
  refine Lay.wp_of h22 (fun call => e22x0 call _ _ _ _ _ _ _ _) ?_
  unfold t22x0
  simp only [tw_need, tw_callT]
  refine ⟨avs_low _, hc _ ?_⟩
  simp only [s46x0, Bool.not_true, tw_needR, tw_needT, true_and, tw_nm, tw_iteF, tw_need, tw_callT]
  refine ⟨avs_low _, hsh _ ?_⟩
  have zs : (([91, 97, 93, 124, 91, 98, 93, 42] : List UInt8) == [91, 97, 93, 124, 91, 98, 93, 42]) = true := by decide
  simp only [s47x0, s22x0, tw_needR, tw_needT, true_and, tw_done, zs, tw_nm, tw_iteT, tw_need, tw_callT]
  refine ⟨avs_low _, ?_⟩
  refine Lay.wp_of h24 (fun call => e24x0 call _ _ _ _ _ _ _ _) ?_
  unfold t24x0
  simp only [tw_need, tw_callT]
  refine ⟨avs_low _, hc _ ?_⟩
  simp only [s46x0, s24x0, tw_needR, tw_needT, true_and, tw_nm, tw_iteT, tw_need, tw_callT, tw_done]
  refine ⟨avs_low _, ?_⟩
  refine Lay.wp_of h23 (fun call => e23x0 call _ _ _ _ _ _ _ _) ?_
  unfold t23x0
  simp only [tw_need, tw_callT]
  refine ⟨avs_low _, hc _ ?_⟩
  simp only [s46x0, Bool.not_true, tw_needR, tw_needT, true_and, tw_nm, tw_iteF, tw_need, tw_callT]
  refine ⟨avs_low _, hle _ ?_⟩
  simp only [s48x0, s23x0, z, tw_needR, tw_needT, true_and, tw_nm, tw_ite, tw_done]
  exact h
end Go.Proofs.YtdiphholophdcaaDoor.T
end
