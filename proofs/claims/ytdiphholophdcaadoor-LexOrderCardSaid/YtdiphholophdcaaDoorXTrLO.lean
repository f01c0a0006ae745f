import Derived.Test.YtdiphholophdcaaDoorXTrLP
import Derived.Lib.IndexAny
import Derived.Test.YtdiphholophdcaaDoorXAbT5
import Derived.Lib.IndexMore
import Derived.Lib.Fields
import Derived.Lib.LaidTab
import Derived.Shelf.Strings.Search3
import Derived.Shelf.Strings.Fields
import Derived.KernelRfl
import Derived.Test.YtdiphholophdcaaDoorProg
import Derived.Lib.Walk
import Derived.WalkKit
import Derived.ProofKit
import Derived.SizedLaws
import Derived.LaidMore
import Derived.Shelf.Vars
set_option linter.all false
section
open Go Go.Ab
/- THE WORDS OF ANY TEXT: what lex.Words comes to, as a plain function of lists. -/
namespace Go.Proofs.YtdiphholophdcaaDoor.T
variable {K : Out → Prop}
theorem tw_needT {f : FuncId} {t : Tree} : (Tree.need True t).wp lay.ev f K ↔ t.wp lay.ev f K := ⟨fun h => h.2, fun h => ⟨trivial, h⟩⟩
/-- a token -/
structure Tk where
  k : Int
  s : List UInt8
  a : Nat
abbrev Tk.av (t : Tk) : AV := tokAV t.k t.s t.a
abbrev avs (l : List Tk) : List AV := l.map Tk.av
theorem avs_lows (l : List Tk) : AV.lows 0 (avs l) = true := by
  rw [lows_iff]
  intro x hx
  obtain ⟨t, _, rfl⟩ := List.mem_map.1 hx
  rfl
theorem avs_sz (l : List Tk) : szOk (avs l) 3 = true := by
  cases l <;> rfl
theorem elemAt_avs {l : List Tk} {i : Nat} (h : i < l.length) : elemAt (avs l) (i : Int) = some [.int .i64 l[i].k, .str l[i].s, .int .i64 (l[i].a : Nat)] := by
  unfold elemAt
  rw [if_pos (by omega), Int.toNat_natCast]
  simp [h, Tk.av, tokAV, AV.cells]
/-! ### plain functions -/
def letterB (b : UInt8) : Bool := isLetter ((b.toNat : Nat) : Int)
def digitB (b : UInt8) : Bool := isDigit ((b.toNat : Nat) : Int)
def innerB (b : UInt8) : Bool := letterB b || digitB b
def lineB (b : UInt8) : Bool := b != 10
def amongB (l s : List UInt8) : Bool := !(s == []) && Go.Lib.contains l (32 :: s ++ [32])
def wordsL : List UInt8 := [32, 66, 69, 71, 73, 78, 32, 69, 78, 68, 32, 102, 117, 110, 99, 116, 105, 111, 110, 32, 105, 102, 32, 101, 108, 115, 101, 32, 119, 104, 105, 108, 101, 32, 102, 111, 114, 32, 100, 111, 32, 98, 114, 101, 97, 107, 32, 99, 111, 110, 116, 105, 110, 117, 101, 32, 110, 101, 120, 116, 32, 101, 120, 105, 116, 32, 114, 101, 116, 117, 114, 110, 32, 100, 101, 108, 101, 116, 101, 32, 105, 110, 32, 103, 101, 116, 108, 105, 110, 101, 32, 112, 114, 105, 110, 116, 32, 112, 114, 105, 110, 116, 102, 32, 112, 101, 114, 115, 105, 115, 116, 32]
def ownsL : List UInt8 := [32, 108, 101, 110, 103, 116, 104, 32, 115, 117, 98, 115, 116, 114, 32, 105, 110, 100, 101, 120, 32, 115, 112, 108, 105, 116, 32, 115, 117, 98, 32, 103, 115, 117, 98, 32, 109, 97, 116, 99, 104, 32, 115, 112, 114, 105, 110, 116, 102, 32, 116, 111, 108, 111, 119, 101, 114, 32, 116, 111, 117, 112, 112, 101, 114, 32, 105, 110, 116, 32, 115, 121, 110, 99, 32]
def closersL : List UInt8 := [32, 41, 32, 93, 32, 43, 43, 32, 45, 45, 32, 36, 32]
def pairsL : List (List UInt8) := [[43, 43], [45, 45], [43, 61], [45, 61], [42, 61], [47, 61], [37, 61], [61, 61], [33, 61], [60, 61], [62, 61], [62, 62], [33, 126], [38, 38], [124, 124]]
def signsL : List UInt8 := [123, 125, 40, 41, 91, 93, 59, 44, 43, 45, 42, 47, 37, 60, 62, 33, 126, 63, 58, 61, 36]
/-- what is skipped -/
def skipL : List UInt8 → List UInt8
  | [] => []
  | c :: r =>
    if c = 32 then skipL r
    else if c = 9 then skipL r
    else if [92, 10] <+: c :: r then skipL (r.drop 1)
    else if c = 35 then skipL (r.dropWhile lineB)
    else c :: r
  termination_by l => l.length
  decreasing_by
  all_goals simp only [List.length_cons, List.length_drop]
  · omega
  · omega
  · omega
  · have := (List.dropWhile_suffix lineB (l := r)).length_le
    omega
theorem skipL_suffix : ∀ (n : Nat) (r : List UInt8), r.length ≤ n → skipL r <:+ r := by
  intro n
  induction n with
  | zero =>
    intro r h
    cases r with
    | nil => rw [skipL]; exact List.suffix_refl _
    | cons c r => simp at h
  | succ n ih =>
    intro r h
    cases r with
    | nil => rw [skipL]; exact List.suffix_refl _
    | cons c r =>
      simp only [List.length_cons] at h
      rw [skipL]
      split
      · exact (ih r (by omega)).trans (List.suffix_cons _ _)
      · split
        · exact (ih r (by omega)).trans (List.suffix_cons _ _)
        · split
          · exact (ih (r.drop 1) (by simp; omega)).trans ((List.drop_suffix 1 r).trans (List.suffix_cons _ _))
          · split
            · have := (List.dropWhile_suffix lineB (l := r))
              exact (ih _ (by have := this.length_le; omega)).trans (this.trans (List.suffix_cons _ _))
            · exact List.suffix_refl _
/-- a token, how many bytes it has; or what is wrong -/
abbrev TR := Except Int (Int × List UInt8 × Nat)
def nameF (r : List UInt8) : TR :=
  let w := r.takeWhile innerB
  if 40 < w.length then .error 2
  else if amongB wordsL w then .ok (7, w, w.length)
  else if amongB ownsL w then .ok (8, w, w.length)
  else if r[w.length]? = some 40 then .ok (6, w, w.length)
  else .ok (5, w, w.length)
def numL (r : List UInt8) : List UInt8 :=
  let w := r.takeWhile digitB
  if r[w.length]? = some 46 then r.take (w.length + 1 + ((r.drop (w.length + 1)).takeWhile digitB).length) else r.take w.length
def strokeF (c : UInt8) : List UInt8 := if c = 110 then [10] else if c = 116 then [9] else if c = 92 ∨ c = 34 ∨ c = 47 then [c] else [92, c]
theorem strokeF_len (c : UInt8) : (strokeF c).length ≤ 2 := by
  unfold strokeF
  split
  · simp
  split
  · simp
  split
  · simp
  · simp
/-- a token of a kind, if there is one -/
def spanT (k : Int) (acc : List UInt8) (q : Nat) : Option (List UInt8 × Nat) → TR
  | none => .error 3
  | some x => .ok (k, acc ++ x.1, q + x.2)
/-- bytes ahead of it -/
def ahead (t : List UInt8) (m : Nat) (o : Option (List UInt8 × Nat)) : Option (List UInt8 × Nat) := o.map fun x => (t ++ x.1, x.2 + m)
theorem span_ahead (k : Int) (acc t : List UInt8) (q m : Nat) (o : Option (List UInt8 × Nat)) : spanT k acc q (ahead t m o) = spanT k (acc ++ t) (q + m) o := by
  cases o with
  | none => rfl
  | some x => simp [spanT, ahead]; omega
/-- a text behind its first quote: what it stands for, how many bytes it has with its last quote -/
def textL : List UInt8 → Option (List UInt8 × Nat)
  | [] => none
  | c :: r =>
    if c = 10 then none
    else if c = 34 then some ([], 1)
    else if c = 92 ∧ 0 < r.length then (if r[0]? = some 10 then none else ahead (strokeF (r.headD 0)) 2 (textL (r.drop 1)))
    else ahead [c] 1 (textL r)
  termination_by l => l.length
  decreasing_by all_goals (simp only [List.length_cons, List.length_drop]; omega)
/-- a pattern behind its first stroke; i: the place; o: where the set begins that is open -/
def patL (i : Nat) (o : Option Nat) : List UInt8 → Option (List UInt8 × Nat)
  | [] => none
  | c :: r =>
    if c = 10 then none
    else if c = 92 ∧ 0 < r.length ∧ r[0]? ≠ some 10 then ahead (if r[0]? = some 47 then [47] else [92, r.headD 0]) 2 (patL (i + 2) o (r.drop 1))
    else if c = 91 ∧ o = none then ahead [c] 1 (patL (i + 1) (some (if r[0]? = some 94 then i + 2 else i + 1)) r)
    else if c = 93 ∧ (∃ k, o = some k ∧ k < i) then ahead [c] 1 (patL (i + 1) none r)
    else if c = 47 ∧ o = none then some ([], 1)
    else ahead [c] 1 (patL (i + 1) o r)
  termination_by l => l.length
  decreasing_by all_goals (simp only [List.length_cons, List.length_drop]; omega)
def signF (r : List UInt8) : TR :=
  if 1 < r.length ∧ r.head? ≠ some 32 ∧ r.take 2 ∈ pairsL then .ok (9, r.take 2, 2)
  else match r with
    | c :: _ => if c ∈ signsL then .ok (9, [c], 1) else .error 4
    | [] => .error 4
def operandF (l : List Tk) : Bool := match l.getLast? with
  | none => true
  | some t => if t.k = 2 ∨ t.k = 3 ∨ t.k = 5 ∨ t.k = 8 then false else if t.k = 9 then !amongB closersL t.s else true
def tokF (p : Nat) (op : Bool) : List UInt8 → TR
  | [] => .error 4
  | c :: r =>
    if c = 10 then .ok (1, [10], 1)
    else if letterB c then nameF (c :: r)
    else if digitB c ∨ (c = 46 ∧ ∃ d, r[0]? = some d ∧ digitB d) then .ok (2, numL (c :: r), (numL (c :: r)).length)
    else if c = 34 then spanT 3 [] 1 (textL r)
    else if c = 47 ∧ op = true then spanT 4 [] 1 (patL (p + 1) none r)
    else signF (c :: r)
/-! ### what the tokens come to -/
abbrev rok (s : List UInt8) (p : Nat) (l : List Tk) : Out := (.ret (.tup [], .agg []), rdB s (p : Nat) (avs l))
abbrev rpan (s : List UInt8) (p : Nat) (l : List Tk) (w : Int) : Out := (.panic (.iface 45 (.agg [.int .i64 (p : Nat), .int .i64 w])), rdB s (p : Nat) (avs l))
def stepOut (s : List UInt8) (p : Nat) (l : List Tk) : TR → Out
  | .error w => rpan s p l w
  | .ok (k, t, n) => if l.length = 3000 then rpan s p l 2 else rok s (p + n) (l ++ [⟨k, t, p⟩])
theorem stepOut_cases (s : List UInt8) (p : Nat) (l : List Tk) (x : TR) : (∃ w, stepOut s p l x = rpan s p l w) ∨ ∃ k t n, stepOut s p l x = rok s (p + n) (l ++ [⟨k, t, p⟩]) := by
  unfold stepOut
  split
  · exact .inl ⟨_, rfl⟩
  · split
    · exact .inl ⟨_, rfl⟩
    · exact .inr ⟨_, _, _, rfl⟩
theorem fail_wp {w : Int} {s : List UInt8} {p : Nat} {l : List Tk} (h : K (rpan s p l w)) : lay.Wp 64 0 [.int .i64 w, .str s, .int .i64 (p : Nat), .sl (avs l)] K := by
  refine Lay.wp_of h64 (fun call => e64x0 call _ _ _ _) ?_
  unfold t64x0
  exact h
theorem avs_snoc (l : List Tk) (t : Tk) : avs l ++ [Tk.av t] = avs (l ++ [t]) := by simp [avs]
theorem put_step {k : Int} {n p : Nat} {t s : List UInt8} {l : List Tk} (hl : l.length ≤ 3000) (hp : p ≤ 8000) (hn : n ≤ 8000)
    (h : K (stepOut s p l (.ok (k, t, n)))) : lay.Wp 34 0 [.int .i64 k, .str t, .int .i64 (n : Nat), .str s, .int .i64 (p : Nat), .sl (avs l)] K := by
  unfold stepOut at h
  simp only at h
  split at h
  · rename_i e
    refine Lay.wp_of h34 (fun call => e34x0 call _ _ _ _ _ _) ?_
    unfold t34x0
    simp only [tw_nm, tw_ite, tw_needR, tw_needT, true_and, tw_need, true_and, tw_callT]
    rw [if_pos (by simp [e])]
    refine ⟨avs_lows l, fail_wp ?_⟩
    simp only [s64x0, tw_needR, tw_needT, true_and, tw_need, tw_done]
    exact ⟨avs_lows l, h⟩
  · rename_i e
    refine put_wp (k := k) (n := n) (p := p) (t := t) (s := s) (l := avs l) (by simp; omega) (avs_lows l) (avs_sz l) (by omega) (by omega) fun _ _ => ?_
    have e2 : avs l ++ [tokAV k t p] = avs (l ++ [⟨k, t, p⟩]) := avs_snoc l ⟨k, t, p⟩
    rw [e2]
    have e3 : ((p + n : Nat) : Int) = (p : Int) + (n : Int) := by omega
    simp only [rok, e3] at h
    exact h
/-- what is handed on -/
theorem put_tail {f : FuncId} {s : List UInt8} {p : Nat} {l : List Tk} {x : TR} (h : K (stepOut s p l x)) :
    (outT o34x0 (stepOut s p l x) (fun (i8 : Int) (i9 : Int) (s10 : List UInt8) (i11 : Int) (l12 : List AV) =>
      .need ((AV.lows 0 l12) = Bool.true) <|
      .done ((.panic (.iface 45 (.agg [(.int .i64 i8), (.int .i64 i9)]))), ⟨[[((.str s10), .no), ((.int .i64 i11), .no), ((.sl l12), (.tok 0))]], [(List.length l12)]⟩))
       (outT o34x1 (stepOut s p l x) (fun (s5 : List UInt8) (i6 : Int) (l7 : List AV) =>
      .need ((AV.lows 0 l7) = Bool.true) <|
      .done ((.ret ((.tup []), (.agg []))), ⟨[[((.str s5), .no), ((.int .i64 i6), .no), ((.sl l7), (.tok 0))]], [(List.length l7)]⟩))
       (.fail))).wp lay.ev f K := by
  rcases stepOut_cases s p l x with ⟨w, e⟩ | ⟨k, t, n, e⟩
  · rw [e] at h ⊢
    simp only [s34x0, tw_needR, tw_needT, true_and, tw_need, tw_done]
    exact ⟨avs_lows l, h⟩
  · rw [e] at h ⊢
    simp only [n34x0x1, s34x1, tw_needR, tw_needT, true_and, tw_need, tw_done]
    exact ⟨avs_lows _, h⟩
theorem put_tail2 {f : FuncId} {s : List UInt8} {p : Nat} {l : List Tk} {x : TR} (h : K (stepOut s p l x)) :
    (outT o34x0 (stepOut s p l x) (fun (i8 : Int) (i9 : Int) (s10 : List UInt8) (i11 : Int) (l12 : List AV) =>
      .need ((AV.lows 0 l12) = Bool.true) <| .need True <|
      .done ((.panic (.iface 45 (.agg [(.int .i64 i8), (.int .i64 i9)]))), ⟨[[((.str s10), .no), ((.int .i64 i11), .no), ((.sl l12), (.tok 0))]], [(List.length l12)]⟩))
       (outT o34x1 (stepOut s p l x) (fun (s5 : List UInt8) (i6 : Int) (l7 : List AV) =>
      .need ((AV.lows 0 l7) = Bool.true) <| .need True <|
      .done ((.ret ((.tup []), (.agg []))), ⟨[[((.str s5), .no), ((.int .i64 i6), .no), ((.sl l7), (.tok 0))]], [(List.length l7)]⟩))
       (.fail))).wp lay.ev f K := by
  rcases stepOut_cases s p l x with ⟨w, e⟩ | ⟨k, t, n, e⟩
  · rw [e] at h ⊢
    simp only [s34x0, tw_needR, tw_needT, true_and, tw_need, tw_done]
    exact ⟨avs_lows l, h⟩
  · rw [e] at h ⊢
    simp only [n34x0x1, s34x1, tw_needR, tw_needT, true_and, tw_need, tw_done]
    exact ⟨avs_lows _, h⟩
/-! ### runs -/
theorem letterB_wp {b : UInt8} (h : K (.ret (.bool (letterB b), .no), ⟨[], []⟩)) : lay.Wp 37 0 [.int .u8 ((b.toNat : Nat) : Int)] K := letter_wp h
theorem digitB_wp {b : UInt8} (h : K (.ret (.bool (digitB b), .no), ⟨[], []⟩)) : lay.Wp 58 0 [.int .u8 ((b.toNat : Nat) : Int)] K := digit_wp h
theorem inner_wp {b : UInt8} (h : K (.ret (.bool (innerB b), .no), ⟨[], []⟩)) : lay.Wp 39 0 [.int .u8 ((b.toNat : Nat) : Int)] K := by
  refine Lay.wp_of h39 (fun call => e39x0 call _) ?_
  unfold t39x0
  simp only [tw_callT]
  refine letterB_wp ?_
  simp only [s37x0, tw_needR, tw_needT, true_and, tw_ite]
  by_cases c : letterB b = true
  · rw [if_pos c]
    have : innerB b = true := by simp [innerB, c]
    rw [this] at h
    exact h
  · rw [if_neg c]
    simp only [tw_callT]
    refine digitB_wp ?_
    simp only [s58x0, tw_needR, tw_needT, true_and, tw_done]
    have : innerB b = digitB b := by simp [innerB, c]
    rw [this] at h
    exact h
theorem line_wp {b : UInt8} (h : K (.ret (.bool (lineB b), .no), ⟨[], []⟩)) : lay.Wp 56 0 [.int .u8 ((b.toNat : Nat) : Int)] K := by
  refine Lay.wp_of h56 (fun call => e56x0 call _) ?_
  unfold t56x0
  simp only [tw_nm, tw_done]
  have e : (((b.toNat : Nat) : Int) != 10) = lineB b := by
    unfold lineB
    rw [Bool.eq_iff_iff, bne_iff_ne, bne_iff_ne, ne_eq, ne_eq, ← beq_iff_eq (a := ((b.toNat : Nat) : Int)), byteEq (b := b) 10 (k := 10) rfl]
  rw [e]
  exact h
/-- a run, at a place -/
def RunAt (q : UInt8 → Bool) (s : List UInt8) (i : Nat) : List UInt8 := s.take i ++ (s.drop i).takeWhile q
theorem runAt_more {q : UInt8 → Bool} {s : List UInt8} {i : Nat} (h : i < s.length) (c : q s[i] = true) : RunAt q s (i + 1) = RunAt q s i := by
  unfold RunAt
  rw [List.drop_eq_getElem_cons h, List.takeWhile_cons, if_pos c, List.take_succ_eq_append_getElem h, List.append_assoc]
  rfl
theorem runAt_stop {q : UInt8 → Bool} {s : List UInt8} {i : Nat} (h : i < s.length) (c : ¬ q s[i] = true) : RunAt q s i = s.take i := by
  unfold RunAt
  rw [List.drop_eq_getElem_cons h, List.takeWhile_cons, if_neg c]
  simp
theorem runAt_end {q : UInt8 → Bool} {s : List UInt8} : RunAt q s s.length = s.take s.length := by
  unfold RunAt; simp
theorem run_loop3 (s : List UInt8) (hs : s.length ≤ 4611686018427387904) : ∀ (n i : Nat), s.length - i = n → i ≤ s.length → K (.ret (.str (RunAt innerB s i), .no), ⟨[], []⟩) → lay.Wp 38 3 [.str s, .int .i64 (i : Nat)] K := by
  intro n
  induction n with
  | zero =>
    intro i hn hi h
    have : i = s.length := by omega
    subst this
    refine Lay.wp_of h38 (fun call => e38x3 call _ _) ?_
    unfold t38x3
    simp only [tw_nm, tw_ite, tw_need, tw_done]
    rw [if_neg (by simp)]
    rw [runAt_end] at h
    exact ⟨⟨by omega, by omega⟩, by simpa using h⟩
  | succ n ih =>
    intro i hn hi h
    have hlt : i < s.length := by omega
    refine Lay.wp_of h38 (fun call => e38x3 call _ _) ?_
    unfold t38x3
    simp only [byteAt_nat hlt, tw_nm, tw_ite, tw_bindS, tw_need, tw_done, tw_callT]
    rw [if_pos (by simp; omega)]
    refine inner_wp ?_
    simp only [s39x0, tw_needR, tw_needT, true_and, tw_nm, tw_ite, tw_need, tw_done, tw_jump]
    by_cases c : innerB s[i] = true
    · rw [if_pos c, wrap64 (by omega) (by omega)]
      refine ih (i + 1) (by omega) (by omega) ?_
      rw [runAt_more hlt c]
      exact h
    · rw [if_neg c]
      rw [runAt_stop hlt c] at h
      exact ⟨⟨by omega, by omega⟩, by simpa using h⟩
theorem runA_wp {s : List UInt8} (hs : s.length ≤ 4611686018427387904) (h : K (.ret (.str (s.takeWhile innerB), .no), ⟨[], []⟩)) : lay.Wp 38 0 [.str s] K := by
  refine Lay.wp_of h38 (fun call => e38x0 call _) ?_
  unfold t38x0
  simp only [tw_jump]
  exact run_loop3 s hs s.length 0 (by omega) (by omega) (by simpa [RunAt] using h)
theorem run_loop4 (s : List UInt8) (hs : s.length ≤ 4611686018427387904) : ∀ (n i : Nat), s.length - i = n → i ≤ s.length → K (.ret (.str (RunAt digitB s i), .no), ⟨[], []⟩) → lay.Wp 38 4 [.str s, .int .i64 (i : Nat)] K := by
  intro n
  induction n with
  | zero =>
    intro i hn hi h
    have : i = s.length := by omega
    subst this
    refine Lay.wp_of h38 (fun call => e38x4 call _ _) ?_
    unfold t38x4
    simp only [tw_nm, tw_ite, tw_need, tw_done]
    rw [if_neg (by simp)]
    rw [runAt_end] at h
    exact ⟨⟨by omega, by omega⟩, by simpa using h⟩
  | succ n ih =>
    intro i hn hi h
    have hlt : i < s.length := by omega
    refine Lay.wp_of h38 (fun call => e38x4 call _ _) ?_
    unfold t38x4
    simp only [byteAt_nat hlt, tw_nm, tw_ite, tw_bindS, tw_need, tw_done, tw_callT]
    rw [if_pos (by simp; omega)]
    refine digitB_wp ?_
    simp only [s58x0, tw_needR, tw_needT, true_and, tw_nm, tw_ite, tw_need, tw_done, tw_jump]
    by_cases c : digitB s[i] = true
    · rw [if_pos c, wrap64 (by omega) (by omega)]
      refine ih (i + 1) (by omega) (by omega) ?_
      rw [runAt_more hlt c]
      exact h
    · rw [if_neg c]
      rw [runAt_stop hlt c] at h
      exact ⟨⟨by omega, by omega⟩, by simpa using h⟩
theorem runB_wp {s : List UInt8} (hs : s.length ≤ 4611686018427387904) (h : K (.ret (.str (s.takeWhile digitB), .no), ⟨[], []⟩)) : lay.Wp 38 1 [.str s] K := by
  refine Lay.wp_of h38 (fun call => e38x1 call _) ?_
  unfold t38x1
  simp only [tw_jump]
  exact run_loop4 s hs s.length 0 (by omega) (by omega) (by simpa [RunAt] using h)
theorem run_loop5 (s : List UInt8) (hs : s.length ≤ 4611686018427387904) : ∀ (n i : Nat), s.length - i = n → i ≤ s.length → K (.ret (.str (RunAt lineB s i), .no), ⟨[], []⟩) → lay.Wp 38 5 [.str s, .int .i64 (i : Nat)] K := by
  intro n
  induction n with
  | zero =>
    intro i hn hi h
    have : i = s.length := by omega
    subst this
    refine Lay.wp_of h38 (fun call => e38x5 call _ _) ?_
    unfold t38x5
    simp only [tw_nm, tw_ite, tw_need, tw_done]
    rw [if_neg (by simp)]
    rw [runAt_end] at h
    exact ⟨⟨by omega, by omega⟩, by simpa using h⟩
  | succ n ih =>
    intro i hn hi h
    have hlt : i < s.length := by omega
    refine Lay.wp_of h38 (fun call => e38x5 call _ _) ?_
    unfold t38x5
    simp only [byteAt_nat hlt, tw_nm, tw_ite, tw_bindS, tw_need, tw_done, tw_callT]
    rw [if_pos (by simp; omega)]
    refine line_wp ?_
    simp only [s56x0, tw_needR, tw_needT, true_and, tw_nm, tw_ite, tw_need, tw_done, tw_jump]
    by_cases c : lineB s[i] = true
    · rw [if_pos c, wrap64 (by omega) (by omega)]
      refine ih (i + 1) (by omega) (by omega) ?_
      rw [runAt_more hlt c]
      exact h
    · rw [if_neg c]
      rw [runAt_stop hlt c] at h
      exact ⟨⟨by omega, by omega⟩, by simpa using h⟩
theorem runC_wp {s : List UInt8} (hs : s.length ≤ 4611686018427387904) (h : K (.ret (.str (s.takeWhile lineB), .no), ⟨[], []⟩)) : lay.Wp 38 2 [.str s] K := by
  refine Lay.wp_of h38 (fun call => e38x2 call _) ?_
  unfold t38x2
  simp only [tw_jump]
  exact run_loop5 s hs s.length 0 (by omega) (by omega) (by simpa [RunAt] using h)
/-! ### what is skipped -/
theorem skip_end {l : List Tk} {pre : List UInt8} (h : K (rok (pre ++ []) pre.length l)) : lay.Wp 32 1 [.str (pre ++ []), .int .i64 ((pre.length : Nat) : Int), .sl (avs l)] K := by
  refine Lay.wp_of h32 (fun call => e32x1 call _ _ _) ?_
  unfold t32x1
  simp only [tw_nm, tw_ite, tw_need, tw_done]
  rw [if_neg (by simp)]
  exact h
theorem dropHere (pre r : List UInt8) : List.drop (Int.toNat ((pre.length : Nat) : Int)) (List.take (pre ++ r).length (pre ++ r)) = r := by
  rw [List.take_length, Int.toNat_natCast]; simp
theorem inLoHere (pre r : List UInt8) : inLo ((pre.length : Nat) : Int) (pre ++ r).length := ⟨by omega, by rw [List.length_append]; omega⟩
theorem skip_loop (l : List Tk) : ∀ (n : Nat) (r pre : List UInt8), r.length ≤ n → pre.length + r.length ≤ 8000 → K (rok (pre ++ r) ((pre ++ r).length - (skipL r).length) l) →
    lay.Wp 32 1 [.str (pre ++ r), .int .i64 ((pre.length : Nat) : Int), .sl (avs l)] K := by
  intro n
  induction n with
  | zero =>
    intro r pre hn hs h
    have : r = [] := List.length_eq_zero_iff.1 (by omega)
    subst this
    refine skip_end ?_
    rw [skipL] at h
    simpa using h
  | succ n ih =>
    intro r pre hn hs h
    cases r with
    | nil =>
      refine skip_end ?_
      rw [skipL] at h
      simpa using h
    | cons c r =>
      simp only [List.length_cons] at hn hs
      have w1 : IntKind.wrap .i64 (((pre.length : Nat) : Int) + 1) = ((pre.length + 1 : Nat) : Int) := by rw [wrap64 (by omega) (by omega)]; omega
      have w2 : IntKind.wrap .i64 (((pre.length : Nat) : Int) + 2) = ((pre.length + 2 : Nat) : Int) := by rw [wrap64 (by omega) (by omega)]; omega
      have go (e r' : List UInt8) (he : c :: r = e ++ r') (hl : 1 ≤ e.length) (hq : skipL (c :: r) = skipL r') : lay.Wp 32 1 [.str (pre ++ c :: r), .int .i64 ((pre.length + e.length : Nat) : Int), .sl (avs l)] K := by
        have len : (c :: r).length = e.length + r'.length := by rw [he, List.length_append]
        simp only [List.length_cons] at len
        have x := ih r' (pre ++ e) (by omega) (by simp; omega)
        have e5 : (pre ++ e).length = pre.length + e.length := List.length_append
        rw [List.append_assoc, ← he, e5] at x
        exact x (by rw [← hq]; exact h)
      refine Lay.wp_of h32 (fun call => e32x1 call _ _ _) ?_
      unfold t32x1
      simp only [byteAt_app, dropHere, w1, w2, tw_nm, tw_ite, tw_bindS, tw_needR, tw_needT, true_and, tw_need, tw_jump, tw_callT]
      rw [if_pos (by simp; omega)]
      by_cases c1 : c = 32
      · rw [if_pos ((byteEq 32 (k := 32) rfl).2 c1)]
        exact go [c] r rfl (by simp) (by rw [skipL, if_pos c1])
      rw [if_neg (fun e => c1 ((byteEq 32 (k := 32) rfl).1 e))]
      by_cases c2 : c = 9
      · rw [if_pos ((byteEq 9 (k := 9) rfl).2 c2)]
        exact go [c] r rfl (by simp) (by rw [skipL, if_neg c1, if_pos c2])
      rw [if_neg (fun e => c2 ((byteEq 9 (k := 9) rfl).1 e))]
      refine ⟨inLoHere pre _, hasPrefix_wp ?_⟩
      simp only [s55x0, tw_needR, tw_needT, true_and, tw_nm, tw_ite, tw_need, tw_jump, tw_callT, tw_done]
      by_cases c3 : [92, 10] <+: c :: r
      · rw [if_pos (decide_eq_true c3)]
        obtain ⟨u, hu⟩ := c3
        have hu' : r.drop 1 = u := by
          have : c :: r = 92 :: 10 :: u := hu.symm
          cases this; rfl
        refine go [92, 10] u hu.symm (by simp) ?_
        rw [skipL, if_neg c1, if_neg c2, if_pos ⟨u, hu⟩, hu']
      rw [if_neg (by simpa using c3)]
      by_cases c4 : c = 35
      · rw [if_pos ((byteEq 35 (k := 35) rfl).2 c4)]
        refine ⟨inLoHere pre _, runC_wp (by simp; omega) ?_⟩
        have hq : lineB c = true := by rw [c4]; rfl
        have tl : ((c :: r).takeWhile lineB).length ≤ r.length + 1 := by
          have := (List.takeWhile_prefix lineB (l := c :: r)).length_le
          simpa using this
        have w3 : IntKind.wrap .i64 (((pre.length : Nat) : Int) + ((((c :: r).takeWhile lineB).length : Nat) : Int)) = ((pre.length + ((c :: r).takeWhile lineB).length : Nat) : Int) := by rw [wrap64 (by omega) (by omega)]; omega
        simp only [s38x0, tw_needR, tw_needT, true_and, tw_nm, tw_need, tw_jump, w3]
        refine go ((c :: r).takeWhile lineB) (r.dropWhile lineB) ?_ ?_ ?_
        · rw [List.takeWhile_cons, if_pos hq, List.cons_append, List.takeWhile_append_dropWhile]
        · rw [List.takeWhile_cons, if_pos hq]; simp
        · rw [skipL, if_neg c1, if_neg c2, if_neg c3, if_pos c4]
      rw [if_neg (fun e => c4 ((byteEq 35 (k := 35) rfl).1 e))]
      rw [skipL, if_neg c1, if_neg c2, if_neg c3, if_neg c4] at h
      have e : (pre ++ c :: r).length - (c :: r).length = pre.length := by simp
      rw [e] at h
      exact h
theorem skip_wp {l : List Tk} {pre r : List UInt8} (hs : pre.length + r.length ≤ 8000) (h : K (rok (pre ++ r) ((pre ++ r).length - (skipL r).length) l)) : lay.Wp 32 0 [.str (pre ++ r), .int .i64 ((pre.length : Nat) : Int), .sl (avs l)] K := by
  refine Lay.wp_of h32 (fun call => e32x0 call _ _ _) ?_
  unfold t32x0
  simp only [tw_needR, tw_needT, true_and, tw_jump]
  exact skip_loop l _ r pre (Nat.le_refl _) hs h
/-! ### names, numbers -/
theorem among_wp {l s : List UInt8} (hl : l.length < 4294967281) (hs : s.length ≤ 281474976710000) (h : K (.ret (.bool (amongB l s), .no), ⟨[], []⟩)) : lay.Wp 35 0 [.str l, .str s] K := by
  refine Lay.wp_of h35 (fun call => e35x0 call _ _) ?_
  unfold t35x0
  simp only [tw_nm, tw_ite, tw_need, tw_done]
  have hm : maxStr = 281474976710656 := rfl
  unfold amongB at h
  by_cases c : (s == []) = true
  · rw [if_neg (by simp [c])]
    simp only [c, Bool.not_true, Bool.false_and] at h
    exact h
  · have c' : (s == []) = false := by simpa using c
    rw [if_pos (by simp [c'])]
    simp only [c', Bool.not_false, Bool.true_and] at h
    exact ⟨by omega, by simp; omega, hl, h⟩
theorem name_tail {f : FuncId} {s : List UInt8} {p : Nat} {l : List Tk} {x : TR} (h : K (stepOut s p l x)) :
    (outT o57x0 (stepOut s p l x) (fun (i8 : Int) (i9 : Int) (s10 : List UInt8) (i11 : Int) (l12 : List AV) =>
      .need ((AV.lows 0 l12) = Bool.true) <|
      .done ((.panic (.iface 45 (.agg [(.int .i64 i8), (.int .i64 i9)]))), ⟨[[((.str s10), .no), ((.int .i64 i11), .no), ((.sl l12), (.tok 0))]], [(List.length l12)]⟩))
       (outT o57x1 (stepOut s p l x) (fun (s5 : List UInt8) (i6 : Int) (l7 : List AV) =>
      .need ((AV.lows 0 l7) = Bool.true) <|
      .done ((.ret ((.tup []), (.agg []))), ⟨[[((.str s5), .no), ((.int .i64 i6), .no), ((.sl l7), (.tok 0))]], [(List.length l7)]⟩))
       (.fail))).wp lay.ev f K := by
  rcases stepOut_cases s p l x with ⟨w, e⟩ | ⟨k, t, n, e⟩
  · rw [e] at h ⊢
    simp only [s57x0, tw_needR, tw_needT, true_and, tw_need, tw_done]
    exact ⟨avs_lows l, h⟩
  · rw [e] at h ⊢
    simp only [n57x0x1, s57x1, tw_needR, tw_needT, true_and, tw_need, tw_done]
    exact ⟨avs_lows _, h⟩
theorem text_tail {f : FuncId} {s : List UInt8} {p : Nat} {l : List Tk} {x : TR} (h : K (stepOut s p l x)) :
    (outT o60x0 (stepOut s p l x) (fun (i8 : Int) (i9 : Int) (s10 : List UInt8) (i11 : Int) (l12 : List AV) =>
      .need ((AV.lows 0 l12) = Bool.true) <|
      .done ((.panic (.iface 45 (.agg [(.int .i64 i8), (.int .i64 i9)]))), ⟨[[((.str s10), .no), ((.int .i64 i11), .no), ((.sl l12), (.tok 0))]], [(List.length l12)]⟩))
       (outT o60x1 (stepOut s p l x) (fun (s5 : List UInt8) (i6 : Int) (l7 : List AV) =>
      .need ((AV.lows 0 l7) = Bool.true) <|
      .done ((.ret ((.tup []), (.agg []))), ⟨[[((.str s5), .no), ((.int .i64 i6), .no), ((.sl l7), (.tok 0))]], [(List.length l7)]⟩))
       (.fail))).wp lay.ev f K := by
  rcases stepOut_cases s p l x with ⟨w, e⟩ | ⟨k, t, n, e⟩
  · rw [e] at h ⊢
    simp only [s60x0, tw_needR, tw_needT, true_and, tw_need, tw_done]
    exact ⟨avs_lows l, h⟩
  · rw [e] at h ⊢
    simp only [n60x0x1, s60x1, tw_needR, tw_needT, true_and, tw_need, tw_done]
    exact ⟨avs_lows _, h⟩
theorem pat_tail {f : FuncId} {s : List UInt8} {p : Nat} {l : List Tk} {x : TR} (h : K (stepOut s p l x)) :
    (outT o62x0 (stepOut s p l x) (fun (i8 : Int) (i9 : Int) (s10 : List UInt8) (i11 : Int) (l12 : List AV) =>
      .need ((AV.lows 0 l12) = Bool.true) <|
      .done ((.panic (.iface 45 (.agg [(.int .i64 i8), (.int .i64 i9)]))), ⟨[[((.str s10), .no), ((.int .i64 i11), .no), ((.sl l12), (.tok 0))]], [(List.length l12)]⟩))
       (outT o62x1 (stepOut s p l x) (fun (s5 : List UInt8) (i6 : Int) (l7 : List AV) =>
      .need ((AV.lows 0 l7) = Bool.true) <|
      .done ((.ret ((.tup []), (.agg []))), ⟨[[((.str s5), .no), ((.int .i64 i6), .no), ((.sl l7), (.tok 0))]], [(List.length l7)]⟩))
       (.fail))).wp lay.ev f K := by
  rcases stepOut_cases s p l x with ⟨w, e⟩ | ⟨k, t, n, e⟩
  · rw [e] at h ⊢
    simp only [s62x0, tw_needR, tw_needT, true_and, tw_need, tw_done]
    exact ⟨avs_lows l, h⟩
  · rw [e] at h ⊢
    simp only [n62x0x1, s62x1, tw_needR, tw_needT, true_and, tw_need, tw_done]
    exact ⟨avs_lows _, h⟩
theorem sign_tail {f : FuncId} {s : List UInt8} {p : Nat} {l : List Tk} {x : TR} (h : K (stepOut s p l x)) :
    (outT o63x0 (stepOut s p l x) (fun (s5 : List UInt8) (i6 : Int) (l7 : List AV) =>
      .need ((AV.lows 0 l7) = Bool.true) <|
      .done ((.ret ((.tup []), (.agg []))), ⟨[[((.str s5), .no), ((.int .i64 i6), .no), ((.sl l7), (.tok 0))]], [(List.length l7)]⟩))
       (outT o63x1 (stepOut s p l x) (fun (i8 : Int) (i9 : Int) (s10 : List UInt8) (i11 : Int) (l12 : List AV) =>
      .need ((AV.lows 0 l12) = Bool.true) <|
      .done ((.panic (.iface 45 (.agg [(.int .i64 i8), (.int .i64 i9)]))), ⟨[[((.str s10), .no), ((.int .i64 i11), .no), ((.sl l12), (.tok 0))]], [(List.length l12)]⟩))
       (.fail))).wp lay.ev f K := by
  rcases stepOut_cases s p l x with ⟨w, e⟩ | ⟨k, t, n, e⟩
  · rw [e] at h ⊢
    simp only [n63x0x1, s63x1, tw_needR, tw_needT, true_and, tw_need, tw_done]
    exact ⟨avs_lows l, h⟩
  · rw [e] at h ⊢
    simp only [s63x0, tw_needR, tw_needT, true_and, tw_need, tw_done]
    exact ⟨avs_lows _, h⟩
theorem prefixTake {α : Type} {a r : List α} (h : a <+: r) : r.take a.length = a := (List.prefix_iff_eq_take.1 h).symm
theorem byteAt_opt {s : List UInt8} {n : Nat} {b : UInt8} (h : s[n]? = some b) : byteAt s (n : Int) = some ((b.toNat : Nat) : Int) := by
  obtain ⟨h1, h2⟩ := List.getElem?_eq_some_iff.1 h
  rw [byteAt_nat h1, h2]
theorem name_step {l : List Tk} {pre r : List UInt8} (hl : l.length ≤ 3000) (hs : pre.length + r.length ≤ 8000) (h : K (stepOut (pre ++ r) pre.length l (nameF r))) : lay.Wp 57 0 [.str (pre ++ r), .int .i64 ((pre.length : Nat) : Int), .sl (avs l)] K := by
  have hw : (r.takeWhile innerB).length ≤ r.length := (List.takeWhile_prefix innerB (l := r)).length_le
  generalize hwe : r.takeWhile innerB = w at hw
  unfold nameF at h
  simp only [hwe] at h
  have w1 : IntKind.wrap .i64 (((pre.length : Nat) : Int) + ((w.length : Nat) : Int)) = ((pre.length + w.length : Nat) : Int) := by rw [wrap64 (by omega) (by omega)]; omega
  refine Lay.wp_of h57 (fun call => e57x0 call _ _ _) ?_
  unfold t57x0
  simp only [dropHere, tw_need, tw_callT]
  refine ⟨inLoHere pre _, runA_wp (by omega) ?_⟩
  simp only [hwe, s38x0, tw_needR, tw_needT, true_and, tw_nm, tw_ite, tw_need, tw_callT, w1]
  by_cases c1 : 40 < w.length
  · rw [if_pos (by simp; omega)]
    rw [if_pos c1] at h
    refine ⟨avs_lows l, fail_wp ?_⟩
    simp only [s64x0, tw_needR, tw_needT, true_and, tw_need, tw_done]
    exact ⟨avs_lows l, h⟩
  rw [if_neg (by simp; omega)]
  rw [if_neg c1] at h
  refine among_wp (l := wordsL) (by decide) (by omega) ?_
  simp only [s35x0, tw_needR, tw_needT, true_and, tw_nm, tw_ite, tw_need, tw_callT]
  by_cases c2 : amongB wordsL w = true
  · rw [if_pos c2]
    rw [if_pos c2] at h
    exact ⟨avs_lows l, put_step hl (by omega) (by omega) (put_tail h)⟩
  rw [if_neg c2]
  rw [if_neg c2] at h
  refine among_wp (l := ownsL) (by decide) (by omega) ?_
  simp only [s35x0, tw_needR, tw_needT, true_and, tw_nm, tw_ite, tw_need, tw_callT]
  by_cases c3 : amongB ownsL w = true
  · rw [if_pos c3]
    rw [if_pos c3] at h
    exact ⟨avs_lows l, put_step hl (by omega) (by omega) (put_tail h)⟩
  rw [if_neg c3]
  rw [if_neg c3] at h
  by_cases c4 : w.length < r.length
  · rw [if_pos (by simp; omega)]
    have hb : (pre ++ r)[pre.length + w.length]? = some r[w.length] := by
      rw [List.getElem?_append_right (by omega), Nat.add_sub_cancel_left, List.getElem?_eq_getElem c4]
    have hr : r[w.length]? = some r[w.length] := List.getElem?_eq_getElem c4
    simp only [byteAt_opt hb, tw_bindS, tw_nm, tw_ite, tw_need, tw_needR, tw_needT, true_and, tw_callT]
    by_cases c5 : r[w.length] = 40
    · rw [if_pos ((byteEq 40 (k := 40) rfl).2 c5)]
      rw [hr, c5, if_pos rfl] at h
      exact ⟨avs_lows l, put_step hl (by omega) (by omega) (put_tail h)⟩
    · rw [if_neg (fun e => c5 ((byteEq 40 (k := 40) rfl).1 e))]
      rw [hr, if_neg (by simpa using c5)] at h
      exact ⟨avs_lows l, put_step hl (by omega) (by omega) (put_tail h)⟩
  · rw [if_neg (by simp; omega)]
    rw [if_neg (by rw [List.getElem?_eq_none (by omega)]; simp)] at h
    exact ⟨avs_lows l, put_step hl (by omega) (by omega) (put_tail h)⟩
theorem number_wp {r : List UInt8} (hs : r.length ≤ 8000) (h : K (.ret (.str (numL r), .no), ⟨[], []⟩)) : lay.Wp 59 0 [.str r] K := by
  have hw : (r.takeWhile digitB).length ≤ r.length := (List.takeWhile_prefix digitB (l := r)).length_le
  generalize hwe : r.takeWhile digitB = w at hw
  unfold numL at h
  simp only [hwe] at h
  have w1 : IntKind.wrap .i64 (((w.length : Nat) : Int) + 1) = ((w.length + 1 : Nat) : Int) := by rw [wrap64 (by omega) (by omega)]; omega
  refine Lay.wp_of h59 (fun call => e59x0 call _) ?_
  unfold t59x0
  simp only [tw_callT]
  refine runB_wp (by omega) ?_
  simp only [hwe, s38x0, tw_needR, tw_needT, true_and, tw_nm, tw_ite, tw_need, tw_callT, tw_done, w1]
  by_cases c4 : w.length < r.length
  · rw [if_pos (by simp; omega)]
    have hr : r[w.length]? = some r[w.length] := List.getElem?_eq_getElem c4
    simp only [byteAt_opt hr, tw_bindS, tw_nm, tw_ite, tw_need, tw_needR, tw_needT, true_and, tw_callT, tw_done]
    by_cases c5 : r[w.length] = 46
    · rw [if_pos ((byteEq 46 (k := 46) rfl).2 c5)]
      rw [hr, c5, if_pos rfl] at h
      refine ⟨⟨by omega, by omega⟩, ?_⟩
      rw [List.take_length, Int.toNat_natCast]
      refine runB_wp (by simp; omega) ?_
      have hw2 : ((r.drop (w.length + 1)).takeWhile digitB).length ≤ r.length - (w.length + 1) := by
        have := (List.takeWhile_prefix digitB (l := r.drop (w.length + 1))).length_le
        simpa using this
      have w2 : IntKind.wrap .i64 (((w.length + 1 : Nat) : Int) + ((((r.drop (w.length + 1)).takeWhile digitB).length : Nat) : Int)) = ((w.length + 1 + ((r.drop (w.length + 1)).takeWhile digitB).length : Nat) : Int) := by rw [wrap64 (by omega) (by omega)]; omega
      simp only [s38x0, tw_needR, tw_needT, true_and, tw_nm, tw_need, tw_done, w2]
      exact ⟨⟨by omega, by omega⟩, by rw [List.drop_zero, Int.toNat_natCast]; exact h⟩
    · rw [if_neg (fun e => c5 ((byteEq 46 (k := 46) rfl).1 e))]
      rw [hr, if_neg (by simpa using c5)] at h
      exact ⟨⟨by omega, by omega⟩, by rw [List.drop_zero, Int.toNat_natCast]; exact h⟩
  · rw [if_neg (by simp; omega)]
    rw [if_neg (by rw [List.getElem?_eq_none (by omega)]; simp)] at h
    exact ⟨⟨by omega, by omega⟩, by rw [List.drop_zero, Int.toNat_natCast]; exact h⟩
/-! ### texts -/
theorem headOf {r : List UInt8} (h : 0 < r.length) : ∃ d r', r = d :: r' := by
  cases r with
  | nil => simp at h
  | cons d r => exact ⟨d, r, rfl⟩
theorem text_step {p : Nat} {l : List Tk} (hl : l.length ≤ 3000) : ∀ (n : Nat) (r pre acc : List UInt8), r.length ≤ n → pre.length + r.length ≤ 8000 → acc.length ≤ 2 * pre.length → p ≤ pre.length →
    K (stepOut (pre ++ r) p l (spanT 3 acc (pre.length - p) (textL r))) →
    lay.Wp 60 1 [.int .i64 ((pre.length : Nat) : Int), .str (pre ++ r), .int .i64 (p : Nat), .sl (avs l), .buf 5 acc] K := by
  intro n
  have hk : Ab.maxLen = 4294967296 := rfl
  induction n with
  | zero =>
    intro r pre acc hn hs ha hp h
    have : r = [] := List.length_eq_zero_iff.1 (by omega)
    subst this
    refine Lay.wp_of h60 (fun call => e60x1 call _ _ _ _ _) ?_
    unfold t60x1
    simp only [tw_nm, tw_ite, tw_need, tw_needR, tw_needT, true_and, tw_callT]
    rw [if_neg (by simp)]
    refine ⟨avs_lows l, fail_wp ?_⟩
    simp only [s64x0, tw_needR, tw_needT, true_and, tw_need, tw_done]
    rw [textL] at h
    exact ⟨avs_lows l, h⟩
  | succ n ih =>
    intro r pre acc hn hs ha hp h
    cases r with
    | nil =>
      refine Lay.wp_of h60 (fun call => e60x1 call _ _ _ _ _) ?_
      unfold t60x1
      simp only [tw_nm, tw_ite, tw_need, tw_needR, tw_needT, true_and, tw_callT]
      rw [if_neg (by simp)]
      refine ⟨avs_lows l, fail_wp ?_⟩
      simp only [s64x0, tw_needR, tw_needT, true_and, tw_need, tw_done]
      rw [textL] at h
      exact ⟨avs_lows l, h⟩
    | cons c r =>
      simp only [List.length_cons] at hn hs
      have w1 : IntKind.wrap .i64 (((pre.length : Nat) : Int) + 1) = ((pre.length + 1 : Nat) : Int) := by rw [wrap64 (by omega) (by omega)]; omega
      have w2 : IntKind.wrap .i64 (((pre.length + 1 : Nat) : Int) + 1) = ((pre.length + 2 : Nat) : Int) := by rw [wrap64 (by omega) (by omega)]; omega
      have w3 : IntKind.wrap .i64 (((pre.length + 1 : Nat) : Int) - ((p : Nat) : Int)) = ((pre.length - p + 1 : Nat) : Int) := by rw [wrap64 (by omega) (by omega)]; omega
      have go (acc' r' e : List UInt8) (he : c :: r = e ++ r') (hl1 : 1 ≤ e.length) (hl2 : acc'.length ≤ acc.length + 2) (hx : K (stepOut (pre ++ c :: r) p l (spanT 3 acc' (pre.length - p + e.length) (textL r')))) :
          lay.Wp 60 1 [.int .i64 ((pre.length + e.length : Nat) : Int), .str (pre ++ c :: r), .int .i64 (p : Nat), .sl (avs l), .buf 5 acc'] K := by
        have len : (c :: r).length = e.length + r'.length := by rw [he, List.length_append]
        simp only [List.length_cons] at len
        have x := ih r' (pre ++ e) acc' (by omega) (by simp; omega) (by simp; omega) (by simp; omega)
        rw [List.append_assoc, ← he, List.length_append, show pre.length + e.length - p = pre.length - p + e.length by omega] at x
        exact x hx
      rw [textL] at h
      refine Lay.wp_of h60 (fun call => e60x1 call _ _ _ _ _) ?_
      unfold t60x1
      simp only [byteAt_app, w1, w3, tw_nm, tw_ite, tw_bindS, tw_needR, tw_needT, true_and, tw_need, tw_callT]
      rw [if_pos (by simp; omega)]
      by_cases c1 : c = 10
      · rw [if_pos ((byteEq 10 (k := 10) rfl).2 c1)]
        rw [if_pos c1] at h
        refine ⟨avs_lows l, fail_wp ?_⟩
        simp only [s64x0, tw_needR, tw_needT, true_and, tw_need, tw_done]
        exact ⟨avs_lows l, h⟩
      rw [if_neg (fun e => c1 ((byteEq 10 (k := 10) rfl).1 e))]
      rw [if_neg c1] at h
      by_cases c2 : c = 34
      · rw [if_pos ((byteEq 34 (k := 34) rfl).2 c2)]
        rw [if_pos c2] at h
        refine bString_wp (by omega) ?_
        simp only [s44x0, w1, w3, tw_needR, tw_needT, true_and, tw_nm, tw_need, tw_callT]
        simp only [spanT, List.append_nil] at h
        exact ⟨avs_lows l, put_step hl (by omega) (by omega) (put_tail2 h)⟩
      rw [if_neg (fun e => c2 ((byteEq 34 (k := 34) rfl).1 e))]
      rw [if_neg c2] at h
      have plain (hx : K (stepOut (pre ++ c :: r) p l (spanT 3 acc (pre.length - p) (ahead [c] 1 (textL r))))) : lay.Wp 42 0 [.int .u8 ((c.toNat : Nat) : Int), .buf 5 acc] fun o => (outT o42x0 o (fun (s44 : List UInt8) =>
              .nm ((pre.length + 1 : Nat) : Int) fun (r45 : Int) =>
              .need True <|
              .jump 1 [(.int .i64 r45), (.str (pre ++ c :: r)), (.int .i64 (p : Nat)), (.sl (avs l)), (.buf 5 s44)])
               (.fail)).wp lay.ev 60 K := by
        refine writeByte_wp (by have := c.toNat_lt; omega) (by omega) ?_
        simp only [s42x0, tw_needR, tw_needT, true_and, tw_need, tw_nm, tw_jump, byteBack]
        rw [span_ahead] at hx
        exact go (acc ++ [c]) r [c] rfl (by simp) (by simp) hx
      by_cases c3 : c = 92
      · rw [if_pos ((byteEq 92 (k := 92) rfl).2 c3)]
        by_cases c4 : 0 < r.length
        · rw [if_pos (by simp; omega)]
          rw [if_pos ⟨c3, c4⟩] at h
          obtain ⟨d, r', rfl⟩ := headOf c4
          simp only [byteAt_app1, w2, tw_nm, tw_ite, tw_bindS, tw_needR, tw_needT, true_and, tw_need, tw_callT]
          refine stroke_wp (c := d) (r := strokeF d) rfl ?_
          simp only [s80x0, tw_needR, tw_needT, true_and, tw_callT]
          have hsl := strokeF_len d
          refine writeString_wp (by omega) ?_
          simp only [s43x0, tw_needR, tw_needT, true_and, tw_need, tw_nm, tw_ite, tw_bindS, tw_callT, tw_jump]
          have hd : ((d :: r')[0]? = some 10) ↔ d = 10 := by simp
          by_cases c5 : d = 10
          · rw [if_pos ((byteEq 10 (k := 10) rfl).2 c5)]
            rw [if_pos (hd.2 c5)] at h
            refine ⟨avs_lows l, fail_wp ?_⟩
            simp only [s64x0, tw_needR, tw_needT, true_and, tw_need, tw_done]
            exact ⟨avs_lows l, h⟩
          rw [if_neg (fun e => c5 ((byteEq 10 (k := 10) rfl).1 e))]
          rw [if_neg (fun e => c5 (hd.1 e)), span_ahead] at h
          exact go (acc ++ strokeF d) r' [c, d] rfl (by simp) (by simp; omega) h
        · rw [if_neg (by simp; omega)]
          rw [if_neg (fun e => c4 e.2)] at h
          exact plain h
      · rw [if_neg (fun e => c3 ((byteEq 92 (k := 92) rfl).1 e))]
        rw [if_neg (fun e => c3 e.1)] at h
        exact plain h
theorem text_wp {l : List Tk} {pre r : List UInt8} {c : UInt8} (hl : l.length ≤ 3000) (hs : pre.length + (c :: r).length ≤ 8000) (h : K (stepOut (pre ++ c :: r) pre.length l (spanT 3 [] 1 (textL r)))) :
    lay.Wp 60 0 [.str (pre ++ c :: r), .int .i64 ((pre.length : Nat) : Int), .sl (avs l)] K := by
  simp only [List.length_cons] at hs
  have w1 : IntKind.wrap .i64 (((pre.length : Nat) : Int) + 1) = ((pre.length + 1 : Nat) : Int) := by rw [wrap64 (by omega) (by omega)]; omega
  refine Lay.wp_of h60 (fun call => e60x0 call _ _ _) ?_
  unfold t60x0
  simp only [w1, tw_nm, tw_needR, tw_needT, true_and, tw_jump]
  have x := text_step (K := K) (p := pre.length) hl r.length r (pre ++ [c]) [] (Nat.le_refl _) (by simp; omega) (by simp) (by simp)
  rw [List.append_assoc, List.length_append] at x
  refine x ?_
  simpa using h
/-! ### patterns -/
def oI : Option Nat → Int
  | none => -1
  | some k => (k : Nat)
theorem oI_neg (o : Option Nat) : (decide (oI o < 0) = true) ↔ o = none := by
  cases o with
  | none => exact ⟨fun _ => rfl, fun _ => rfl⟩
  | some k => exact ⟨fun h => absurd (of_decide_eq_true h) (by show ¬ ((k : Nat) : Int) < 0; omega), fun h => by cases h⟩
theorem oI_ge (o : Option Nat) : (decide (oI o ≥ 0) = true) ↔ o ≠ none := by
  cases o with
  | none => exact ⟨fun h => absurd (of_decide_eq_true h) (by decide), fun h => (h rfl).elim⟩
  | some k => exact ⟨fun _ => by simp, fun _ => decide_eq_true (by show ((k : Nat) : Int) ≥ 0; omega)⟩
/-- what a byte that stands for itself does -/
def patC (i : Nat) (o : Option Nat) (c : UInt8) (r : List UInt8) : Option (List UInt8 × Nat) :=
  if c = 91 ∧ o = none then ahead [c] 1 (patL (i + 1) (some (if r[0]? = some 94 then i + 2 else i + 1)) r)
  else if c = 93 ∧ (∃ k, o = some k ∧ k < i) then ahead [c] 1 (patL (i + 1) none r)
  else if c = 47 ∧ o = none then some ([], 1)
  else ahead [c] 1 (patL (i + 1) o r)
theorem pat_round {p : Nat} {l : List Tk} (hl : l.length ≤ 3000) {r pre acc : List UInt8} {c : UInt8} {o : Option Nat} {b1 b2 b3 : Bool} (hs : pre.length + (c :: r).length ≤ 8000) (ha : acc.length ≤ 2 * pre.length) (hp : p ≤ pre.length)
    (ih : ∀ o' acc', acc'.length ≤ acc.length + 2 → K (stepOut (pre ++ c :: r) p l (spanT 4 acc' (pre.length - p + 1) (patL (pre.length + 1) o' r))) →
      lay.Wp 62 1 [.int .i64 (oI o'), .int .i64 ((pre.length + 1 : Nat) : Int), .str (pre ++ c :: r), .int .i64 (p : Nat), .sl (avs l), .buf 5 acc'] K)
    (h : K (stepOut (pre ++ c :: r) p l (spanT 4 acc (pre.length - p) (patC pre.length o c r)))) :
    lay.Wp 62 3 [.int .i64 (oI o), .int .i64 ((pre.length : Nat) : Int), .int .u8 ((c.toNat : Nat) : Int), .bool b1, .bool b2, .bool b3, .str (pre ++ c :: r), .int .i64 (p : Nat), .sl (avs l), .buf 5 acc] K := by
  have hk : Ab.maxLen = 4294967296 := rfl
  simp only [List.length_cons] at hs
  have hb : (0 : Int) ≤ ((c.toNat : Nat) : Int) ∧ ((c.toNat : Nat) : Int) < 256 := by have := c.toNat_lt; omega
  have w1 : IntKind.wrap .i64 (((pre.length : Nat) : Int) + 1) = ((pre.length + 1 : Nat) : Int) := by rw [wrap64 (by omega) (by omega)]; omega
  have w2 : IntKind.wrap .i64 (((pre.length + 1 : Nat) : Int) + 1) = ((pre.length + 2 : Nat) : Int) := by rw [wrap64 (by omega) (by omega)]; omega
  have w3 : IntKind.wrap .i64 (((pre.length + 1 : Nat) : Int) - ((p : Nat) : Int)) = ((pre.length - p + 1 : Nat) : Int) := by rw [wrap64 (by omega) (by omega)]; omega
  have hd : List.drop (Int.toNat ((pre.length + 1 : Nat) : Int)) (List.take (pre ++ c :: r).length (pre ++ c :: r)) = r := by
    rw [List.take_length, Int.toNat_natCast, show pre ++ c :: r = (pre ++ [c]) ++ r by simp, show pre.length + 1 = (pre ++ [c]).length by simp, List.drop_left]
  -- the last piece
  have six (b4 b5 : Bool) (h : K (stepOut (pre ++ c :: r) p l (spanT 4 acc (pre.length - p) (if c = 47 ∧ o = none then some ([], 1) else ahead [c] 1 (patL (pre.length + 1) o r))))) :
      lay.Wp 62 6 [.int .i64 (oI o), .int .i64 ((pre.length : Nat) : Int), .int .u8 ((c.toNat : Nat) : Int), .bool b1, .bool b2, .bool b3, .bool b4, .bool b5, .str (pre ++ c :: r), .int .i64 (p : Nat), .sl (avs l), .buf 5 acc] K := by
    refine Lay.wp_of h62 (fun call => e62x6 call _ _ _ _ _ _ _ _ _ _ _ _) ?_
    unfold t62x6
    simp only [w1, w3, tw_nm, tw_ite, tw_needR, tw_needT, true_and, tw_need, tw_callT]
    have plain (h : K (stepOut (pre ++ c :: r) p l (spanT 4 acc (pre.length - p) (ahead [c] 1 (patL (pre.length + 1) o r))))) : lay.Wp 42 0 [.int .u8 ((c.toNat : Nat) : Int), .buf 5 acc] fun o' => (outT o42x0 o' (fun (s26 : List UInt8) =>
        .nm ((pre.length + 1 : Nat) : Int) fun (r27 : Int) =>
        .need True <|
        .jump 1 [(.int .i64 (oI o)), (.int .i64 r27), (.str (pre ++ c :: r)), (.int .i64 (p : Nat)), (.sl (avs l)), (.buf 5 s26)])
         (.fail)).wp lay.ev 62 K := by
      refine writeByte_wp hb (by omega) ?_
      simp only [s42x0, tw_needR, tw_needT, true_and, tw_need, tw_nm, tw_jump, byteBack]
      rw [span_ahead] at h
      exact ih o _ (by simp) h
    by_cases c1 : c = 47
    · rw [if_pos ((byteEq 47 (k := 47) rfl).2 c1)]
      by_cases c2 : o = none
      · rw [if_pos ((oI_neg o).2 c2)]
        rw [if_pos ⟨c1, c2⟩] at h
        refine bString_wp (by omega) ?_
        simp only [s44x0, w1, w3, tw_needR, tw_needT, true_and, tw_nm, tw_need, tw_callT]
        simp only [spanT, List.append_nil] at h
        exact ⟨avs_lows l, put_step hl (by omega) (by omega) (put_tail2 h)⟩
      · rw [if_neg (fun e => c2 ((oI_neg o).1 e))]
        rw [if_neg (fun e => c2 e.2)] at h
        exact plain h
    · rw [if_neg (fun e => c1 ((byteEq 47 (k := 47) rfl).1 e))]
      rw [if_neg (fun e => c1 e.1)] at h
      exact plain h
  have five (b4 : Bool) (h : K (stepOut (pre ++ c :: r) p l (spanT 4 acc (pre.length - p) (if c = 93 ∧ (∃ k, o = some k ∧ k < pre.length) then ahead [c] 1 (patL (pre.length + 1) none r) else if c = 47 ∧ o = none then some ([], 1) else ahead [c] 1 (patL (pre.length + 1) o r))))) :
      lay.Wp 62 5 [.int .i64 (oI o), .int .i64 ((pre.length : Nat) : Int), .int .u8 ((c.toNat : Nat) : Int), .bool b1, .bool b2, .bool b3, .bool b4, .str (pre ++ c :: r), .int .i64 (p : Nat), .sl (avs l), .buf 5 acc] K := by
    refine Lay.wp_of h62 (fun call => e62x5 call _ _ _ _ _ _ _ _ _ _ _) ?_
    unfold t62x5
    simp only [w1, tw_nm, tw_ite, tw_needR, tw_needT, true_and, tw_need, tw_callT, tw_jump]
    by_cases c1 : c = 93
    · rw [if_pos ((byteEq 93 (k := 93) rfl).2 c1)]
      cases o with
      | none =>
        rw [if_neg (by simp [oI])]
        rw [if_neg (by simp)] at h
        exact six _ _ h
      | some k =>
        rw [if_pos (by simp [oI])]
        by_cases c2 : k < pre.length
        · rw [if_pos (by simp [oI]; omega)]
          rw [if_pos ⟨c1, k, rfl, c2⟩, span_ahead] at h
          refine writeByte_wp hb (by omega) ?_
          simp only [s42x0, tw_needR, tw_needT, true_and, tw_need, tw_nm, tw_jump, byteBack]
          exact ih none _ (by simp) h
        · rw [if_neg (by simp [oI]; omega)]
          rw [if_neg (by rintro ⟨_, k', e, hlt⟩; cases e; exact c2 hlt)] at h
          exact six _ _ h
    · rw [if_neg (fun e => c1 ((byteEq 93 (k := 93) rfl).1 e))]
      rw [if_neg (fun e => c1 e.1)] at h
      exact six _ _ h
  unfold patC at h
  refine Lay.wp_of h62 (fun call => e62x3 call _ _ _ _ _ _ _ _ _ _) ?_
  unfold t62x3
  simp only [tw_nm, tw_ite, tw_needR, tw_needT, true_and, tw_need, tw_callT, tw_jump]
  by_cases c1 : c = 91
  · rw [if_pos ((byteEq 91 (k := 91) rfl).2 c1)]
    by_cases c2 : o = none
    · rw [if_pos ((oI_neg o).2 c2)]
      rw [if_pos ⟨c1, c2⟩, span_ahead] at h
      refine Lay.wp_of h62 (fun call => e62x4 call _ _ _ _ _ _ _ _ _ _ _) ?_
      unfold t62x4
      simp only [w1, w2, hd, tw_nm, tw_ite, tw_needR, tw_needT, true_and, tw_need, tw_callT, tw_jump]
      refine ⟨⟨by omega, by simp; omega⟩, hasPrefix_wp ?_⟩
      simp only [s55x0, tw_needR, tw_needT, true_and, tw_nm, tw_ite, tw_need, tw_callT]
      by_cases c3 : r[0]? = some 94
      · have hp : [94] <+: r := by
          cases r with
          | nil => simp at c3
          | cons d r => simp at c3; exact ⟨r, by rw [c3]; rfl⟩
        rw [if_pos (decide_eq_true hp)]
        rw [if_pos c3] at h
        refine writeByte_wp hb (by omega) ?_
        simp only [s42x0, tw_needR, tw_needT, true_and, tw_need, tw_nm, tw_jump, byteBack]
        exact ih (some (pre.length + 2)) _ (by simp) h
      · have hp : ¬ [94] <+: r := by
          rintro ⟨u, rfl⟩
          exact c3 rfl
        rw [if_neg (by simpa using hp)]
        rw [if_neg c3] at h
        refine writeByte_wp hb (by omega) ?_
        simp only [s42x0, tw_needR, tw_needT, true_and, tw_need, tw_nm, tw_jump, byteBack]
        exact ih (some (pre.length + 1)) _ (by simp) h
    · rw [if_neg (fun e => c2 ((oI_neg o).1 e))]
      rw [if_neg (fun e => c2 e.2)] at h
      exact five _ h
  · rw [if_neg (fun e => c1 ((byteEq 91 (k := 91) rfl).1 e))]
    rw [if_neg (fun e => c1 e.1)] at h
    exact five _ h
theorem pat_step {p : Nat} {l : List Tk} (hl : l.length ≤ 3000) : ∀ (n : Nat) (r pre acc : List UInt8) (o : Option Nat), r.length ≤ n → pre.length + r.length ≤ 8000 → acc.length ≤ 2 * pre.length → p ≤ pre.length →
    K (stepOut (pre ++ r) p l (spanT 4 acc (pre.length - p) (patL pre.length o r))) →
    lay.Wp 62 1 [.int .i64 (oI o), .int .i64 ((pre.length : Nat) : Int), .str (pre ++ r), .int .i64 (p : Nat), .sl (avs l), .buf 5 acc] K := by
  intro n
  have hk : Ab.maxLen = 4294967296 := rfl
  induction n with
  | zero =>
    intro r pre acc o hn hs ha hp h
    have : r = [] := List.length_eq_zero_iff.1 (by omega)
    subst this
    refine Lay.wp_of h62 (fun call => e62x1 call _ _ _ _ _ _) ?_
    unfold t62x1
    simp only [tw_nm, tw_ite, tw_need, tw_needR, tw_needT, true_and, tw_callT]
    rw [if_neg (by simp)]
    refine ⟨avs_lows l, fail_wp ?_⟩
    simp only [s64x0, tw_needR, tw_needT, true_and, tw_need, tw_done]
    rw [patL] at h
    exact ⟨avs_lows l, h⟩
  | succ n ih =>
    intro r pre acc o hn hs ha hp h
    cases r with
    | nil =>
      refine Lay.wp_of h62 (fun call => e62x1 call _ _ _ _ _ _) ?_
      unfold t62x1
      simp only [tw_nm, tw_ite, tw_need, tw_needR, tw_needT, true_and, tw_callT]
      rw [if_neg (by simp)]
      refine ⟨avs_lows l, fail_wp ?_⟩
      simp only [s64x0, tw_needR, tw_needT, true_and, tw_need, tw_done]
      rw [patL] at h
      exact ⟨avs_lows l, h⟩
    | cons c r =>
      simp only [List.length_cons] at hn hs
      have w1 : IntKind.wrap .i64 (((pre.length : Nat) : Int) + 1) = ((pre.length + 1 : Nat) : Int) := by rw [wrap64 (by omega) (by omega)]; omega
      have w2 : IntKind.wrap .i64 (((pre.length + 1 : Nat) : Int) + 1) = ((pre.length + 2 : Nat) : Int) := by rw [wrap64 (by omega) (by omega)]; omega
      have go (o' : Option Nat) (acc' r' e : List UInt8) (he : c :: r = e ++ r') (hl1 : 1 ≤ e.length) (hl2 : acc'.length ≤ acc.length + 2) (hx : K (stepOut (pre ++ c :: r) p l (spanT 4 acc' (pre.length - p + e.length) (patL (pre.length + e.length) o' r')))) :
          lay.Wp 62 1 [.int .i64 (oI o'), .int .i64 ((pre.length + e.length : Nat) : Int), .str (pre ++ c :: r), .int .i64 (p : Nat), .sl (avs l), .buf 5 acc'] K := by
        have len : (c :: r).length = e.length + r'.length := by rw [he, List.length_append]
        simp only [List.length_cons] at len
        have x := ih r' (pre ++ e) acc' o' (by omega) (by simp; omega) (by simp; omega) (by simp; omega)
        rw [List.append_assoc, ← he, List.length_append, show pre.length + e.length - p = pre.length - p + e.length by omega] at x
        exact x hx
      have round (b1 b2 b3 : Bool) (h : K (stepOut (pre ++ c :: r) p l (spanT 4 acc (pre.length - p) (patC pre.length o c r)))) :=
        pat_round (K := K) hl (b1 := b1) (b2 := b2) (b3 := b3) (by simp; omega) ha hp (fun o' acc' h1 h2 => go o' acc' r [c] rfl (by simp) h1 h2) h
      rw [patL] at h
      refine Lay.wp_of h62 (fun call => e62x1 call _ _ _ _ _ _) ?_
      unfold t62x1
      simp only [byteAt_app, w1, tw_nm, tw_ite, tw_bindS, tw_needR, tw_needT, true_and, tw_need, tw_callT, tw_jump]
      rw [if_pos (by simp; omega)]
      by_cases c1 : c = 10
      · rw [if_pos ((byteEq 10 (k := 10) rfl).2 c1)]
        rw [if_pos c1] at h
        refine ⟨avs_lows l, fail_wp ?_⟩
        simp only [s64x0, tw_needR, tw_needT, true_and, tw_need, tw_done]
        exact ⟨avs_lows l, h⟩
      rw [if_neg (fun e => c1 ((byteEq 10 (k := 10) rfl).1 e))]
      rw [if_neg c1] at h
      by_cases c3 : c = 92
      · rw [if_pos ((byteEq 92 (k := 92) rfl).2 c3)]
        by_cases c4 : 0 < r.length
        · rw [if_pos (by simp; omega)]
          obtain ⟨d, r', rfl⟩ := headOf c4
          have hne : ((((d.toNat : Nat) : Int) != 10) = true) ↔ d ≠ 10 := by rw [bne_iff_ne, ne_eq, ← beq_iff_eq (a := ((d.toNat : Nat) : Int)), byteEq (b := d) 10 (k := 10) rfl]
          simp only [byteAt_app1, tw_nm, tw_ite, tw_bindS, tw_needR, tw_needT, true_and, tw_need, tw_callT, tw_jump]
          have hd : ((d :: r')[0]? = some 10) ↔ d = 10 := by simp
          by_cases c5 : d = 10
          · rw [if_neg (fun e => hne.1 e c5)]
            rw [if_neg (fun e => e.2.2 (hd.2 c5))] at h
            exact round _ _ _ h
          · rw [if_pos (hne.2 c5)]
            rw [if_pos ⟨c3, c4, fun e => c5 (hd.1 e)⟩, span_ahead] at h
            refine Lay.wp_of h62 (fun call => e62x2 call _ _ _ _ _ _ _ _ _ _) ?_
            unfold t62x2
            simp only [byteAt_app1, w1, w2, tw_nm, tw_ite, tw_bindS, tw_needR, tw_needT, true_and, tw_need, tw_callT, tw_jump]
            have hdb : (0 : Int) ≤ ((d.toNat : Nat) : Int) ∧ ((d.toNat : Nat) : Int) < 256 := by have := d.toNat_lt; omega
            have hn7 : ((((d.toNat : Nat) : Int) != 47) = true) ↔ d ≠ 47 := by rw [bne_iff_ne, ne_eq, ← beq_iff_eq (a := ((d.toNat : Nat) : Int)), byteEq (b := d) 47 (k := 47) rfl]
            have hx2 (acc : List UInt8) (h : acc.length + 2 ≤ Ab.maxLen) {b : UInt8} : (acc ++ [b]).length + 1 ≤ Ab.maxLen := by simp; omega
            have hd7 : ((d :: r')[0]? = some 47) ↔ d = 47 := by simp
            by_cases c6 : d = 47
            · rw [if_neg (fun e => hn7.1 e c6)]
              rw [if_pos (hd7.2 c6)] at h
              refine writeByte_wp hdb (by omega) ?_
              simp only [s42x0, tw_needR, tw_needT, true_and, tw_need, tw_nm, tw_jump, byteBack]
              subst c6
              exact go o (acc ++ [47]) r' [c, 47] rfl (by simp) (by simp) h
            · rw [if_pos (hn7.2 c6)]
              rw [if_neg (fun e => c6 (hd7.1 e))] at h
              refine writeByte_wp (by omega) (by omega) ?_
              simp only [s42x0, tw_bindS, tw_needR, tw_needT, true_and, tw_need, tw_nm, tw_callT]
              refine writeByte_wp hdb (hx2 acc (by omega)) ?_
              simp only [s42x0, tw_needR, tw_needT, true_and, tw_need, tw_nm, tw_jump, byteBack]
              refine go o _ r' [c, d] rfl (by simp) (by simp) ?_
              have e92 : UInt8.ofNat (Int.toNat 92) = 92 := rfl
              rw [e92, List.append_assoc]
              exact h
        · rw [if_neg (by simp; omega)]
          rw [if_neg (fun e => c4 e.2.1)] at h
          exact round _ _ _ h
      · rw [if_neg (fun e => c3 ((byteEq 92 (k := 92) rfl).1 e))]
        rw [if_neg (fun e => c3 e.1)] at h
        exact round _ _ _ h
theorem pattern_wp {l : List Tk} {pre r : List UInt8} {c : UInt8} (hl : l.length ≤ 3000) (hs : pre.length + (c :: r).length ≤ 8000) (h : K (stepOut (pre ++ c :: r) pre.length l (spanT 4 [] 1 (patL (pre.length + 1) none r)))) :
    lay.Wp 62 0 [.str (pre ++ c :: r), .int .i64 ((pre.length : Nat) : Int), .sl (avs l)] K := by
  simp only [List.length_cons] at hs
  have w1 : IntKind.wrap .i64 (((pre.length : Nat) : Int) + 1) = ((pre.length + 1 : Nat) : Int) := by rw [wrap64 (by omega) (by omega)]; omega
  refine Lay.wp_of h62 (fun call => e62x0 call _ _ _) ?_
  unfold t62x0
  simp only [w1, tw_nm, tw_needR, tw_needT, true_and, tw_jump]
  have x := pat_step (K := K) (p := pre.length) hl r.length r (pre ++ [c]) [] none (Nat.le_refl _) (by simp; omega) (by simp) (by simp)
  rw [List.append_assoc, List.length_append] at x
  refine x ?_
  simpa using h
/-! ### signs -/
theorem index_loop (l : List (List UInt8)) (s : List UInt8) (hl : l.length ≤ 1000) : ∀ (n i : Nat), l.length - i = n → i ≤ l.length →
    (∀ r : Int, ((0 ≤ r) ↔ s ∈ l.drop i) → K (.ret (.int .i64 r, .no), ⟨[], []⟩)) →
    lay.Wp 94 1 [.sl (l.map AV.str), .str s, .int .i64 (l.length : Nat), .int .i64 (i : Nat)] K := by
  intro n
  induction n with
  | zero =>
    intro i hn hi h
    refine Lay.wp_of h94 (fun call => e94x1 call _ _ _ _) ?_
    unfold t94x1
    simp only [tw_nm, tw_ite, tw_done]
    rw [if_neg (by simp; omega)]
    refine h _ ?_
    rw [List.drop_eq_nil_of_le (by omega)]
    simp
  | succ n ih =>
    intro i hn hi h
    have hlt : i < l.length := by omega
    have e : elemAt (l.map AV.str) (i : Int) = some [.str l[i]] := by
      unfold elemAt
      rw [if_pos (by omega), Int.toNat_natCast]
      simp [hlt, AV.cells]
    refine Lay.wp_of h94 (fun call => e94x1 call _ _ _ _) ?_
    unfold t94x1
    simp only [e, tw_nm, tw_ite, tw_done, tw_opnS, openC_str, openC_nil, tw_jump]
    rw [if_pos (by simp; omega)]
    rw [List.drop_eq_getElem_cons hlt] at h
    by_cases c : s = l[i]
    · rw [if_pos (by simpa using c)]
      exact h _ ⟨fun _ => by rw [c]; exact List.mem_cons_self .., fun _ => by omega⟩
    · rw [if_neg (by simpa using c), wrap64 (by omega) (by omega)]
      exact ih (i + 1) (by omega) (by omega) fun r hr => h r (by rw [hr, List.mem_cons]; simp [c])
theorem contains_wp {l : List (List UInt8)} {s : List UInt8} (hl : l.length ≤ 1000) (h : K (.ret (.bool (decide (s ∈ l)), .no), ⟨[], []⟩)) : lay.Wp 81 0 [.sl (l.map AV.str), .str s] K := by
  refine Lay.wp_of h81 (fun call => e81x0 call _ _) ?_
  unfold t81x0
  simp only [tw_need, tw_callT]
  refine ⟨by rw [lows_iff]; intro x hx; obtain ⟨t, _, rfl⟩ := List.mem_map.1 hx; rfl, ?_⟩
  refine Lay.wp_of h94 (fun call => e94x0 call _ _) ?_
  unfold t94x0
  simp only [tw_nm, tw_jump, List.length_map]
  refine index_loop l s hl _ 0 rfl (by omega) fun r hr => ?_
  simp only [s94x0, tw_needR, tw_needT, true_and, tw_nm, tw_done]
  have e : decide (r ≥ 0) = decide (s ∈ l) := by
    rw [List.drop_zero] at hr
    rw [Bool.eq_iff_iff, decide_eq_true_eq, decide_eq_true_eq]
    exact hr
  rw [e]
  exact h
theorem indexByte_wp {s : List UInt8} {c : UInt8} (h : ∀ r : Int, ((0 ≤ r) ↔ c ∈ s) → K (.ret (.int .i64 r, .no), ⟨[], []⟩)) : lay.Wp 54 0 [.str s, .int .u8 ((c.toNat : Nat) : Int)] K := by
  refine Lay.wp_of h54 (fun call => e54x0 call _ _) ?_
  unfold t54x0
  simp only [tw_callT]
  refine Lay.wp_of h78 (fun call => e78x0 call _ _) ?_
  unfold t78x0
  simp only [tw_nm, tw_done, s78x0, tw_needR, tw_needT, true_and]
  have e : Nat.toUInt8 (Int.toNat ((c.toNat : Nat) : Int)) = c := by simp
  rw [e]
  refine h _ ?_
  have := Go.Lib.contains_iff_indexByte s c
  rw [← decide_eq_true_eq (p := 0 ≤ Go.Lib.indexByte s c), ← this]
  simp
theorem sign_step {l : List Tk} {pre r : List UInt8} {c : UInt8} (hl : l.length ≤ 3000) (hs : pre.length + (c :: r).length ≤ 8000) (h : K (stepOut (pre ++ c :: r) pre.length l (signF (c :: r)))) :
    lay.Wp 63 0 [.str (pre ++ c :: r), .int .i64 ((pre.length : Nat) : Int), .sl (avs l)] K := by
  have hb0 : byteAt (c :: r) 0 = some ((c.toNat : Nat) : Int) := byteAt_nat (s := c :: r) (n := 0) (by simp)
  -- a sign of one byte
  have one (h : K (stepOut (pre ++ c :: r) pre.length l (if c ∈ signsL then .ok (9, [c], 1) else .error 4))) : lay.Wp 54 0 [(.str ([123, 125, 40, 41, 91, 93, 59, 44, 43, 45, 42, 47, 37, 60, 62, 33, 126, 63, 58, 61, 36] : List UInt8)), .int .u8 ((c.toNat : Nat) : Int)] fun o => (outT o54x0 o (fun (i34 : Int) =>
        .nm (decide (i34 < (0 : Int))) fun (b35 : Bool) =>
        .ite b35 (.need ((AV.lows 0 (avs l)) = Bool.true) <|
          .need True <|
          .call 64 0 [(.int .i64 (4 : Int)), (.str (pre ++ c :: r)), (.int .i64 ((pre.length : Nat) : Int)), (.sl (avs l))] fun o =>
            outT o64x0 o (fun (i36 : Int) (i37 : Int) (s38 : List UInt8) (i39 : Int) (l40 : List AV) =>
            .need ((AV.lows 0 l40) = Bool.true) <|
            .done ((.panic (.iface 45 (.agg [(.int .i64 i36), (.int .i64 i37)]))), ⟨[[((.str s38), .no), ((.int .i64 i39), .no), ((.sl l40), (.tok 0))]], [(List.length l40)]⟩))
             (.fail))
          (.need (inLo (1 : Int) (List.length (c :: r))) <|
          .need ((AV.lows 0 (avs l)) = Bool.true) <|
          .need True <|
          .call 34 0 [(.int .i64 (9 : Int)), (.str (List.drop 0 (List.take (Int.toNat (1 : Int)) (c :: r)))), (.int .i64 (1 : Int)), (.str (pre ++ c :: r)), (.int .i64 ((pre.length : Nat) : Int)), (.sl (avs l))] fun o =>
            outT o34x0 o (fun (i44 : Int) (i45 : Int) (s46 : List UInt8) (i47 : Int) (l48 : List AV) =>
            .need ((AV.lows 0 l48) = Bool.true) <|
            .done ((.panic (.iface 45 (.agg [(.int .i64 i44), (.int .i64 i45)]))), ⟨[[((.str s46), .no), ((.int .i64 i47), .no), ((.sl l48), (.tok 0))]], [(List.length l48)]⟩))
             (outT o34x1 o (fun (s41 : List UInt8) (i42 : Int) (l43 : List AV) =>
            .need ((AV.lows 0 l43) = Bool.true) <|
            .done ((.ret ((.tup []), (.agg []))), ⟨[[((.str s41), .no), ((.int .i64 i42), .no), ((.sl l43), (.tok 0))]], [(List.length l43)]⟩))
             (.fail))))
         (.fail)).wp lay.ev 63 K := by
    refine indexByte_wp (s := signsL) fun r1 hr1 => ?_
    simp only [s54x0, tw_needR, tw_needT, true_and, tw_nm, tw_ite, tw_need, tw_callT]
    by_cases c1 : c ∈ signsL
    · rw [if_neg (by simp; exact hr1.2 c1)]
      rw [if_pos c1] at h
      refine ⟨⟨by omega, by simp; omega⟩, avs_lows l, ?_⟩
      exact put_step (n := 1) hl (by omega) (by omega) (put_tail h)
    · rw [if_pos (by simp; exact Int.not_le.1 fun e => c1 (hr1.1 e))]
      rw [if_neg c1] at h
      refine ⟨avs_lows l, fail_wp ?_⟩
      simp only [s64x0, tw_needR, tw_needT, true_and, tw_need, tw_done]
      exact ⟨avs_lows l, h⟩
  unfold signF at h
  refine Lay.wp_of h63 (fun call => e63x0 call _ _ _) ?_
  unfold t63x0
  simp only [dropHere, hb0, tw_nm, tw_ite, tw_bindS, tw_needR, tw_needT, true_and, tw_need, tw_callT]
  refine ⟨inLoHere pre _, ?_⟩
  by_cases c1 : 1 < (c :: r).length
  · have c1' := c1
    simp only [List.length_cons] at c1'
    rw [if_pos (by simp; omega)]
    have hne : ((((c.toNat : Nat) : Int) != 32) = true) ↔ c ≠ 32 := by rw [bne_iff_ne, ne_eq, ← beq_iff_eq (a := ((c.toNat : Nat) : Int)), byteEq (b := c) 32 (k := 32) rfl]
    by_cases c2 : c = 32
    · rw [if_neg (fun e => hne.1 e c2)]
      rw [if_neg (fun e => e.2.1 (by simp [c2]))] at h
      exact one h
    · rw [if_pos (hne.2 c2)]
      have c1'' : 2 ≤ (c :: r).length := c1
      refine ⟨⟨by decide, by decide⟩, by rfl, ⟨by omega, by omega⟩, by rfl, contains_wp (l := pairsL) (by decide) ?_⟩
      have e2 : List.drop 0 (List.take (Int.toNat 2) (c :: r)) = (c :: r).take 2 := rfl
      simp only [e2, s81x0, tw_bindS, tw_needR, tw_needT, true_and, tw_nm, tw_ite, tw_need, tw_callT]
      by_cases c3 : (c :: r).take 2 ∈ pairsL
      · rw [if_pos (decide_eq_true c3)]
        rw [if_pos ⟨c1, by simpa using c2, c3⟩] at h
        refine ⟨⟨by omega, by omega⟩, avs_lows l, ?_⟩
        exact put_step (n := 2) hl (by omega) (by omega) (put_tail h)
      · rw [if_neg (fun e => c3 (of_decide_eq_true e))]
        rw [if_neg (fun e => c3 e.2.2)] at h
        exact one h
  · have c1' := c1
    simp only [List.length_cons] at c1'
    rw [if_neg (by simp; omega)]
    rw [if_neg (fun e => c1 e.1)] at h
    exact one h
/-! ### whether an operand may begin -/
theorem operand_wp {l : List Tk} {s : List UInt8} {p : Int} (hl : l.length ≤ 3000) (hts : ∀ t ∈ l, t.s.length ≤ 100000) (h : K (.ret (.bool (operandF l), .no), rdB s p (avs l))) : lay.Wp 61 0 [.str s, .int .i64 p, .sl (avs l)] K := by
  refine Lay.wp_of h61 (fun call => e61x0 call _ _ _) ?_
  unfold t61x0
  simp only [tw_nm, tw_ite, tw_done]
  rcases List.eq_nil_or_concat l with rfl | ⟨l', t, e0⟩
  · rw [if_pos (by simp)]
    exact h
  · rw [List.concat_eq_append] at e0
    subst e0
    rw [if_neg (by simp; omega)]
    have e : elemAt (avs (l' ++ [t])) (IntKind.wrap .i64 ((((avs (l' ++ [t])).length : Nat) : Int) - 1)) = some [.int .i64 t.k, .str t.s, .int .i64 (t.a : Nat)] := by
      have e1 : IntKind.wrap .i64 ((((avs (l' ++ [t])).length : Nat) : Int) - 1) = (l'.length : Nat) := by
        simp only [List.length_map, List.length_append, List.length_cons, List.length_nil] at hl ⊢
        rw [wrap64 (by omega) (by omega)]; omega
      rw [e1, elemAt_avs (by simp)]
      simp
    have hs := hts t (by simp)
    have he : operandF (l' ++ [t]) = if t.k = 2 ∨ t.k = 3 ∨ t.k = 5 ∨ t.k = 8 then false else if t.k = 9 then !amongB closersL t.s else true := by
      unfold operandF; simp
    rw [he] at h
    clear he
    simp only [e, tw_opnS, openC_int, openC_str, openC_nil, tw_nm, tw_ite, tw_done, tw_callT, beq_iff_eq]
    by_cases c1 : t.k = 2
    · rw [if_pos c1, if_pos c1]
      rw [if_pos (.inl c1)] at h
      exact h
    by_cases c2 : t.k = 3
    · rw [if_neg c1, if_pos c2, if_pos c2]
      rw [if_pos (.inr (.inl c2))] at h
      exact h
    by_cases c3 : t.k = 5
    · rw [if_neg c1, if_neg c2, if_pos c3, if_pos c3]
      rw [if_pos (.inr (.inr (.inl c3)))] at h
      exact h
    by_cases c4 : t.k = 8
    · rw [if_neg c1, if_neg c2, if_neg c3, if_pos c4]
      rw [if_pos (.inr (.inr (.inr c4)))] at h
      exact h
    rw [if_neg c1, if_neg c2, if_neg c3, if_neg c4]
    rw [if_neg (by rintro (e | e | e | e); exact c1 e; exact c2 e; exact c3 e; exact c4 e)] at h
    by_cases c5 : t.k = 9
    · rw [if_pos c5]
      rw [if_pos c5] at h
      refine among_wp (l := closersL) (by decide) (by omega) ?_
      simp only [s35x0, tw_needR, tw_needT, true_and, tw_nm, tw_done]
      exact h
    · rw [if_neg c5]
      rw [if_neg c5] at h
      exact h
/-! ### the next token -/
/-- the last cases of next -/
noncomputable def restT (s0 : List UInt8) (i1 : Int) (l2 : List AV) (r3 : Int) (b : Bool) : Tree :=
  .ite b (.need ((AV.lows 0 l2) = Bool.true) <|
                .need True <|
                .call 60 0 [(.str s0), (.int .i64 i1), (.sl l2)] fun o =>
                  outT o60x0 o (fun (i128 : Int) (i129 : Int) (s130 : List UInt8) (i131 : Int) (l132 : List AV) =>
                  .need ((AV.lows 0 l132) = Bool.true) <|
                  .done ((.panic (.iface 45 (.agg [(.int .i64 i128), (.int .i64 i129)]))), ⟨[[((.str s130), .no), ((.int .i64 i131), .no), ((.sl l132), (.tok 0))]], [(List.length l132)]⟩))
                   (outT o60x1 o (fun (s125 : List UInt8) (i126 : Int) (l127 : List AV) =>
                  .need ((AV.lows 0 l127) = Bool.true) <|
                  .done ((.ret ((.tup []), (.agg []))), ⟨[[((.str s125), .no), ((.int .i64 i126), .no), ((.sl l127), (.tok 0))]], [(List.length l127)]⟩))
                   (.fail)))
                (.nm (r3 == (47 : Int)) fun (b133 : Bool) =>
                .ite b133 (.need ((AV.lows 0 l2) = Bool.true) <|
                  .need True <|
                  .call 61 0 [(.str s0), (.int .i64 i1), (.sl l2)] fun o =>
                    outT o61x0 o (fun (b134 : Bool) (s135 : List UInt8) (i136 : Int) (l137 : List AV) =>
                    .need ((AV.lows 0 l137) = Bool.true) <|
                    .ite b134 (.need ((AV.lows 0 l137) = Bool.true) <|
                      .need True <|
                      .call 62 0 [(.str s135), (.int .i64 i136), (.sl l137)] fun o =>
                        outT o62x0 o (fun (i141 : Int) (i142 : Int) (s143 : List UInt8) (i144 : Int) (l145 : List AV) =>
                        .need ((AV.lows 0 l145) = Bool.true) <|
                        .done ((.panic (.iface 45 (.agg [(.int .i64 i141), (.int .i64 i142)]))), ⟨[[((.str s143), .no), ((.int .i64 i144), .no), ((.sl l145), (.tok 0))]], [(List.length l145)]⟩))
                         (outT o62x1 o (fun (s138 : List UInt8) (i139 : Int) (l140 : List AV) =>
                        .need ((AV.lows 0 l140) = Bool.true) <|
                        .done ((.ret ((.tup []), (.agg []))), ⟨[[((.str s138), .no), ((.int .i64 i139), .no), ((.sl l140), (.tok 0))]], [(List.length l140)]⟩))
                         (.fail)))
                      (.need ((AV.lows 0 l137) = Bool.true) <|
                      .need True <|
                      .call 63 0 [(.str s135), (.int .i64 i136), (.sl l137)] fun o =>
                        outT o63x0 o (fun (s151 : List UInt8) (i152 : Int) (l153 : List AV) =>
                        .need ((AV.lows 0 l153) = Bool.true) <|
                        .done ((.ret ((.tup []), (.agg []))), ⟨[[((.str s151), .no), ((.int .i64 i152), .no), ((.sl l153), (.tok 0))]], [(List.length l153)]⟩))
                         (outT o63x1 o (fun (i146 : Int) (i147 : Int) (s148 : List UInt8) (i149 : Int) (l150 : List AV) =>
                        .need ((AV.lows 0 l150) = Bool.true) <|
                        .done ((.panic (.iface 45 (.agg [(.int .i64 i146), (.int .i64 i147)]))), ⟨[[((.str s148), .no), ((.int .i64 i149), .no), ((.sl l150), (.tok 0))]], [(List.length l150)]⟩))
                         (.fail))))
                     (.fail))
                  (.need ((AV.lows 0 l2) = Bool.true) <|
                  .need True <|
                  .call 63 0 [(.str s0), (.int .i64 i1), (.sl l2)] fun o =>
                    outT o63x0 o (fun (s159 : List UInt8) (i160 : Int) (l161 : List AV) =>
                    .need ((AV.lows 0 l161) = Bool.true) <|
                    .done ((.ret ((.tup []), (.agg []))), ⟨[[((.str s159), .no), ((.int .i64 i160), .no), ((.sl l161), (.tok 0))]], [(List.length l161)]⟩))
                     (outT o63x1 o (fun (i154 : Int) (i155 : Int) (s156 : List UInt8) (i157 : Int) (l158 : List AV) =>
                    .need ((AV.lows 0 l158) = Bool.true) <|
                    .done ((.panic (.iface 45 (.agg [(.int .i64 i154), (.int .i64 i155)]))), ⟨[[((.str s156), .no), ((.int .i64 i157), .no), ((.sl l158), (.tok 0))]], [(List.length l158)]⟩))
                     (.fail))))
theorem rest_wp {l : List Tk} {pre r : List UInt8} {c : UInt8} (hl : l.length ≤ 3000) (hts : ∀ t ∈ l, t.s.length ≤ 100000) (hs : pre.length + (c :: r).length ≤ 8000)
    (h : K (stepOut (pre ++ c :: r) pre.length l (if c = 34 then spanT 3 [] 1 (textL r) else if c = 47 ∧ operandF l = true then spanT 4 [] 1 (patL (pre.length + 1) none r) else signF (c :: r)))) :
    (restT (pre ++ c :: r) ((pre.length : Nat) : Int) (avs l) ((c.toNat : Nat) : Int) (((c.toNat : Nat) : Int) == 34)).wp lay.ev 33 K := by
  unfold restT
  simp only [tw_nm, tw_ite, tw_needR, tw_needT, true_and, tw_need, tw_callT]
  by_cases c1 : c = 34
  · rw [if_pos ((byteEq 34 (k := 34) rfl).2 c1)]
    rw [if_pos c1] at h
    exact ⟨avs_lows l, text_wp hl hs (text_tail h)⟩
  rw [if_neg (fun e => c1 ((byteEq 34 (k := 34) rfl).1 e))]
  rw [if_neg c1] at h
  by_cases c2 : c = 47
  · rw [if_pos ((byteEq 47 (k := 47) rfl).2 c2)]
    refine ⟨avs_lows l, operand_wp hl hts ?_⟩
    simp only [s61x0, tw_nm, tw_ite, tw_needR, tw_needT, true_and, tw_need, tw_callT]
    refine ⟨avs_lows l, ?_⟩
    by_cases c3 : operandF l = true
    · rw [if_pos c3]
      rw [if_pos ⟨c2, c3⟩] at h
      exact ⟨avs_lows l, pattern_wp hl hs (pat_tail h)⟩
    · rw [if_neg c3]
      rw [if_neg (fun e => c3 e.2)] at h
      exact ⟨avs_lows l, sign_step hl hs (sign_tail h)⟩
  rw [if_neg (fun e => c2 ((byteEq 47 (k := 47) rfl).1 e))]
  rw [if_neg (fun e => c2 e.1)] at h
  exact ⟨avs_lows l, sign_step hl hs (sign_tail h)⟩
theorem next_step {l : List Tk} {pre r : List UInt8} {c : UInt8} (hl : l.length ≤ 3000) (hts : ∀ t ∈ l, t.s.length ≤ 100000) (hs : pre.length + (c :: r).length ≤ 8000) (h : K (stepOut (pre ++ c :: r) pre.length l (tokF pre.length (operandF l) (c :: r)))) :
    lay.Wp 33 0 [.str (pre ++ c :: r), .int .i64 ((pre.length : Nat) : Int), .sl (avs l)] K := by
  have hb0 : byteAt (c :: r) 0 = some ((c.toNat : Nat) : Int) := byteAt_nat (s := c :: r) (n := 0) (by simp)
  have hnl : (numL (c :: r)).length ≤ 8000 := by
    unfold numL
    simp only
    split <;> simp only [List.length_take] <;> omega
  refine Lay.wp_of h33 (fun call => e33x0 call _ _ _) ?_
  unfold t33x0
  unfold tokF at h
  simp only at h
  simp only [dropHere, hb0, tw_nm, tw_ite, tw_bindS, tw_needR, tw_needT, true_and, tw_need, tw_callT]
  refine ⟨inLoHere pre _, ?_⟩
  by_cases c1 : c = 10
  · rw [if_pos ((byteEq 10 (k := 10) rfl).2 c1)]
    rw [if_pos c1] at h
    exact ⟨avs_lows l, put_step (n := 1) hl (by omega) (by omega) (put_tail h)⟩
  rw [if_neg (fun e => c1 ((byteEq 10 (k := 10) rfl).1 e))]
  rw [if_neg c1] at h
  refine letterB_wp ?_
  simp only [s37x0, tw_needR, tw_needT, true_and, tw_nm, tw_ite, tw_need, tw_callT]
  by_cases c2 : letterB c = true
  · rw [if_pos c2]
    rw [if_pos c2] at h
    exact ⟨avs_lows l, name_step hl hs (name_tail h)⟩
  rw [if_neg c2]
  rw [if_neg c2] at h
  refine digitB_wp ?_
  simp only [s58x0, tw_needR, tw_needT, true_and]
  by_cases c3 : digitB c = true
  · simp only [c3, tw_iteT, tw_callT]
    rw [if_pos (.inl c3)] at h
    refine number_wp (by omega) ?_
    simp only [s59x0, tw_needR, tw_needT, true_and, tw_nm, tw_ite, tw_need, tw_callT]
    exact ⟨avs_lows l, put_step hl (by omega) hnl (put_tail h)⟩
  rw [Bool.eq_false_iff.2 c3]
  simp only [tw_nm, tw_iteF]
  have e46 := byteEq (b := c) 46 (k := 46) rfl
  by_cases c4 : c = 46
  · rw [e46.2 c4]
    by_cases c5 : 1 < (c :: r).length
    · have b1 : decide ((((c :: r).length : Nat) : Int) > 1) = true := by simp at c5 ⊢; omega
      obtain ⟨d, r', rfl⟩ := headOf (r := r) (by simpa using c5)
      have hb1 : byteAt (c :: d :: r') 1 = some ((d.toNat : Nat) : Int) := byteAt_nat (s := c :: d :: r') (n := 1) (by simp)
      simp only [b1, hb1, tw_nm, tw_iteT, tw_bindS, tw_callT]
      refine digitB_wp ?_
      simp only [s58x0, tw_needR, tw_needT, true_and]
      by_cases c6 : digitB d = true
      · rw [c6]
        rw [if_pos (.inr ⟨c4, d, rfl, c6⟩)] at h
        simp only [tw_iteT, tw_callT]
        refine number_wp (by omega) ?_
        simp only [s59x0, tw_needR, tw_needT, true_and, tw_nm, tw_need, tw_callT]
        exact ⟨avs_lows l, put_step hl (by omega) hnl (put_tail h)⟩
      · rw [Bool.eq_false_iff.2 c6]
        rw [if_neg (by rintro (e | ⟨_, d', hd, e⟩); exact c3 e; simp at hd; subst hd; exact c6 e)] at h
        simp only [tw_iteF, tw_nm]
        exact rest_wp hl hts hs h
    · have b1 : decide ((((c :: r).length : Nat) : Int) > 1) = false := by rw [decide_eq_false_iff_not]; omega
      have c5' : r.length = 0 := by rw [List.length_cons] at c5; omega
      rw [if_neg (by rintro (e | ⟨_, d', hd, e⟩); exact c3 e; rw [List.getElem?_eq_none (by omega)] at hd; cases hd)] at h
      simp only [b1, tw_nm, tw_iteT, tw_iteF]
      exact rest_wp hl hts hs h
  · rw [Bool.eq_false_iff.2 fun e => c4 (e46.1 e)]
    rw [if_neg (by rintro (e | ⟨e, _⟩); exact c3 e; exact c4 e)] at h
    simp only [tw_nm, tw_iteF]
    exact rest_wp hl hts hs h
/-! ### all tokens -/
def loopF (s : List UInt8) : Nat → List UInt8 → List Tk → Except (Nat × Int) (List Tk)
  | 0, _, _ => .error (0, 2)
  | _ + 1, [], l => if l.length = 3000 then .error (s.length, 2) else .ok (l ++ [⟨0, [], s.length⟩])
  | n + 1, c :: r, l =>
    match tokF (s.length - (c :: r).length) (operandF l) (c :: r) with
    | .error w => .error (s.length - (c :: r).length, w)
    | .ok (k, t, m) => if l.length = 3000 then .error (s.length - (c :: r).length, 2) else loopF s n (skipL ((c :: r).drop m)) (l ++ [⟨k, t, s.length - (c :: r).length⟩])
def wordsF (s : List UInt8) : Except (Nat × Int) (List Tk) := if 8000 < s.length then .error (0, 2) else loopF s (s.length + 1) (skipL s) []
def wordsOut : Except (Nat × Int) (List Tk) → Out
  | .ok l => (.ret (.tup [.sl (avs l), .int .i64 0, .int .i64 0], .agg [.no, .no, .no]), ⟨[], []⟩)
  | .error (p, w) => (.ret (.tup [.sl [], .int .i64 (p : Nat), .int .i64 w], .agg [.no, .no, .no]), ⟨[], []⟩)
/-- what is known of a token that was read -/
theorem numL_pos {c : UInt8} {r : List UInt8} (h : digitB c = true ∨ c = 46 ∧ ∃ d, r[0]? = some d ∧ digitB d) : 1 ≤ (numL (c :: r)).length := by
  unfold numL
  simp only
  rcases h with h | ⟨rfl, _⟩
  · have : ((c :: r).takeWhile digitB) = c :: r.takeWhile digitB := by rw [List.takeWhile_cons, if_pos h]
    rw [this]
    split <;> simp only [List.length_take, List.length_cons] <;> omega
  · have : ((46 :: r).takeWhile digitB) = [] := by rw [List.takeWhile_cons, if_neg (by decide)]
    rw [this, if_pos (by rfl)]
    simp only [List.length_take, List.length_cons]; omega
theorem numL_take (r : List UInt8) : r.take (numL r).length = numL r ∧ (numL r).length ≤ r.length := by
  unfold numL
  simp only
  split <;> exact ⟨by simp [List.take_eq_take_iff], by simp only [List.length_take]; omega⟩
theorem textL_len : ∀ (n : Nat) (r : List UInt8) {x : List UInt8 × Nat}, r.length ≤ n → textL r = some x → x.2 ≤ r.length := by
  intro n
  induction n with
  | zero =>
    intro r x hn h
    have : r = [] := List.length_eq_zero_iff.1 (by omega)
    subst this
    rw [textL] at h; cases h
  | succ n ih =>
    intro r x hn h
    cases r with
    | nil => rw [textL] at h; cases h
    | cons c r =>
      simp only [List.length_cons] at hn ⊢
      rw [textL] at h
      split at h
      · cases h
      split at h
      · cases h; simp
      split at h
      · rename_i c4
        split at h
        · cases h
        cases hy : textL (r.drop 1) with
        | none => rw [hy] at h; cases h
        | some y =>
          rw [hy] at h
          have := ih (r.drop 1) (by simp; omega) hy
          simp [ahead] at h
          subst h
          simp at this ⊢
          omega
      · cases hy : textL r with
        | none => rw [hy] at h; cases h
        | some y =>
          rw [hy] at h
          have := ih r (by omega) hy
          simp [ahead] at h
          subst h
          simp at this ⊢
          omega
theorem textL_text : ∀ (n : Nat) (r : List UInt8) {x : List UInt8 × Nat}, r.length ≤ n → textL r = some x → x.1.length ≤ r.length := by
  intro n
  induction n with
  | zero =>
    intro r x hn h
    have : r = [] := List.length_eq_zero_iff.1 (by omega)
    subst this
    rw [textL] at h; cases h
  | succ n ih =>
    intro r x hn h
    cases r with
    | nil => rw [textL] at h; cases h
    | cons c r =>
      simp only [List.length_cons] at hn ⊢
      rw [textL] at h
      split at h
      · cases h
      split at h
      · cases h; simp
      split at h
      · rename_i c4
        split at h
        · cases h
        cases hy : textL (r.drop 1) with
        | none => rw [hy] at h; cases h
        | some y =>
          rw [hy] at h
          have := ih (r.drop 1) (by simp; omega) hy
          simp [ahead] at h
          subst h
          have hsl := strokeF_len (r.headD 0)
          simp at this hsl ⊢
          omega
      · cases hy : textL r with
        | none => rw [hy] at h; cases h
        | some y =>
          rw [hy] at h
          have := ih r (by omega) hy
          simp [ahead] at h
          subst h
          simp at this ⊢
          omega
theorem patL_len : ∀ (n : Nat) (r : List UInt8) (i : Nat) (o : Option Nat) {x : List UInt8 × Nat}, r.length ≤ n → patL i o r = some x → x.2 ≤ r.length ∧ x.1.length ≤ r.length := by
  intro n
  induction n with
  | zero =>
    intro r i o x hn h
    have : r = [] := List.length_eq_zero_iff.1 (by omega)
    subst this
    rw [patL] at h; cases h
  | succ n ih =>
    intro r i o x hn h
    cases r with
    | nil => rw [patL] at h; cases h
    | cons c r =>
      simp only [List.length_cons] at hn ⊢
      have fin (i' : Nat) (o' : Option Nat) (h : ahead [c] 1 (patL i' o' r) = some x) : x.2 ≤ r.length + 1 ∧ x.1.length ≤ r.length + 1 := by
        cases hy : patL i' o' r with
        | none => rw [hy] at h; cases h
        | some y =>
          rw [hy] at h
          have := ih r i' o' (by omega) hy
          simp [ahead] at h
          subst h
          simp at this ⊢
          omega
      rw [patL] at h
      split at h
      · cases h
      split at h
      · rename_i c4
        cases hy : patL (i + 2) o (r.drop 1) with
        | none => rw [hy] at h; cases h
        | some y =>
          rw [hy] at h
          have := ih (r.drop 1) (i + 2) o (by simp; omega) hy
          simp only [ahead, Option.map_some, Option.some.injEq] at h
          subst h
          have : ((if r[0]? = some 47 then [47] else [92, r.headD 0]) : List UInt8).length ≤ 2 := by split <;> simp
          simp at *
          omega
      split at h
      · exact fin _ _ h
      split at h
      · exact fin _ _ h
      split at h
      · cases h; simp
      · exact fin _ _ h
/-- what is known of a token -/
theorem tokF_ok {p : Nat} {op : Bool} {c : UInt8} {r : List UInt8} {k : Int} {t : List UInt8} {m : Nat} (h : tokF p op (c :: r) = .ok (k, t, m)) :
    1 ≤ m ∧ m ≤ (c :: r).length ∧ k ≠ 0 ∧ t.length ≤ (c :: r).length ∧ (k ≠ 3 → k ≠ 4 → t.length = m ∧ (c :: r).take t.length = t) := by
  unfold tokF at h
  simp only at h
  split at h
  · rename_i c1
    cases h
    exact ⟨by omega, by simp, by omega, by simp, fun _ _ => ⟨rfl, by rw [c1]; rfl⟩⟩
  split at h
  · rename_i c1 c2
    have hi : innerB c = true := by simp [innerB, c2]
    have hw : ((c :: r).takeWhile innerB).length ≤ (c :: r).length := (List.takeWhile_prefix innerB (l := c :: r)).length_le
    have hp : 1 ≤ ((c :: r).takeWhile innerB).length := by rw [List.takeWhile_cons, if_pos hi]; simp
    have ht : (c :: r).take ((c :: r).takeWhile innerB).length = (c :: r).takeWhile innerB := prefixTake (List.takeWhile_prefix innerB)
    unfold nameF at h
    simp only at h
    repeat' split at h
    all_goals first
      | (cases h; done)
      | (cases h; exact ⟨hp, hw, by omega, hw, fun _ _ => ⟨rfl, ht⟩⟩)
  split at h
  · rename_i c3
    cases h
    have := numL_take (c :: r)
    exact ⟨numL_pos c3, this.2, by omega, this.2, fun _ _ => ⟨rfl, this.1⟩⟩
  split at h
  · cases hy : textL r with
    | none => rw [hy] at h; cases h
    | some y =>
      rw [hy] at h
      have h1 := textL_len _ r (Nat.le_refl _) hy
      have h2 := textL_text _ r (Nat.le_refl _) hy
      cases h
      exact ⟨by omega, by simp; omega, by omega, by simp; omega, fun e => (e rfl).elim⟩
  split at h
  · cases hy : patL (p + 1) none r with
    | none => rw [hy] at h; cases h
    | some y =>
      rw [hy] at h
      have h1 := patL_len _ r _ _ (Nat.le_refl _) hy
      cases h
      exact ⟨by omega, by simp; omega, by omega, by simp; omega, fun _ e => (e rfl).elim⟩
  · unfold signF at h
    split at h
    · rename_i c5
      cases h
      have hl : ((c :: r).take 2).length = 2 := by simp only [List.length_take]; omega
      refine ⟨by omega, by omega, by omega, by omega, fun _ _ => ⟨hl, by rw [hl]⟩⟩
    · simp only at h
      split at h
      · cases h
        exact ⟨by omega, by simp, by omega, by simp, fun _ _ => ⟨rfl, rfl⟩⟩
      · cases h
theorem words_loop (s : List UInt8) (hs : s.length ≤ 8000) : ∀ (n : Nat) (r pre : List UInt8) (l : List Tk), s = pre ++ r → r.length < n → l.length ≤ 3000 → (∀ t ∈ l, t.s.length ≤ 100000) →
    K (wordsOut (loopF s n r l)) →
    lay.Wp 9 1 [.str s, .bool false, .sl [], .int .i64 0, .int .i64 0, .str s, .int .i64 ((pre.length : Nat) : Int), .sl (avs l)] K := by
  intro n
  induction n with
  | zero => intro r pre l _ h; omega
  | succ n ih =>
    intro r pre l hpr hr hl hts h
    have hlen : s.length = pre.length + r.length := by rw [hpr, List.length_append]
    refine Lay.wp_of h9 (fun call => e9x1 call _ _ _ _ _ _ _ _) ?_
    unfold t9x1
    simp only [tw_nm, tw_ite, tw_needR, tw_needT, true_and, tw_need, tw_callT]
    cases r with
    | nil =>
      simp only [List.length_nil] at hlen
      rw [if_neg (by simp; omega)]
      have hp : pre.length = s.length := by omega
      refine ⟨avs_lows l, put_step (n := 0) (t := []) (k := 0) hl (by omega) (by omega) ?_⟩
      unfold loopF at h
      unfold stepOut
      simp only
      split
      · rename_i e
        rw [if_pos e] at h
        simp only [s34x0, tw_needR, tw_needT, true_and, tw_need, tw_nm, tw_ite, tw_done]
        rw [if_pos (by decide), if_neg (by decide)]
        refine ⟨avs_lows l, rfl, rfl, ?_⟩
        rw [hp]
        exact h
      · rename_i e
        rw [if_neg e] at h
        simp only [n34x0x1, s34x1, tw_needR, tw_needT, true_and, tw_need, tw_nm, tw_ite, tw_done]
        rw [if_neg (by decide)]
        refine ⟨avs_lows _, avs_lows _, avs_lows _, ?_⟩
        rw [hp]
        exact h
    | cons c r =>
      simp only [List.length_cons] at hlen hr
      rw [if_pos (by simp; omega)]
      have hp : s.length - (c :: r).length = pre.length := by simp only [List.length_cons]; omega
      unfold loopF at h
      rw [hp] at h
      subst hpr
      refine ⟨avs_lows l, next_step hl hts (by simp; omega) ?_⟩
      cases hx : tokF pre.length (operandF l) (c :: r) with
      | error w =>
        rw [hx] at h
        simp only at h
        unfold stepOut
        simp only [n33x0x1, s33x0, s33x1, tw_needR, tw_needT, true_and, tw_need, tw_nm, tw_ite, tw_done]
        rw [if_pos (by decide), if_neg (by decide)]
        exact ⟨avs_lows l, rfl, rfl, h⟩
      | ok x =>
        obtain ⟨k, t, m⟩ := x
        rw [hx] at h
        simp only at h
        unfold stepOut
        simp only
        obtain ⟨m1, m2, _, m4, _⟩ := tokF_ok hx
        split
        · rename_i e
          rw [if_pos e] at h
          simp only [n33x0x1, s33x0, s33x1, tw_needR, tw_needT, true_and, tw_need, tw_nm, tw_ite, tw_done]
          rw [if_pos (by decide), if_neg (by decide)]
          exact ⟨avs_lows l, rfl, rfl, h⟩
        · rename_i e
          rw [if_neg e] at h
          simp only [n33x0x1, s33x0, s33x1, tw_needR, tw_needT, true_and, tw_need, tw_nm, tw_ite, tw_done, tw_callT]
          have hsplit : pre ++ c :: r = (pre ++ (c :: r).take m) ++ (c :: r).drop m := by rw [List.append_assoc, List.take_append_drop]
          have hlp : (pre ++ (c :: r).take m).length = pre.length + m := by simp only [List.length_append, List.length_take]; omega
          have hd : ((c :: r).drop m).length = (c :: r).length - m := by simp only [List.length_drop]
          simp only [List.length_cons] at m2 hd
          refine ⟨avs_lows _, avs_lows _, ?_⟩
          have hsk := skip_wp (K := fun o => (outT o32x0 o (fun (s21 : List UInt8) (i22 : Int) (l23 : List AV) =>
            .need ((AV.lows 0 l23) = Bool.true) <|
            .need True <|
            .jump 1 [(.str (pre ++ c :: r)), (.bool false), (.sl []), (.int .i64 0), (.int .i64 0), (.str s21), (.int .i64 i22), (.sl l23)])
             (.fail)).wp lay.ev 9 K) (l := l ++ [⟨k, t, pre.length⟩]) (pre := pre ++ (c :: r).take m) (r := (c :: r).drop m) (by omega)
          rw [← hsplit, hlp] at hsk
          refine hsk ?_
          simp only [s32x0, tw_needR, tw_needT, true_and, tw_need, tw_jump]
          refine ⟨avs_lows _, ?_⟩
          obtain ⟨u, hu⟩ := skipL_suffix _ ((c :: r).drop m) (Nat.le_refl _)
          have hul := congrArg List.length hu
          simp only [List.length_append] at hul
          have hs2 : pre ++ c :: r = (pre ++ (c :: r).take m ++ u) ++ skipL ((c :: r).drop m) := by rw [List.append_assoc (pre ++ (c :: r).take m), hu, ← hsplit]
          have hpl : (pre ++ c :: r).length - (skipL ((c :: r).drop m)).length = (pre ++ (c :: r).take m ++ u).length := by
            have := congrArg List.length hs2
            rw [List.length_append (bs := skipL _)] at this
            omega
          rw [hpl]
          refine ih _ _ _ hs2 (by omega) (by simp; omega) ?_ h
          intro t' ht'
          rcases List.mem_append.1 ht' with ht' | ht'
          · exact hts t' ht'
          · simp at ht'; subst ht'; simp only [List.length_cons] at m4; simp; omega
/-- ALL TOKENS OF A TEXT -/
theorem words_wp {s : List UInt8} (hs : s.length ≤ 281474976710656) (h : K (wordsOut (wordsF s))) : lay.Wp 9 0 [.str s] K := by
  refine Lay.wp_of h9 (fun call => e9x0 call _) ?_
  unfold t9x0
  unfold wordsF at h
  simp only [tw_nm, tw_ite, tw_needR, tw_needT, true_and, tw_need, tw_callT, tw_done]
  by_cases c : 8000 < s.length
  · rw [if_pos (by simp; omega)]
    rw [if_pos c] at h
    exact ⟨rfl, rfl, h⟩
  · rw [if_neg (by simp; omega)]
    rw [if_neg c] at h
    refine ⟨rfl, skip_wp (l := []) (pre := []) (r := s) (by simp; omega) ?_⟩
    simp only [s32x0, tw_needR, tw_needT, true_and, tw_need, tw_jump]
    refine ⟨rfl, ?_⟩
    obtain ⟨u, hu⟩ := skipL_suffix _ s (Nat.le_refl _)
    have hul := congrArg List.length hu
    simp only [List.length_append] at hul
    have e1 : decide ((s.length : Int) > 8000) = false := by simp; omega
    have e2 : ([] ++ s).length - (skipL s).length = u.length := by simp; omega
    rw [e1, e2]
    exact words_loop s (by omega) (s.length + 1) (skipL s) u [] (by rw [hu]) (by omega) (by simp) (by simp) h
end Go.Proofs.YtdiphholophdcaaDoor.T
end
section
open Go Go.Ab
/- THE LAW's PART of LexOrder. -/
namespace Go.Proofs.YtdiphholophdcaaDoor.T
variable {K : Out → Prop}
/-- what is known of tokens that were read, the end not among them -/
def Good (s : List UInt8) (l : List Tk) (q : Nat) : Prop :=
  ∀ i (h : i < l.length), l[i].k ≠ 0 ∧ l[i].a < q ∧ (∀ h2 : i + 1 < l.length, l[i].a < l[i + 1].a) ∧
    (l[i].k ≠ 3 → l[i].k ≠ 4 → l[i].a + l[i].s.length ≤ s.length ∧ (s.drop l[i].a).take l[i].s.length = l[i].s)
theorem good_snoc {s : List UInt8} {l : List Tk} {q q' : Nat} {t : Tk} (h : Good s l q) (h0 : t.k ≠ 0) (h1 : q ≤ t.a) (h2 : t.a < q') (h3 : t.k ≠ 3 → t.k ≠ 4 → t.a + t.s.length ≤ s.length ∧ (s.drop t.a).take t.s.length = t.s) : Good s (l ++ [t]) q' := by
  intro i hi
  simp only [List.length_append, List.length_cons, List.length_nil] at hi
  by_cases c : i < l.length
  · obtain ⟨a1, a2, a3, a4⟩ := h i c
    have e : (l ++ [t])[i] = l[i] := List.getElem_append_left c
    rw [e]
    refine ⟨a1, by omega, fun hh => ?_, a4⟩
    by_cases c2 : i + 1 < l.length
    · have e2 : (l ++ [t])[i + 1] = l[i + 1] := List.getElem_append_left c2
      rw [e2]; exact a3 c2
    · have e2 : (l ++ [t])[i + 1] = t := by
        rw [List.getElem_append_right (by omega)]
        simp
      rw [e2]; omega
  · have e : (l ++ [t])[i] = t := by
      rw [List.getElem_append_right (by omega)]
      simp
    rw [e]
    refine ⟨h0, h2, fun hh => ?_, h3⟩
    simp at hh; omega
/-- the tokens of a text -/
def Order (s : List UInt8) (l : List Tk) : Prop := ∃ l', l = l' ++ [⟨0, [], s.length⟩] ∧ Good s l' s.length
theorem loop_order (s : List UInt8) : ∀ (n : Nat) (r pre : List UInt8) (l : List Tk) {o : List Tk}, s = pre ++ r → l.length ≤ 3000 → Good s l pre.length → loopF s n r l = .ok o → Order s o ∧ o.length ≤ 3000 := by
  intro n
  induction n with
  | zero => intro r pre l o _ _ _ h; cases h
  | succ n ih =>
    intro r pre l o hpr hl hg h
    have hlen : s.length = pre.length + r.length := by rw [hpr, List.length_append]
    cases r with
    | nil =>
      unfold loopF at h
      split at h
      · cases h
      · cases h
        have hp : pre.length = s.length := by simpa using hlen.symm
        rw [hp] at hg
        rename_i e
        exact ⟨⟨l, rfl, hg⟩, by simp only [List.length_append, List.length_cons, List.length_nil]; omega⟩
    | cons c r =>
      simp only [List.length_cons] at hlen
      have hp : s.length - (c :: r).length = pre.length := by simp only [List.length_cons]; omega
      unfold loopF at h
      rw [hp] at h
      split at h
      · cases h
      · rename_i k t m hx
        obtain ⟨m1, m2, m3, m4, m5⟩ := tokF_ok hx
        split at h
        · cases h
        · rename_i e
          obtain ⟨u, hu⟩ := skipL_suffix _ ((c :: r).drop m) (Nat.le_refl _)
          have hsplit : s = (pre ++ (c :: r).take m) ++ (c :: r).drop m := by rw [List.append_assoc, List.take_append_drop]; exact hpr
          have hs2 : s = (pre ++ (c :: r).take m ++ u) ++ skipL ((c :: r).drop m) := by rw [List.append_assoc (pre ++ (c :: r).take m), hu, ← hsplit]
          refine ih _ _ _ hs2 (by simp only [List.length_append, List.length_cons, List.length_nil]; omega) (good_snoc hg m3 (Nat.le_refl _) ?_ fun h3 h4 => ?_) h
          · simp only [List.length_append, List.length_take]; omega
          · obtain ⟨e1, e2⟩ := m5 h3 h4
            simp only [List.length_cons] at m4
            refine ⟨by show pre.length + t.length ≤ s.length; omega, ?_⟩
            rw [hpr, List.drop_left]
            exact e2
/-- an error has a number -/
theorem nameF_err {r : List UInt8} {w : Int} (h : nameF r = .error w) : w ≠ 0 := by
  unfold nameF at h
  simp only at h
  repeat' split at h
  all_goals first
    | (cases h; done)
    | (cases h; decide)
theorem tokF_err {p : Nat} {op : Bool} {r : List UInt8} {w : Int} (h : tokF p op r = .error w) : w ≠ 0 := by
  cases r with
  | nil => cases h; omega
  | cons c r =>
  unfold tokF at h
  simp only at h
  split at h
  · cases h
  split at h
  · exact nameF_err h
  split at h
  · cases h
  split at h
  · cases hy : textL r with
    | none => rw [hy] at h; cases h; omega
    | some y => rw [hy] at h; cases h
  split at h
  · cases hy : patL (p + 1) none r with
    | none => rw [hy] at h; cases h; omega
    | some y => rw [hy] at h; cases h
  · unfold signF at h
    split at h
    · cases h
    · simp only at h
      split at h
      · cases h
      · cases h; omega
theorem loop_err (s : List UInt8) : ∀ (n : Nat) (r : List UInt8) (l : List Tk) {p : Nat} {w : Int}, loopF s n r l = .error (p, w) → w ≠ 0 := by
  intro n
  induction n with
  | zero => intro r l p w h; cases h; omega
  | succ n ih =>
    intro r l p w h
    cases r with
    | nil =>
      unfold loopF at h
      split at h
      · cases h; omega
      · cases h
    | cons c r =>
      unfold loopF at h
      split at h
      · rename_i hx
        cases h
        exact tokF_err hx
      · split at h
        · cases h; omega
        · exact ih _ _ h
theorem words_err {s : List UInt8} {p : Nat} {w : Int} (h : wordsF s = .error (p, w)) : w ≠ 0 := by
  unfold wordsF at h
  split at h
  · cases h; omega
  · exact loop_err _ _ _ _ h
theorem words_order {s : List UInt8} {o : List Tk} (h : wordsF s = .ok o) : Order s o ∧ o.length ≤ 3000 ∧ s.length ≤ 8000 := by
  unfold wordsF at h
  split at h
  · cases h
  · obtain ⟨u, hu⟩ := skipL_suffix _ s (Nat.le_refl _)
    have := loop_order s _ _ u [] hu.symm (by simp) (by intro i hi; simp at hi) h
    exact ⟨this.1, this.2, by omega⟩
theorem order_loop {s : List UInt8} {l : List Tk} (ho : Order s l) (hl : l.length ≤ 3000) (hs : s.length ≤ 8000) : ∀ (n i : Nat), l.length - i = n → i ≤ l.length →
    lay.Wp 3 1 [.str s, .sl (avs l), .int .i64 (i : Nat), .bool false] fun o => o = (.ret (.bool true, .no), ⟨[], []⟩) := by
  intro n
  obtain ⟨l', e, hg⟩ := ho
  have hlen : l.length = l'.length + 1 := by rw [e]; simp
  induction n with
  | zero =>
    intro i hn hi
    refine Lay.wp_of h3 (fun call => e3x1 call _ _ _ _) ?_
    unfold t3x1
    simp only [tw_nm, tw_ite, tw_done, List.length_map]
    rw [if_neg (by simp; omega), if_pos (by simp; omega)]
    trivial
  | succ n ih =>
    intro i hn hi
    have hlt : i < l.length := by omega
    have next := ih (i + 1) (by omega) (by omega)
    have w0 : IntKind.wrap .i64 ((i : Int) + 1) = ((i + 1 : Nat) : Int) := by rw [wrap64 (by omega) (by omega)]; omega
    have w1 : IntKind.wrap .i64 (((l.length : Nat) : Int) - 1) = ((l'.length : Nat) : Int) := by rw [wrap64 (by omega) (by omega)]; omega
    -- what is known of the token
    have facts : l[i].a ≤ s.length ∧ (l[i].k = 0 ↔ i = l'.length) ∧ (l[i].k ≠ 3 → l[i].k ≠ 4 → l[i].a + l[i].s.length ≤ s.length ∧ (s.drop l[i].a).take l[i].s.length = l[i].s) ∧ (∀ h0 : 0 < i, l[i - 1].a < l[i].a) := by
      by_cases c : i < l'.length
      · have e1 : l[i] = l'[i] := by subst e; exact List.getElem_append_left c
        rw [e1]
        obtain ⟨a1, a2, a3, a4⟩ := hg i c
        refine ⟨by omega, ⟨fun h => (a1 h).elim, fun h => by omega⟩, a4, fun h0 => ?_⟩
        have e2 : l[i - 1] = l'[i - 1] := by subst e; exact List.getElem_append_left (by omega)
        rw [e2]
        obtain ⟨_, _, b3, _⟩ := hg (i - 1) (by omega)
        have := b3 (by omega)
        have e3 : l'[i - 1 + 1] = l'[i] := by congr 1; omega
        rw [e3] at this
        exact this
      · have c2 : i = l'.length := by omega
        have e1 : l[i] = ⟨0, [], s.length⟩ := by
          subst e
          rw [List.getElem_append_right (by omega)]
          simp
        rw [e1]
        refine ⟨Nat.le_refl _, ⟨fun _ => c2, fun _ => rfl⟩, fun _ _ => ⟨by simp, by simp⟩, fun h0 => ?_⟩
        have e2 : l[i - 1] = l'[i - 1]'(by omega) := by subst e; exact List.getElem_append_left (by omega)
        rw [e2]
        exact (hg (i - 1) (by omega)).2.1
    generalize ht : l[i] = t at facts
    obtain ⟨f1, f2, f3, f4⟩ := facts
    have eA := elemAt_avs hlt
    rw [ht] at eA
    have w2 : IntKind.wrap .i64 (((s.length : Nat) : Int) - ((t.a : Nat) : Int)) = ((s.length - t.a : Nat) : Int) := by rw [wrap64 (by omega) (by omega)]; omega
    have hb : ¬ (Bool.not ((t.k == 0) == (((i : Nat) : Int) == ((l'.length : Nat) : Int))) = true) := by
      have : (t.k == 0) = (((i : Nat) : Int) == ((l'.length : Nat) : Int)) := by
        rw [Bool.eq_iff_iff, beq_iff_eq, beq_iff_eq, f2]
        omega
      rw [this]; simp
    refine Lay.wp_of h3 (fun call => e3x1 call _ _ _ _) ?_
    unfold t3x1
    simp only [eA, w0, w1, w2, tw_nm, tw_ite, tw_done, tw_opnS, openC_int, openC_str, openC_nil, tw_need, tw_jump, List.length_map]
    rw [if_pos (by simp; omega), if_neg (by simp), if_neg (by simp; omega)]
    by_cases c0 : 0 < i
    · have w3 : IntKind.wrap .i64 ((i : Int) - 1) = ((i - 1 : Nat) : Int) := by rw [wrap64 (by omega) (by omega)]; omega
      have eP := elemAt_avs (l := l) (i := i - 1) (by omega)
      rw [if_pos (by simp; omega)]
      simp only [w3, eP, tw_opnS, openC_int, openC_str, openC_nil, tw_nm, tw_ite, tw_done, tw_need, tw_jump]
      have := f4 c0
      simp only [w1] at hb ⊢
      rw [if_neg (by simp; omega), if_neg hb]
      by_cases c3 : t.k = 3
      · rw [if_neg (by simp [c3])]; exact ⟨avs_lows l, next⟩
      rw [if_pos (by simpa using c3)]
      by_cases c4 : t.k = 4
      · rw [if_neg (by simp [c4])]; exact ⟨avs_lows l, next⟩
      obtain ⟨f5, f6⟩ := f3 c3 c4
      have w4 : IntKind.wrap .i64 (((t.a : Nat) : Int) + ((t.s.length : Nat) : Int)) = ((t.a + t.s.length : Nat) : Int) := by rw [wrap64 (by omega) (by omega)]; omega
      rw [if_pos (by simpa using c4), if_neg (by simp; omega), w4]
      refine ⟨⟨by omega, by omega, by omega⟩, ?_⟩
      rw [Int.toNat_natCast, Int.toNat_natCast, List.drop_take, Nat.add_sub_cancel_left, f6, if_neg (by simp)]
      exact ⟨avs_lows l, next⟩
    · rw [if_neg (by simp; omega), if_neg hb]
      by_cases c3 : t.k = 3
      · rw [if_neg (by simp [c3])]; exact ⟨avs_lows l, next⟩
      rw [if_pos (by simpa using c3)]
      by_cases c4 : t.k = 4
      · rw [if_neg (by simp [c4])]; exact ⟨avs_lows l, next⟩
      obtain ⟨f5, f6⟩ := f3 c3 c4
      have w4 : IntKind.wrap .i64 (((t.a : Nat) : Int) + ((t.s.length : Nat) : Int)) = ((t.a + t.s.length : Nat) : Int) := by rw [wrap64 (by omega) (by omega)]; omega
      rw [if_pos (by simpa using c4), if_neg (by simp; omega), w4]
      refine ⟨⟨by omega, by omega, by omega⟩, ?_⟩
      rw [Int.toNat_natCast, Int.toNat_natCast, List.drop_take, Nat.add_sub_cancel_left, f6, if_neg (by simp)]
      exact ⟨avs_lows l, next⟩
/-- THE LAW's PART of LexOrder -/
theorem lexOrder_wp (s : List UInt8) (hs : s.length ≤ 281474976710656) : lay.Wp 3 0 [.str s] fun o => o = (.ret (.bool true, .no), ⟨[], []⟩) := by
  refine Lay.wp_of h3 (fun call => e3x0 call s) ?_
  unfold t3x0
  simp only [tw_callT]
  refine words_wp hs ?_
  cases hw : wordsF s with
  | error x =>
    obtain ⟨p, w⟩ := x
    unfold wordsOut
    simp only [s9x0, tw_needR, tw_needT, true_and, tw_need, tw_nm, tw_ite, tw_done]
    have := words_err hw
    refine ⟨rfl, ?_⟩
    rw [if_pos (by simpa using this), if_pos (by simp)]
    trivial
  | ok l =>
    obtain ⟨h1, h2, h3⟩ := words_order hw
    unfold wordsOut
    simp only [s9x0, tw_needR, tw_needT, true_and, tw_need, tw_nm, tw_ite, tw_done, tw_jump]
    refine ⟨avs_lows l, ?_⟩
    rw [if_neg (by decide)]
    exact order_loop h1 h2 h3 l.length 0 (by omega) (by omega)
end Go.Proofs.YtdiphholophdcaaDoor.T
end
section
/- CONTRACTS OF THE LIBRARY's FUNCTIONS, AS THE RUN OF A CALL AND AS TREES. -/
namespace Go.Ab
open Go.RowKit

/-- a function's run, given from outside -/
abbrev ExtFn := List SV → St → Option (COut × St)
/-- it is the machine's -/
def ExtSound (c : Ctx) (f : FuncId) (g : ExtFn) : Prop := ∀ args S out S', g args S = some (out, S') → Steps1 S.H.length S S' ∧
  ∀ (B : Bd) (w0 : World) (G : Gh) (w : World) (vs : Array Value), Inv c B w0 G S w → RArgs G S.T args vs → CallTo c.P f vs w fun en w' => ∃ G', Inv c B w0 G' S' w' ∧ Grows G S.T G' S'.T ∧ OutR G' S'.T out en

section
variable {c : Ctx} {B : Bd} {w0 : World} {G : Gh} {S : St} {w : World}
theorem args_one {T : List Nat} {x : SV} {vs : Array Value} (h : RArgs G T [x] vs) : ∃ v, vs = #[v] ∧ RS G T x v := by
  obtain ⟨hl, hr⟩ := h
  refine ⟨vs[0]'(by rw [← hl]; simp), ?_, hr 0 (by simp) (by rw [← hl]; simp)⟩
  apply Array.ext
  · exact hl.symm
  · intro i h1 h2
    have : i = 0 := by simpa using h2
    subst this; rfl
theorem args_two {T : List Nat} {x y : SV} {vs : Array Value} (h : RArgs G T [x, y] vs) : ∃ v u, vs = #[v, u] ∧ RS G T x v ∧ RS G T y u := by
  obtain ⟨hl, hr⟩ := h
  refine ⟨vs[0]'(by rw [← hl]; simp), vs[1]'(by rw [← hl]; simp), ?_, hr 0 (by simp) (by rw [← hl]; simp), hr 1 (by simp) (by rw [← hl]; simp)⟩
  apply Array.ext
  · exact hl.symm
  · intro i h1 h2
    have h3 : i < 2 := by simpa using h2
    match i, h3 with
    | 0, _ => rfl
    | 1, _ => rfl
theorem args_three {T : List Nat} {x y z : SV} {vs : Array Value} (h : RArgs G T [x, y, z] vs) : ∃ v u t, vs = #[v, u, t] ∧ RS G T x v ∧ RS G T y u ∧ RS G T z t := by
  obtain ⟨hl, hr⟩ := h
  refine ⟨vs[0]'(by rw [← hl]; simp), vs[1]'(by rw [← hl]; simp), vs[2]'(by rw [← hl]; simp), ?_, hr 0 (by simp) (by rw [← hl]; simp), hr 1 (by simp) (by rw [← hl]; simp), hr 2 (by simp) (by rw [← hl]; simp)⟩
  apply Array.ext
  · exact hl.symm
  · intro i h1 h2
    have h3 : i < 3 := by simpa using h2
    match i, h3 with
    | 0, _ => rfl
    | 1, _ => rfl
    | 2, _ => rfl
theorem list_set_same {α : Type} {l : List α} {i : Nat} {x : α} (h : l[i]? = some x) : l.set i x = l := by
  apply List.ext_getElem?
  intro j
  rw [List.getElem?_set]
  split
  · rename_i e
    subst e
    split
    · exact h.symm
    · rename_i hl
      rw [List.getElem?_eq_none (by omega)]
  · rfl
/-- (*strings.Builder).copyCheck -/
def extCopyCheck (tB : TypeId) : ExtFn := fun args S => match args with
  | [(.ptr b 0, .no)] => match S.H[b]? with
    | some ((.bself t b', .no) :: _) => match Nat.beq t tB && Nat.beq b' b with
      | true => some (.ret (.tup [], .no), S)
      | false => none
    | _ => none
  | _ => none
theorem extCopyCheck_sound {f : FuncId} {tB : TypeId}
    (enter : ∀ vs w, (callFunc f vs).run c.P w = .ok (.enter f vs) w)
    (fresh : ∀ (b : Nat) (w : World), w.cell? ⟨b, 0, none⟩ = some (.pointer none) → w.shape? b = some (tB, 2) → w.frozen? ⟨b, 0, none⟩ = false →
      Calls c.P f #[.pointer (some ⟨b, 0, none⟩)] w fun e w' => e = .returned (.tuple #[]) ∧ w' = w.setCell ⟨b, 0, none⟩ (.pointer (some ⟨b, 0, none⟩)))
    (used : ∀ (b : Nat) (w : World), w.cell? ⟨b, 0, none⟩ = some (.pointer (some ⟨b, 0, none⟩)) →
      Calls c.P f #[.pointer (some ⟨b, 0, none⟩)] w fun e w' => e = .returned (.tuple #[]) ∧ w' = w) : ExtSound c f (extCopyCheck tB) := by
  intro args S out S' h
  unfold extCopyCheck at h
  split at h
  · rename_i b
    split at h
    · rename_i t b' rest hb
      split at h
      · rename_i e
        simp only [Bool.and_eq_true, Nat.beq_eq] at e
        obtain ⟨rfl, rfl⟩ := e
        cases h
        refine ⟨.refl _ _, fun B w0 G w vs inv ha => ?_⟩
        obtain ⟨v0, rfl, h0⟩ := args_one ha
        have h1 := h0.1
        cases h1 with
        | ptr _ _ d hφ =>
          obtain ⟨hB, us, tt, fr, hu, hus, hfr, hR⟩ := inv.blk b' d _ hb hφ
          have h0us : 0 < us.size := by simp at hus; omega
          have hc0 := hR 0 (by simp) h0us
          have hb0 := hc0.1
          simp only [List.getElem_cons_zero] at hb0
          have hty : G.ty d = some (t, 2) := by
            generalize us[0]'h0us = v1 at hb0
            cases hb0 with
            | bself0 _ _ d' h1 h2 => rw [hφ] at h1; cases h1; exact h2
            | bself _ _ d' h1 h2 => rw [hφ] at h1; cases h1; exact h2
          obtain ⟨us', fr', q1, q2, _⟩ := inv.ty d t 2 hty
          rw [hu] at q1
          cases q1
          have hcell : w.cell? ⟨d, 0, none⟩ = some (us[0]'h0us) := by rw [cell_of_heap hu, Array.getElem?_eq_getElem h0us]
          refine .inl ⟨enter _ _, ?_⟩
          generalize hv1 : us[0]'h0us = v1 at hb0 hcell
          cases hb0 with
          | bself0 =>
            refine (fresh d w hcell (by simp [World.shape?, hu, q2]) (frozen_of hu (hfr 0 (by simp)))).mono ?_
            rintro e w' ⟨rfl, rfl⟩
            have hw := setCells_spec d t fr [.pointer (some ⟨d, 0, none⟩)] 0 w us hu
            have e1 : w.setCells d 0 [.pointer (some ⟨d, 0, none⟩)] = w.setCell ⟨d, 0, none⟩ (.pointer (some ⟨d, 0, none⟩)) := rfl
            rw [e1] at hw
            refine ⟨G, ?_, .refl _ _, RS.no (.tup [] #[] rfl (fun i h => absurd h (by simp)))⟩
            have := inv.blkSet (b := b') (cells' := (.bself t b', .no) :: rest) hb hφ hu hw (putRow_size _ _ _) rfl (inv.low b' _ hb) (inv.tag b' _ hb) (fun i h h' => by
              have e2 := putRow_get us 0 #[.pointer (some ⟨d, 0, none⟩)] i
              rw [Array.getElem?_eq_getElem h'] at e2
              match i, h, h', e2 with
              | 0, h, h', e2 =>
                rw [if_pos (by simp; omega)] at e2
                have e3 := Option.some.inj e2
                rw [e3]
                exact RS.no (.bself t b' d hφ hty)
              | i + 1, h, h', e2 =>
                have hi : i + 1 < us.size := by simp only [List.length_cons] at hus h; omega
                rw [if_neg (by simp), Array.getElem?_eq_getElem hi] at e2
                rw [Option.some.inj e2]
                exact hR (i + 1) h hi)
            rwa [list_set_same hb] at this
          | bself _ _ d' h1 h2 =>
            rw [hφ] at h1
            cases h1
            refine (used d w hcell).mono ?_
            rintro e w' ⟨rfl, rfl⟩
            exact ⟨G, inv, .refl _ _, RS.no (.tup [] #[] rfl (fun i h => absurd h (by simp)))⟩
      · cases h
    · cases h
  · cases h
/-- internal/bytealg.IndexByteString -/
def extIndexByteString : ExtFn := fun args S => match args with
  | [(.str s, .no), (.int .u8 c, .no)] => some (.ret (.int .i64 (Lib.indexByte s c.toNat.toUInt8), .no), S)
  | _ => none
theorem extIndexByteString_sound {f : FuncId} {fn : Func} (hf : c.P.funcs[f]? = some fn) (hname : (fn.name == "runtime.NumGoroutine") = false) (hb : fn.body.isNone = true) (hn : Extern.findNext fn = none)
    (he : Extern.find fn = some Extern.BytealgIndexByte.indexByte) : ExtSound c f extIndexByteString := by
  intro args S out S' h
  unfold extIndexByteString at h
  split at h
  · rename_i s n
    cases h
    refine ⟨.refl _ _, fun B w0 G w vs inv ha => ?_⟩
    obtain ⟨v0, v1, rfl, h0, h1⟩ := args_two ha
    have h0 := h0.1
    have h1 := h1.1
    cases h0
    cases h1
    refine .inr ⟨.int .i64 (Lib.indexByte s n.toNat.toUInt8), w, ?_, G, inv, .refl _ _, RS.no (.int _ _)⟩
    rw [run_callFunc_extern hf hname hb hn he, Lib.run_indexByteString]
    rfl
  · cases h
/-- strings.Contains -/
def extContains : ExtFn := fun args S => match args with
  | [(.str s, .no), (.str t, .no)] => match Nat.blt s.length 4294967281 with
    | true => some (.ret (.bool (Lib.contains s t), .no), S)
    | false => none
  | _ => none
theorem extContains_sound {f : FuncId} {g : Nat} (enter : ∀ vs w, (callFunc f vs).run c.P w = .ok (.enter f vs) w) (hk : ∀ I ty, c.know I ty → ∃ m, I g 0 = some (.int .i64 m))
    (hC : ∀ (s sub : ByteArray) (m : Int) (w : World), s.size < 4294967281 → w.cell? ⟨g, 0, none⟩ = some (.int .i64 m) →
      Calls c.P f #[.string s, .string sub] w fun e w' => e = .returned (.bool (Lib.contains s.data.toList sub.data.toList)) ∧ w' = w) : ExtSound c f extContains := by
  intro args S out S' h
  unfold extContains at h
  split at h
  · rename_i s t
    split at h
    · rename_i hl
      cases h
      refine ⟨.refl _ _, fun B w0 G w vs inv ha => .inl ⟨enter _ _, ?_⟩⟩
      obtain ⟨v0, v1, rfl, h0, h1⟩ := args_two ha
      have h0 := h0.1
      have h1 := h1.1
      cases h0
      cases h1
      obtain ⟨m, hm⟩ := hk _ _ (inv.know G.I G.ty (fun _ _ _ h => h) (fun _ _ h => h))
      refine (hC ⟨⟨s⟩⟩ ⟨⟨t⟩⟩ m w (by rw [Nat.blt_eq] at hl; exact hl) (inv.imm _ _ _ hm).1).mono ?_
      rintro e w' ⟨rfl, rfl⟩
      exact ⟨G, inv, .refl _ _, RS.no (.bool _)⟩
    · cases h
  · cases h
/-- strings.Fields -/
def extFields : ExtFn := fun args S => match args with
  | [(.str s, .no)] => match Nat.blt s.length 4294967281 && s.all fun b => Nat.blt b.toNat 128 with
    | true => some (.ret (.sl ((Lib.fields s).map AV.str), .no), S)
    | false => none
  | _ => none
theorem fl_strs : ∀ (l : List (List UInt8)), fl (l.map AV.str) = l.map AV.str
  | [] => rfl
  | x :: l => by
    show (AV.str x).cells ++ fl (l.map AV.str) = _
    rw [fl_strs l]; rfl
theorem extFields_sound {f : FuncId} {g : Nat} {te : TypeId} {name : String} {zs : List Int} (enter : ∀ vs w, (callFunc f vs).run c.P w = .ok (.enter f vs) w)
    (hk : ∀ I ty, c.know I ty → (∃ t, ty g = some (t, zs.length)) ∧ ∀ i : Nat, i < zs.length → I g i = some (.int .u8 (zs.getD i 0))) (hg : c.P.globalNamed name = some g)
    (hC : ∀ (s : ByteArray) (w : World), s.size < 4294967281 → (∀ (j : Nat) b, s.data.toList[j]? = some b → b.toNat < 128) → Lib.TabIs c.P w name .u8 zs → Calls c.P f #[.string s] w fun e w' =>
      e = .returned (.slice (some ⟨w.heap.size, 0, none⟩) (Lib.fields s.data.toList).length (Lib.fields s.data.toList).length) ∧ w' = w.alloc (.cells ((Lib.fields s.data.toList).map fun l => Value.string ⟨l.toArray⟩).toArray te)) :
    ExtSound c f extFields := by
  intro args S out S' h
  unfold extFields at h
  split at h
  · rename_i s
    split at h
    · rename_i hl
      cases h
      simp only [Bool.and_eq_true, Nat.blt_eq, List.all_eq_true] at hl
      obtain ⟨hl, ha8⟩ := hl
      refine ⟨.refl _ _, fun B w0 G w vs inv ha => .inl ⟨enter _ _, ?_⟩⟩
      obtain ⟨v0, rfl, h0⟩ := args_one ha
      have h0 := h0.1
      cases h0
      obtain ⟨⟨t, ht⟩, hm⟩ := hk _ _ (inv.know G.I G.ty (fun _ _ _ h => h) (fun _ _ h => h))
      have htab : Lib.TabIs c.P w name .u8 zs := by
        obtain ⟨us, fr, h1, h2, _⟩ := inv.ty g t _ ht
        unfold Lib.TabIs World.var?
        rw [hg]
        simp only [Option.bind_some, h1]
        congr 1
        apply Array.ext
        · simp [h2]
        · intro i hi hi'
          have hi2 : i < zs.length := by omega
          have h3 := (inv.imm _ _ _ (hm i hi2)).1
          rw [cell_of_heap h1, Array.getElem?_eq_getElem hi] at h3
          rw [Option.some.inj h3]
          simp [List.getD, List.getElem?_eq_getElem hi2]
      refine (hC ⟨⟨s⟩⟩ w hl (fun j b hb => ha8 b (List.mem_of_getElem? hb)) htab).mono ?_
      rintro e w' ⟨rfl, rfl⟩
      have hrow := inv.newRow ((Lib.fields s).map fun l => Value.string ⟨l.toArray⟩).toArray te (Lib.fields s).length (fun i => .string ⟨((Lib.fields s).getD i []).toArray⟩) (fun i hi => by
        simp [List.getElem?_eq_getElem hi, List.getD])
      refine ⟨_, hrow, grows_row inv _ _ _, RS.no ?_⟩
      have hlen : ((Lib.fields s).map AV.str).length = (Lib.fields s).length := by simp
      rw [show (Lib.fields (⟨⟨s⟩⟩ : ByteArray).data.toList).length = ((Lib.fields s).map AV.str).length by simp]
      refine .sl 1 _ _ 0 _ (fun i => .string ⟨((Lib.fields s).getD i []).toArray⟩) ?_ (Nat.le_refl _) ?_ ?_ ?_
      · intro x hx
        obtain ⟨l, _, rfl⟩ := List.mem_map.1 hx
        rfl
      · intro i hi
        rw [fl_strs, hlen] at hi
        simp [Gh.row, hi]
      · intro i hi
        have hi2 := hi
        rw [fl_strs, hlen] at hi2
        have e : (fl ((Lib.fields s).map AV.str))[i] = AV.str ((Lib.fields s).getD i []) := by
          simp [fl_strs, List.getD, List.getElem?_eq_getElem hi2]
        rw [e]
        exact .str _
      · intro i hi; rfl
    · cases h
  · cases h
/-- the run of a call where nothing of the state is reached, as a contract -/
theorem ext_of_spec {f : FuncId} {sp : Go.Ab.Spec} {g : ExtFn} (h : ExtSound c f g) (hg : ∀ args S o, (sp.res args S).is o → g args S = some o) : SpecSound c f sp := fun args S p hp B w0 G w vs inv ha => (h args S p.1 p.2 (hg args S p hp)).2 B w0 G w vs inv ha
end
end Go.Ab
end
section
/-
  DERIVED: THE SHELF's CONTRACTS AT THIS DUMP, IN PLAIN WORDS (tools/lay-plain.mjs out of 'TrydShelf.lean', which tools/lay-shelf.mjs wrote): THE SAME DECLARATIONS UNDER THE SAME NAMES: 'import', 'namespace', 'open', 'def', 'theorem' AND NOTHING ELSE: no command of the shelf's: FOR A HAND-IN. Each laying: the table of numbers ('.._ren') and one theorem, a field a fact of the dump's own or the kernel's comparison; each contract: ONE APPLICATION.
-/
namespace Go.Proofs
open Go.Shelf
def Tryd.lays144_ren : Go.Shelf.Ren := ⟨fun | 144 => 65 | 143 => 83 | 219 => 97 | 217 => 78 | 225 => 104 | 224 => 105 | 267 => 106 | 266 => 93 | 314 => 116 | n => n, fun | 9 => 9 | 4 => 4 | 3 => 3 | 5 => 5 | 46 => 99 | 146 => 136 | 51 => 112 | n => n, fun | 1 => 1 | n => n⟩
theorem Tryd.lays144 : Go.Proofs.Lays.n144 Tryd.prog Tryd.lays144_ren := {
  mixed := by kernel_rfl
  f143 := Tryd.func83.trans (congrArg some (by kernel_rfl))
  f144 := Tryd.func65.trans (congrArg some (by kernel_rfl))
  f217 := Tryd.func78.trans (congrArg some (by kernel_rfl))
  f219 := Tryd.func97.trans (congrArg some (by kernel_rfl))
  f224 := Tryd.func105.trans (congrArg some (by kernel_rfl))
  f225 := Tryd.func104.trans (congrArg some (by kernel_rfl))
  f266 := Tryd.func93.trans (congrArg some (by kernel_rfl))
  f267 := Tryd.func106.trans (congrArg some (by kernel_rfl))
  f314 := Tryd.func116.trans (congrArg some (by kernel_rfl))
  t3 := Tryd.underlying3
  a3 := Tryd.isAgg3
  z3 := Tryd.sizeOf3
  v3 := Tryd.zeroValue3
  t4 := Tryd.underlying4
  a4 := Tryd.isAgg4
  z4 := Tryd.sizeOf4
  v4 := Tryd.zeroValue4
  t5 := Tryd.underlying5
  a5 := Tryd.isAgg5
  z5 := Tryd.sizeOf5
  v5 := Tryd.zeroValue5
  t9 := Tryd.underlying9
  a9 := Tryd.isAgg9
  z9 := Tryd.sizeOf9
  v9 := Tryd.zeroValue9
  t46 := Tryd.underlying99
  a46 := Tryd.isAgg99
  z46 := Tryd.sizeOf99
  v46 := Tryd.zeroValue99
  t51 := Tryd.underlying112
  a51 := Tryd.isAgg112
  z51 := Tryd.sizeOf112
  v51 := Tryd.zeroValue112
  t146 := Tryd.underlying136
  a146 := Tryd.isAgg136
  z146 := Tryd.sizeOf136
  v146 := Tryd.zeroValue136
  g1 := by kernel_rfl }
open Go.RowKit Go.Lib in
/-- strings.Contains: "Contains reports whether substr is within s.": IT RETURNS 'Lib.contains s substr'; the world is as it was. (LAID: no walk: one application.) -/
theorem Tryd.strings_Contains (s sub : ByteArray) (m : Int) (w : World) (hs : s.size < 4294967281) (hm : w.cell? ⟨1, 0, none⟩ = some (.int .i64 m)) :
    Calls Tryd.prog 65 #[.string s, .string sub] w fun e w' => e = .returned (.bool (Lib.contains s.data.toList sub.data.toList)) ∧ w' = w := Any.strings_Contains Tryd.lays144 s sub m w hs hm
def Tryd.lays157_ren : Go.Shelf.Ren := ⟨fun | 157 => 82 | 229 => 95 | 199 => 96 | 261 => 103 | 311 => 114 | 312 => 115 | n => n, fun | 9 => 9 | 31 => 53 | 3 => 3 | 5 => 5 | 4 => 4 | 119 => 103 | 0 => 0 | 40 => 105 | 152 => 109 | 21 => 21 | 154 => 111 | 51 => 112 | 141 => 114 | 196 => 128 | 193 => 125 | 198 => 131 | 49 => 129 | 194 => 126 | 201 => 134 | 226 => 150 | 46 => 99 | 227 => 151 | n => n, fun | 0 => 0 | 6 => 2 | n => n⟩
theorem Tryd.lays157 : Go.Proofs.Lays.n157 Tryd.prog Tryd.lays157_ren := {
  mixed := by kernel_rfl
  f157 := Tryd.func82.trans (congrArg some (by kernel_rfl))
  f199 := Tryd.func96.trans (congrArg some (by kernel_rfl))
  f229 := Tryd.func95.trans (congrArg some (by kernel_rfl))
  f261 := Tryd.func103.trans (congrArg some (by kernel_rfl))
  f311 := Tryd.func114.trans (congrArg some (by kernel_rfl))
  f312 := Tryd.func115.trans (congrArg some (by kernel_rfl))
  t0 := Tryd.underlying0
  a0 := Tryd.isAgg0
  z0 := Tryd.sizeOf0
  v0 := Tryd.zeroValue0
  t3 := Tryd.underlying3
  a3 := Tryd.isAgg3
  z3 := Tryd.sizeOf3
  v3 := Tryd.zeroValue3
  t4 := Tryd.underlying4
  a4 := Tryd.isAgg4
  z4 := Tryd.sizeOf4
  v4 := Tryd.zeroValue4
  t5 := Tryd.underlying5
  a5 := Tryd.isAgg5
  z5 := Tryd.sizeOf5
  v5 := Tryd.zeroValue5
  t9 := Tryd.underlying9
  a9 := Tryd.isAgg9
  z9 := Tryd.sizeOf9
  v9 := Tryd.zeroValue9
  t21 := Tryd.underlying21
  a21 := Tryd.isAgg21
  z21 := Tryd.sizeOf21
  v21 := Tryd.zeroValue21
  t31 := Tryd.underlying53
  a31 := Tryd.isAgg53
  z31 := Tryd.sizeOf53
  v31 := Tryd.zeroValue53
  t40 := Tryd.underlying105
  a40 := Tryd.isAgg105
  z40 := Tryd.sizeOf105
  v40 := Tryd.zeroValue105
  t46 := Tryd.underlying99
  a46 := Tryd.isAgg99
  z46 := Tryd.sizeOf99
  v46 := Tryd.zeroValue99
  t49 := Tryd.underlying129
  a49 := Tryd.isAgg129
  z49 := Tryd.sizeOf129
  v49 := Tryd.zeroValue129
  t51 := Tryd.underlying112
  a51 := Tryd.isAgg112
  z51 := Tryd.sizeOf112
  v51 := Tryd.zeroValue112
  t119 := Tryd.underlying103
  a119 := Tryd.isAgg103
  z119 := Tryd.sizeOf103
  t141 := Tryd.underlying114
  a141 := Tryd.isAgg114
  z141 := Tryd.sizeOf114
  v141 := Tryd.zeroValue114
  t152 := Tryd.underlying109
  a152 := Tryd.isAgg109
  z152 := Tryd.sizeOf109
  v152 := Tryd.zeroValue109
  t154 := Tryd.underlying111
  a154 := Tryd.isAgg111
  z154 := Tryd.sizeOf111
  v154 := Tryd.zeroValue111
  t193 := Tryd.underlying125
  a193 := Tryd.isAgg125
  z193 := Tryd.sizeOf125
  v193 := Tryd.zeroValue125
  t194 := Tryd.underlying126
  a194 := Tryd.isAgg126
  z194 := Tryd.sizeOf126
  v194 := Tryd.zeroValue126
  t196 := Tryd.underlying128
  a196 := Tryd.isAgg128
  z196 := Tryd.sizeOf128
  v196 := Tryd.zeroValue128
  t198 := Tryd.underlying131
  a198 := Tryd.isAgg131
  z198 := Tryd.sizeOf131
  v198 := Tryd.zeroValue131
  t201 := Tryd.underlying134
  a201 := Tryd.isAgg134
  z201 := Tryd.sizeOf134
  v201 := Tryd.zeroValue134
  t226 := Tryd.underlying150
  a226 := Tryd.isAgg150
  z226 := Tryd.sizeOf150
  v226 := Tryd.zeroValue150
  t227 := Tryd.underlying151
  a227 := Tryd.isAgg151
  z227 := Tryd.sizeOf151
  v227 := Tryd.zeroValue151
  g0 := by kernel_rfl
  g6 := by kernel_rfl }
open Go.RowKit Go.Lib in
/-- strings.Fields, the table by 'Lib.TabIs' (as strings.TrimSpace's contract). 'hg': the table's number, by its name: at a dump 'by kernel_rfl'. (LAID: no walk: one application.) -/
theorem Tryd.strings_Fields (s : ByteArray) (w : World) (hs : s.size < 4294967281) (hascii : ∀ (j : Nat) b, s.data.toList[j]? = some b → b.toNat < 128) (htab : Lib.TabIs Tryd.prog w "strings.asciiSpace" .u8 Lib.asciiSpaceTab) :
    Calls Tryd.prog 82 #[.string s] w fun e w' =>
      e = .returned (.slice (some ⟨w.heap.size, 0, none⟩) (Lib.fields s.data.toList).length (Lib.fields s.data.toList).length) ∧ w' = w.alloc (.cells ((Lib.fields s.data.toList).map fun l => Value.string ⟨l.toArray⟩).toArray 9) := Any.strings_Fields Tryd.lays157 (by kernel_rfl) (by kernel_rfl) s w hs hascii htab
end Go.Proofs
end
section
open Go Go.Ab
namespace Go.Proofs.YtdiphholophdcaaDoor.T
set_option maxHeartbeats 1000000 in
set_option maxRecDepth 100000 in
theorem copyCheck_used (b : Nat) (w : World) (h0 : w.cell? ⟨b, 0, none⟩ = some (.pointer (some ⟨b, 0, none⟩))) :
    Calls Tryd.prog 66 #[.pointer (some ⟨b, 0, none⟩)] w fun e w' => e = .returned (.tuple #[]) ∧ w' = w := by
  have sz : (Tryd.prog.info? 59).map (·.size) = some 2 := by kernel_rfl
  obtain ⟨j, hj, _⟩ := Option.map_eq_some_iff.1 sz
  go_enter Tryd.func66, Tryd.ntmps66
  go_wp2
  rw [Lib.run_neq_ptr_same w _ (by kernel_rfl : Tryd.prog.underlying 56 = some (.pointer 59)) hj]
  go_wp2
  go_end0
  exact ⟨rfl, rfl⟩

set_option maxHeartbeats 1000000 in
set_option maxRecDepth 100000 in
theorem copyCheck_fresh (b : Nat) (w : World) (h0 : w.cell? ⟨b, 0, none⟩ = some (.pointer none)) (hsh : w.shape? b = some (59, 2)) (hfz : w.frozen? ⟨b, 0, none⟩ = false) :
    Calls Tryd.prog 66 #[.pointer (some ⟨b, 0, none⟩)] w fun e w' => e = .returned (.tuple #[]) ∧ w' = w.setCell ⟨b, 0, none⟩ (.pointer (some ⟨b, 0, none⟩)) := by
  have sz : (Tryd.prog.info? 59).map (·.size) = some 2 := by kernel_rfl
  have lies : liesAt Tryd.prog Tryd.prog.depth 59 (2 / Tryd.prog.cellsOf 59) 0 59 1 = true := by kernel_rfl
  obtain ⟨j, hj, hjs⟩ := Option.map_eq_some_iff.1 sz
  have u56 : Tryd.prog.underlying 56 = some (.pointer 59) := by kernel_rfl
  have u92 : Tryd.prog.underlying 92 = some .unsafePointer := by kernel_rfl
  go_enter Tryd.func66, Tryd.ntmps66
  go_wp2
  rw [Lib.run_to_unsafe w ⟨b, 0, none⟩ u56 u92 hj (by rw [hjs]; decide) hsh (Nat.zero_lt_succ 1)]
  simp only [Result.andThen]
  rw [Oper.upon_value]
  go_wp2
  rw [run_callFunc_extern Tryd.func84 (by kernel_rfl) (by kernel_rfl) (by kernel_rfl) (e := Extern.AbiNoEscape.same) (by kernel_rfl)]
  rw [Lib.run_noEscape]
  simp only [Result.andThen]
  rw [Oper.upon_value]
  go_wp2
  rw [Lib.run_from_unsafe w ⟨b, 0, none⟩ u92 u56 hj hsh lies]
  simp only [Result.andThen]
  rw [Oper.upon_value]
  go_wp2
  go_end0
  exact ⟨rfl, rfl⟩
theorem enter66 (vs : Array Value) (w : World) : (callFunc 66 vs).run cx.P w = .ok (.enter 66 vs) w := enter_run Tryd.func66 (hname 66 _ Tryd.func66) (k := bodyOf Tryd.f66) rfl vs w
theorem sound66 : SpecSound cx 66 (specCopyCheck 59 5) := copyCheck_sound enter66 copyCheck_fresh copyCheck_used
theorem ext66 : ExtSound cx 66 (extCopyCheck 59) := extCopyCheck_sound enter66 copyCheck_fresh copyCheck_used
theorem sound93 : SpecSound cx 93 specIndexByteString := indexByteString_sound Tryd.func93 (hname 93 _ Tryd.func93) (by kernel_rfl) (by kernel_rfl) (by kernel_rfl)
theorem ext93 : ExtSound cx 93 extIndexByteString := extIndexByteString_sound Tryd.func93 (hname 93 _ Tryd.func93) (by kernel_rfl) (by kernel_rfl) (by kernel_rfl)
theorem ext65 : ExtSound cx 65 extContains := extContains_sound (g := 1) (fun vs w => enter_run Tryd.func65 (hname 65 _ Tryd.func65) (k := bodyOf Tryd.f65) rfl vs w) (fun _ _ h => h.1) fun s sub m w hs hm => Tryd.strings_Contains s sub m w hs hm
theorem ext82 : ExtSound cx 82 extFields := extFields_sound (g := 0) (name := "strings.asciiSpace") (zs := Lib.asciiSpaceTab) (fun vs w => enter_run Tryd.func82 (hname 82 _ Tryd.func82) (k := bodyOf Tryd.f82) rfl vs w) (fun _ _ h => h.2) (by kernel_rfl) fun s w hs ha ht => Tryd.strings_Fields s w hs ha ht
theorem sound65 : SpecSound cx 65 specContains := ext_of_spec ext65 fun args S o h => by
  unfold specContains at h
  simp only at h
  split at h
  · have h2 := h.2 _ rfl
    cases h2
    have h1 : Nat.blt _ 4294967281 = true := Nat.blt_eq.mpr h.1
    simp only [extContains, h1]
  · exact h.elim
theorem sound82 : SpecSound cx 82 specFields := ext_of_spec ext82 fun args S o h => by
  unfold specFields at h
  simp only at h
  split at h
  · have h2 := h.2 _ rfl
    cases h2
    have h1 : Nat.blt _ 4294967281 = true := Nat.blt_eq.mpr h.1.1
    have h3 : (List.all _ fun b : UInt8 => Nat.blt b.toNat 128) = true := List.all_eq_true.2 fun b hb => Nat.blt_eq.mpr (h.1.2 b hb)
    simp only [extFields, h1, h3, Bool.and_self]
  · exact h.elim
/-- the functions that the run is given -/
def extT : FuncId → Option ExtFn
  | 65 => some extContains
  | 66 => some (extCopyCheck 59)
  | 82 => some extFields
  | 93 => some extIndexByteString
  | _ => none
theorem extT_sound : ∀ f g, extT f = some g → ExtSound cx f g := by
  intro f g h
  unfold extT at h
  split at h
  · cases h; exact ext65
  · cases h; exact ext66
  · cases h; exact ext82
  · cases h; exact ext93
  · cases h
theorem runs (n : Nat) : CallSound cx (Ctx.call cx pre extT n) := run_sound hm hname extT_sound n
end Go.Proofs.YtdiphholophdcaaDoor.T
end
section
open Go Go.Ab
namespace Go.Proofs.YtdiphholophdcaaDoor.T
set_option maxRecDepth 100000
theorem run10 : Ctx.call cx pre extT 300 10 [] ⟨[], []⟩ = some (.ret (.bool true, .no), ⟨[], []⟩) := by kernel_rfl
theorem sound10 : SpecSound cx 10 Go.Ab.specTrue := specTrue_sound (runs 300) run10
end Go.Proofs.YtdiphholophdcaaDoor.T
end
section
open Go Go.Ab
namespace Go.Proofs.YtdiphholophdcaaDoor.T
theorem fns_ok : FnsOk cx.P [(3, d3), (5, d5), (9, d9), (17, d17), (18, d18), (32, d32), (33, d33), (34, d34), (35, d35), (37, d37), (38, d38), (39, d39), (42, d42), (43, d43), (44, d44), (54, d54), (55, d55), (56, d56), (57, d57), (58, d58), (59, d59), (60, d60), (61, d61), (62, d62), (63, d63), (64, d64), (78, d78), (79, d79), (80, d80), (81, d81), (94, d94)] :=
  .cons Tryd.func3 rfl (
  .cons Tryd.func5 rfl (
  .cons Tryd.func9 rfl (
  .cons Tryd.func17 rfl (
  .cons Tryd.func18 rfl (
  .cons Tryd.func32 rfl (
  .cons Tryd.func33 rfl (
  .cons Tryd.func34 rfl (
  .cons Tryd.func35 rfl (
  .cons Tryd.func37 rfl (
  .cons Tryd.func38 rfl (
  .cons Tryd.func39 rfl (
  .cons Tryd.func42 rfl (
  .cons Tryd.func43 rfl (
  .cons Tryd.func44 rfl (
  .cons Tryd.func54 rfl (
  .cons Tryd.func55 rfl (
  .cons Tryd.func56 rfl (
  .cons Tryd.func57 rfl (
  .cons Tryd.func58 rfl (
  .cons Tryd.func59 rfl (
  .cons Tryd.func60 rfl (
  .cons Tryd.func61 rfl (
  .cons Tryd.func62 rfl (
  .cons Tryd.func63 rfl (
  .cons Tryd.func64 rfl (
  .cons Tryd.func78 rfl (
  .cons Tryd.func79 rfl (
  .cons Tryd.func80 rfl (
  .cons Tryd.func81 rfl (
  .cons Tryd.func94 rfl (
  .nil)))))))))))))))))))))))))))))))
theorem exts_ok : ExtsOk cx [(10, specTrue), (65, specContains), (66, specCopyCheck 59 5), (82, specFields), (93, specIndexByteString)] :=
  .cons sound10 (.cons sound65 (.cons sound66 (.cons sound82 (.cons sound93 (.nil)))))
theorem fits : lay.Fits := ⟨hm, hname, fun _ _ h => fns_ok.mem (fnsL_mem h), fun _ _ h => exts_ok.mem (extL_mem h)⟩
end Go.Proofs.YtdiphholophdcaaDoor.T
end
section
/- THE PLAIN WRAP WITH BOTH: what the row lists, and the world's shape. -/
namespace Go.Ab
open Go.RowKit
variable {H : Type} {enc : TypeId × Value → H}
theorem returnsInHanded_and_shaped {a : Assume} {C : Checked} {os : Os} {f : FuncId} {fn : Func} {s : ChangeSpec} {conds : List PathCond} {apart fresh handsOn again : Bool} {X : World → Array Value → Prop}
    (hX : ∀ (w w' : World) (args : Array Value), w.heap = w'.heap → X w args → X w' args)
    (own : ownKnob C.prog.godebug = none) (started : os.Started) (noInit : C.prog.inits.idxOf? f = none) (hfn : C.prog.funcs[f]? = some fn)
    (witness : ∃ (w : World) (tape : Tape) (i : Input), w.os = os ∧ (w.forCall tape i).Shaped C.prog ∧ i.vars = [] ∧ Input.okWide C.prog (w.forCall tape i) .any w.heap.size f i ∧
      ((s.pre enc C.prog fn conds apart (w.forCall tape i).memory i.args ∧ X (w.forCall tape i).memory i.args) ∧ sizedMet enc C.prog fn (OpenSpec.ofChange s) apart (w.forCall tape i).memory i.args) ∧ a.holds C.prog (lone (Frame.enter C.prog f i.args .normal) [] (w.forCall tape i)))
    (contract : ∀ (W : World) (base : Nat) (args : Array Value) (ds gs : List (DataW H)) (before : List MemPlace),
      (∀ (j : Nat) t v, fn.params[j]? = some t → args[j]? = some v → Value.okWide C.prog W .any base t v) →
      DataW.Whole enc C.prog fn.params.toList s.vars apart W args.toList ds gs before →
      conds.all (PathCond.test C.prog ⟨fn.params.toList, ds, s.plain.varTypes C.prog, gs⟩) = true →
      (DataW.weightsEach C.prog (fn.params.toList ++ s.plain.varTypes C.prog) (ds ++ gs)).all (· ≤ reachBytes) = true → X W args → W.ShapedOpen C.prog →
      a.holds C.prog (lone (Frame.enter C.prog f args .normal) [] W) →
      Calls C.prog f args W fun e W' => ∃ v, e = .returned v ∧ s.post enc C.prog fn apart fresh handsOn again W args v W') :
    ReturnsInHanded a C os f .any (fun w args => (s.pre enc C.prog fn conds apart w args ∧ X w args) ∧ sizedMet enc C.prog fn (OpenSpec.ofChange s) apart w args) (s.post enc C.prog fn apart fresh handsOn again) := by
  refine returnsInHanded_of_calls own started noInit witness ?_
  intro w tape i _ hsh _ hok hpre hholds
  obtain ⟨_, _, _, fn', hfn', _, _, _, _, hval⟩ := hok
  have e : fn' = fn := Option.some.inj (hfn'.symm.trans hfn)
  subst e
  obtain ⟨⟨⟨ds, gs, before, hw, hc⟩, hx⟩, hz⟩ := hpre
  have hw' := DataW.Whole.of_heap (w' := w.forCall tape i) (by rfl) hw
  refine (contract (w.forCall tape i) w.heap.size i.args ds gs before hval hw' hc (hz.weights hw) (hX _ _ _ (by rfl) hx) hsh hholds).mono fun e W' ⟨v, he, hp⟩ => ?_
  subst he
  exact ChangeSpec.post_blind hp
/-- a variable's row, whose type and size the world's shape tells -/
theorem tyOf_global {P : Program} {W : World} {g : Nat} {t : TypeId} {zero : Array Value} (h : W.ShapedOpen P) (hg : g < P.globals.size)
    (h0 : ((begin P (fun _ _ => 0) default).world.heap[g]?).bind Obj.row? = some (zero, t)) : ∃ t', tyOf W g = some (t', zero.size) := by
  obtain ⟨cs, hh, hs, hr⟩ := h.1 g zero t hg h0
  exact ⟨t, by simp [tyOf, hh, hs]⟩
end Go.Ab
end
