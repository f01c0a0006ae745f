import Derived.Test.YtdiphholophdcaaDoorXKTrEA
import Derived.OpenShut
import Derived.Shelf.Strings.OnBuilder
import Derived.Room.Shelf.Join48
import Derived.Test.YtdiphholophdcaaDoorProg
import Derived.Test.YtdiphholophdcaaDoorXKAbT4
import Derived.Lib.Walk
import Derived.WalkKit
import Derived.ProofKit
import Derived.Test.YtdiphholophdcaaDoorXKTrED
import Derived.SizedLaws
import Derived.LaidMore
import Derived.Shelf.Vars
import Derived.Lib.LaidTab
set_option linter.all false
section
open Go Go.Ab
/- THE REFERENCE's Parts AND Can. -/
namespace Go.Proofs.YtdiphholophdcaaDoor.T
variable {K : Out → Prop}
mutual
theorem parts_wp : ∀ (x : Re) (dp room : Int) {K : Out → Prop}, 0 ≤ dp → dp ≤ 1000 → 0 ≤ room → room ≤ 1000 →
    (∀ p : Int, 1 ≤ p → p ≤ room + 1 → (p ≤ room → p = (x.nodes : Nat)) → K (.ret (.int .i64 p, .no), ⟨[], []⟩)) → lay.Wp 45 0 (x.av.cells ++ [.int .i64 dp, .int .i64 room]) K
  | .mk k a b c d mn mx l, dp, room, K, h1, h2, h3, h4, h => by
    rw [re_cells]
    refine Lay.wp_of h45 (fun call => e45x0 call _ _ _ _ _ _ _ _ _ _) ?_
    unfold t45x0
    simp only [tw_jump]
    refine partsL_wp l l 0 1 dp room rfl h1 h2 h3 h4 (by omega) (by omega) k a b c d mn mx fun p q1 q2 q3 => h p (by omega) q2 fun q => ?_
    rw [q3 q, Re.nodes]; omega
theorem partsL_wp : ∀ (l L : List Re) (i : Nat) (n dp room : Int), l = L.drop i → 0 ≤ dp → dp ≤ 1000 → 0 ≤ room → room ≤ 1000 → (i : Int) + 1 ≤ n → n ≤ room + 1 → ∀ (k a b c d mn mx : Int) {K : Out → Prop},
    (∀ p : Int, n ≤ p → p ≤ room + 1 → (p ≤ room → p = n + (Re.nodesL l : Nat)) → K (.ret (.int .i64 p, .no), ⟨[], []⟩)) →
    lay.Wp 45 1 [.int .i64 dp, .int .i64 room, .int .i64 n, .int .i64 (i : Nat), .int .i64 k, .int .u64 a, .int .u64 b, .int .u64 c, .int .u64 d, .int .i64 mn, .int .i64 mx, .sl (Re.avs L)] K
  | [], L, i, n, dp, room, hi, h1, h2, h3, h4, h5, h6, k, a, b, c, d, mn, mx, K, h => by
    have hi : L.length ≤ i := List.drop_eq_nil_iff.1 hi.symm
    have w2 : IntKind.wrap .i64 (room + 1) = room + 1 := wrap64 (by omega) (by omega)
    refine Lay.wp_of h45 (fun call => e45x1 call _ _ _ _ _ _ _ _ _ _ _ _) ?_
    unfold t45x1
    simp only [w2, tw_nm, tw_ite, tw_done, avs_len]
    rw [if_neg (by simp; omega)]
    by_cases c0 : dp ≤ 0
    · rw [if_pos (by simpa using c0)]
      exact h _ (by omega) (by omega) (by omega)
    · rw [if_neg (by simpa using c0)]
      exact h _ (by omega) (by omega) (by simp [Re.nodesL])
  | x :: l, L, i, n, dp, room, hi, h1, h2, h3, h4, h5, h6, k, a, b, c, d, mn, mx, K, h => by
    have hlt : i < L.length := by
      rcases Nat.lt_or_ge i L.length with g | g
      · exact g
      · rw [List.drop_eq_nil_of_le g] at hi; cases hi
    have hd := List.drop_eq_getElem_cons hlt
    rw [← hi] at hd
    obtain ⟨hx, hl⟩ := List.cons.inj hd
    have e := elemAt_avs hlt
    rw [← hx] at e
    have w1 : IntKind.wrap .i64 (((i : Nat) : Int) + 1) = ((i + 1 : Nat) : Int) := by rw [wrap64 (by omega) (by omega)]; omega
    have w2 : IntKind.wrap .i64 (room + 1) = room + 1 := wrap64 (by omega) (by omega)
    have w3 : IntKind.wrap .i64 (dp - 1) = dp - 1 := wrap64 (by omega) (by omega)
    have w4 : IntKind.wrap .i64 (room - n) = room - n := wrap64 (by omega) (by omega)
    have hcall := fun (q1 : 0 < dp) (q2 : n ≤ room) K' h' => parts_wp x (dp - 1) (room - n) (K := K') (by omega) (by omega) (by omega) (by omega) h'
    have hnode := nodes_pos x
    simp only [Re.nodesL] at h
    have hstop : room < n → K (.ret (.int .i64 n, .no), ⟨[], []⟩) := fun q => h _ (by omega) (by omega) (by omega)
    have hstop2 : K (.ret (.int .i64 (room + 1), .no), ⟨[], []⟩) := h _ (by omega) (by omega) (by omega)
    have next := fun (p : Int) (q1 : 1 ≤ p) (q2 : p ≤ room - n + 1) (q3 : p ≤ room - n → p = (x.nodes : Nat)) => partsL_wp l L (i + 1) (n + p) dp room hl h1 h2 h3 h4 (by omega) (by omega) k a b c d mn mx (K := K) fun t t1 t2 t3 => h t (by omega) t2 fun t4 => by
      have := t3 t4
      have := q3 (by omega)
      omega
    obtain ⟨k', a', b', c', d', mn', mx', l', rfl⟩ := outR x
    rw [re_cells] at e hcall
    refine Lay.wp_of h45 (fun call => e45x1 call _ _ _ _ _ _ _ _ _ _ _ _) ?_
    unfold t45x1
    simp only [e, w1, w2, w3, w4, tw_nm, tw_ite, tw_opnS, openC_int, openC_sl, openC_nil, tw_need, tw_done, tw_callT, avs_len]
    rw [if_pos (by simp; omega)]
    by_cases c1 : n ≤ room
    · rw [if_pos (by simpa using c1)]
      by_cases c2 : 0 < dp
      · rw [if_pos (by simpa using c2)]
        refine ⟨avs_low l', hcall c2 c1 _ fun p q1 q2 q3 => ?_⟩
        have w5 : IntKind.wrap .i64 (n + p) = n + p := wrap64 (by omega) (by omega)
        simp only [s45x0, w5, tw_needR, tw_needT, true_and, tw_nm, tw_jump]
        exact next p q1 q2 q3
      · rw [if_neg (by simpa using c2), if_pos (by simp; omega)]
        exact hstop2
    · rw [if_neg (by simpa using c1)]
      by_cases c2 : dp ≤ 0
      · rw [if_pos (by simpa using c2)]
        exact hstop2
      · rw [if_neg (by simpa using c2)]
        exact hstop (by omega)
end
/-- what is small -/
theorem small_wp {x : Re} (h : ∀ b : Bool, (b = true → x.nodes ≤ 400) → K (.ret (.bool b, .no), ⟨[], []⟩)) : lay.Wp 19 0 x.av.cells K := by
  have hp := fun K' h' => parts_wp x 150 400 (K := K') (by decide) (by decide) (by decide) (by decide) h'
  obtain ⟨k, a, b, c, d, mn, mx, l, rfl⟩ := outR x
  rw [re_cells] at hp ⊢
  refine Lay.wp_of h19 (fun call => e19x0 call _ _ _ _ _ _ _ _) ?_
  unfold t19x0
  simp only [tw_need, tw_callT]
  refine ⟨avs_low l, hp _ fun p q1 q2 q3 => ?_⟩
  simp only [s45x0, tw_needR, tw_needT, true_and, tw_nm, tw_done]
  refine h _ fun e => ?_
  have e : p ≤ 400 := by simpa using e
  have := q3 e
  omega
mutual
theorem fits_nodes : ∀ x : Re, x.nodes ≤ 1000000 → x.fits
  | .mk _ _ _ _ _ _ _ l, h => by
    simp only [Re.nodes] at h
    have := nodesL_len l
    have hb : big = 1152921504606846976 := rfl
    exact ⟨by omega, fitsL_nodes l (by omega)⟩
theorem fitsL_nodes : ∀ l : List Re, Re.nodesL l ≤ 1000000 → Re.fitsL l
  | [], _ => trivial
  | x :: r, h => by
    simp only [Re.nodesL] at h
    exact ⟨fits_nodes x (by omega), fitsL_nodes r (by omega)⟩
end
/-! ### Can -/
theorem canF_alt (k a b c d mn mx w dp : Int) (l : List Re) : canF (.mk k a b c d mn mx l) w dp =
    if 100 < dp ∨ k < 0 ∨ 6 < k ∨ (k ≠ 1 ∧ ¬ (a = 0 ∧ b = 0 ∧ c = 0 ∧ d = 0)) ∨ (k ≠ 6 ∧ (mn ≠ 0 ∨ mx ≠ 0)) ∨ (k < 4 ∧ 0 < l.length) then false
    else if (k = 0 ∧ w = 4) ∨ ((k = 4 ∨ k = 5) ∧ (k = w ∨ l.length < 2)) then false
    else if k = 6 ∧ (l.length ≠ 1 ∨ mn < 0 ∨ 50 < mn ∨ (mx ≠ -1 ∧ (mx < mn ∨ 50 < mx))) then false else canL l k (dp + 1) := by
  have hz : l.length = 0 → canL l k (dp + 1) = true := fun h0 => by rw [List.length_eq_zero_iff.1 h0, canL]
  unfold canF
  by_cases z : l.length = 0
  · rw [hz z]
    repeat' split
    all_goals first | rfl | (exfalso; omega) | (simp only [Bool.and_eq_true, Bool.and_eq_false_iff, decide_eq_true_eq, decide_eq_false_iff_not]; omega)
  · repeat' split
    all_goals first | rfl | (exfalso; omega) | (simp only [Bool.and_eq_true, Bool.and_eq_false_iff, decide_eq_true_eq, decide_eq_false_iff_not]; omega)
mutual
theorem canR_wp : ∀ (x : Re) (w dp : Int) {K : Out → Prop}, x.nodes ≤ 1000000 → 0 ≤ dp → dp ≤ 1000 → K (.ret (.bool (canF x w dp), .no), ⟨[], []⟩) → lay.Wp 21 0 (x.av.cells ++ [.int .i64 w, .int .i64 dp]) K
  | .mk k a b c d mn mx l, w, dp, K, hn, h1, h2, h => by
    rw [re_cells]
    simp only [Re.nodes] at hn
    have hln := nodesL_len l
    have end1 (h : K (.ret (.bool false, .no), ⟨[], []⟩)) (b3 : Bool) : lay.Wp 21 1 [.int .i64 w, .int .i64 dp, .int .i64 k, .bool b3, .int .i64 k, .int .u64 a, .int .u64 b, .int .u64 c, .int .u64 d, .int .i64 mn, .int .i64 mx, .sl (Re.avs l)] K := by
      refine Lay.wp_of h21 (fun call => e21x1 call _ _ _ _ _ _ _ _ _ _ _ _) ?_
      unfold t21x1
      simp only [tw_done]
      exact h
    have end3 (h : K (.ret (.bool false, .no), ⟨[], []⟩)) (b2 b3 : Bool) : lay.Wp 21 3 [.int .i64 dp, .int .i64 k, .bool b2, .bool b3, .int .i64 k, .int .u64 a, .int .u64 b, .int .u64 c, .int .u64 d, .int .i64 mn, .int .i64 mx, .sl (Re.avs l)] K := by
      refine Lay.wp_of h21 (fun call => e21x3 call _ _ _ _ _ _ _ _ _ _ _ _) ?_
      unfold t21x3
      simp only [tw_done]
      exact h
    have end5 (h : K (.ret (.bool false, .no), ⟨[], []⟩)) (b2 b3 b4 : Bool) : lay.Wp 21 5 [.int .i64 dp, .int .i64 k, .bool b2, .bool b3, .bool b4, .int .i64 k, .int .u64 a, .int .u64 b, .int .u64 c, .int .u64 d, .int .i64 mn, .int .i64 mx, .sl (Re.avs l)] K := by
      refine Lay.wp_of h21 (fun call => e21x5 call _ _ _ _ _ _ _ _ _ _ _ _ _) ?_
      unfold t21x5
      simp only [tw_done]
      exact h
    have loop (hdp : dp ≤ 100) (h : K (.ret (.bool (canL l k (dp + 1)), .no), ⟨[], []⟩)) (b2 b3 b4 : Bool) : lay.Wp 21 6 [.int .i64 dp, .int .i64 k, .bool b2, .bool b3, .bool b4, .int .i64 k, .int .u64 a, .int .u64 b, .int .u64 c, .int .u64 d, .int .i64 mn, .int .i64 mx, .sl (Re.avs l)] K := by
      refine Lay.wp_of h21 (fun call => e21x6 call _ _ _ _ _ _ _ _ _ _ _ _ _) ?_
      unfold t21x6
      simp only [tw_jump]
      exact canRL_wp l l 0 k dp rfl (by omega) (by omega) h1 hdp b2 b3 b4 k a b c d mn mx h
    have four (hdp : dp ≤ 100) (h : K (.ret (.bool (if k = 6 ∧ (l.length ≠ 1 ∨ mn < 0 ∨ 50 < mn ∨ (mx ≠ -1 ∧ (mx < mn ∨ 50 < mx))) then false else canL l k (dp + 1)), .no), ⟨[], []⟩)) (b2 b3 : Bool) :
        lay.Wp 21 4 [.int .i64 dp, .int .i64 k, .bool b2, .bool b3, .int .i64 k, .int .u64 a, .int .u64 b, .int .u64 c, .int .u64 d, .int .i64 mn, .int .i64 mx, .sl (Re.avs l)] K := by
      refine Lay.wp_of h21 (fun call => e21x4 call _ _ _ _ _ _ _ _ _ _ _ _) ?_
      unfold t21x4
      simp only [tw_nm, tw_ite, tw_jump, avs_len]
      by_cases c6 : k = 6
      · rw [if_pos (by simpa using c6)]
        by_cases d1 : l.length = 1
        · rw [if_neg (by simp; omega)]
          by_cases d2 : mn < 0
          · rw [if_pos (by simpa using d2)]
            rw [if_pos ⟨c6, by omega⟩] at h
            exact end5 h _ _ _
          rw [if_neg (by simpa using d2)]
          by_cases d3 : mn > 50
          · rw [if_pos (by simpa using d3)]
            rw [if_pos ⟨c6, by omega⟩] at h
            exact end5 h _ _ _
          rw [if_neg (by simpa using d3)]
          by_cases d4 : mx > 50
          · rw [if_pos (by simpa using d4)]
            rw [if_pos ⟨c6, by omega⟩] at h
            exact end5 h _ _ _
          rw [if_neg (by simpa using d4)]
          by_cases d5 : mx < mn
          · rw [if_pos (by simpa using d5)]
            by_cases d6 : mx = -1
            · rw [if_neg (by simp [d6])]
              rw [if_neg (by omega)] at h
              exact loop hdp h _ _ _
            · rw [if_pos (by simpa using d6)]
              rw [if_pos ⟨c6, by omega⟩] at h
              exact end5 h _ _ _
          · rw [if_neg (by simpa using d5)]
            rw [if_neg (by omega)] at h
            exact loop hdp h _ _ _
        · rw [if_pos (by simp; omega)]
          rw [if_pos ⟨c6, .inl d1⟩] at h
          exact end5 h _ _ _
      · rw [if_neg (by simpa using c6)]
        rw [if_neg (fun e => c6 e.1)] at h
        exact loop hdp h _ _ _
    have two (hdp : dp ≤ 100) (h : K (.ret (.bool (if (k = 0 ∧ w = 4) ∨ ((k = 4 ∨ k = 5) ∧ (k = w ∨ l.length < 2)) then false else if k = 6 ∧ (l.length ≠ 1 ∨ mn < 0 ∨ 50 < mn ∨ (mx ≠ -1 ∧ (mx < mn ∨ 50 < mx))) then false else canL l k (dp + 1)), .no), ⟨[], []⟩)) (b3 : Bool) :
        lay.Wp 21 2 [.int .i64 w, .int .i64 dp, .int .i64 k, .bool b3, .int .i64 k, .int .u64 a, .int .u64 b, .int .u64 c, .int .u64 d, .int .i64 mn, .int .i64 mx, .sl (Re.avs l)] K := by
      refine Lay.wp_of h21 (fun call => e21x2 call _ _ _ _ _ _ _ _ _ _ _ _) ?_
      unfold t21x2
      simp only [tw_nm, tw_ite, tw_jump, avs_len]
      by_cases c0 : k = 0
      · subst c0
        rw [if_pos (by rfl)]
        by_cases c1 : w = 4
        · rw [if_pos (by simpa using c1)]
          rw [if_pos (.inl ⟨rfl, c1⟩)] at h
          exact end3 h _ _
        · rw [if_neg (by simpa using c1), if_neg (by decide), if_neg (by decide)]
          rw [if_neg (by omega)] at h
          exact four hdp h _ _
      rw [if_neg (by simpa using c0)]
      by_cases c4 : k = 4
      · rw [if_pos (by simpa using c4)]
        by_cases c1 : k = w
        · rw [if_pos (by simpa using c1)]
          rw [if_pos (.inr ⟨.inl c4, .inl c1⟩)] at h
          exact end3 h _ _
        · rw [if_neg (by simpa using c1)]
          by_cases c2 : l.length < 2
          · rw [if_pos (by simp; omega)]
            rw [if_pos (.inr ⟨.inl c4, .inr c2⟩)] at h
            exact end3 h _ _
          · rw [if_neg (by simp; omega)]
            rw [if_neg (by omega)] at h
            exact four hdp h _ _
      rw [if_neg (by simpa using c4)]
      by_cases c5 : k = 5
      · rw [if_pos (by simpa using c5)]
        by_cases c1 : k = w
        · rw [if_pos (by simpa using c1)]
          rw [if_pos (.inr ⟨.inr c5, .inl c1⟩)] at h
          exact end3 h _ _
        · rw [if_neg (by simpa using c1)]
          by_cases c2 : l.length < 2
          · rw [if_pos (by simp; omega)]
            rw [if_pos (.inr ⟨.inr c5, .inr c2⟩)] at h
            exact end3 h _ _
          · rw [if_neg (by simp; omega)]
            rw [if_neg (by omega)] at h
            exact four hdp h _ _
      rw [if_neg (by simpa using c5)]
      rw [if_neg (by omega)] at h
      exact four hdp h _ _
    rw [canF_alt] at h
    refine Lay.wp_of h21 (fun call => e21x0 call _ _ _ _ _ _ _ _ _ _) ?_
    unfold t21x0
    simp only [tw_nm, tw_ite, tw_jump, avs_len]
    by_cases c1 : dp > 100
    · rw [if_pos (by simpa using c1)]
      rw [if_pos (.inl c1)] at h
      exact end1 h _
    rw [if_neg (by simpa using c1)]
    by_cases c2 : k < 0
    · rw [if_pos (by simpa using c2)]
      rw [if_pos (.inr (.inl c2))] at h
      exact end1 h _
    rw [if_neg (by simpa using c2)]
    by_cases c3 : k > 6
    · rw [if_pos (by simpa using c3)]
      rw [if_pos (.inr (.inr (.inl c3)))] at h
      exact end1 h _
    rw [if_neg (by simpa using c3)]
    have fin (hs : ¬ (k ≠ 1 ∧ ¬ (a = 0 ∧ b = 0 ∧ c = 0 ∧ d = 0))) (hm : ¬ (k ≠ 6 ∧ (mn ≠ 0 ∨ mx ≠ 0))) :
        (if decide (k < 4) = true then if decide (((l.length : Nat) : Int) > 0) = true then
            lay.Wp 21 1 [.int .i64 w, .int .i64 dp, .int .i64 k, .bool (decide (((l.length : Nat) : Int) > 0)), .int .i64 k, .int .u64 a, .int .u64 b, .int .u64 c, .int .u64 d, .int .i64 mn, .int .i64 mx, .sl (Re.avs l)] K
          else lay.Wp 21 2 [.int .i64 w, .int .i64 dp, .int .i64 k, .bool (decide (((l.length : Nat) : Int) > 0)), .int .i64 k, .int .u64 a, .int .u64 b, .int .u64 c, .int .u64 d, .int .i64 mn, .int .i64 mx, .sl (Re.avs l)] K
        else lay.Wp 21 2 [.int .i64 w, .int .i64 dp, .int .i64 k, .bool false, .int .i64 k, .int .u64 a, .int .u64 b, .int .u64 c, .int .u64 d, .int .i64 mn, .int .i64 mx, .sl (Re.avs l)] K) := by
      by_cases c4 : k < 4
      · rw [if_pos (by simpa using c4)]
        by_cases c5 : 0 < l.length
        · rw [if_pos (by rw [decide_eq_true_eq]; omega)]
          rw [if_pos (by omega)] at h
          exact end1 h _
        · rw [if_neg (by rw [decide_eq_true_eq]; omega)]
          rw [if_neg (by omega)] at h
          exact two (by omega) h _
      · rw [if_neg (by simpa using c4)]
        rw [if_neg (by omega)] at h
        exact two (by omega) h _
    by_cases c4 : k = 1
    · rw [if_neg (by simp [c4])]
      have c6 : k ≠ 6 := by omega
      rw [if_pos (by simpa using c6)]
      by_cases d1 : mn = 0
      · rw [if_neg (by simp [d1])]
        by_cases d2 : mx = 0
        · rw [if_neg (by simp [d2])]
          exact fin (by omega) (by omega)
        · rw [if_pos (by simpa using d2)]
          rw [if_pos (by omega)] at h
          exact end1 h _
      · rw [if_pos (by simpa using d1)]
        rw [if_pos (by omega)] at h
        exact end1 h _
    rw [if_pos (by simpa using c4)]
    by_cases cs : a = 0 ∧ b = 0 ∧ c = 0 ∧ d = 0
    · rw [if_neg (by obtain ⟨rfl, rfl, rfl, rfl⟩ := cs; decide)]
      by_cases c6 : k = 6
      · rw [if_neg (by simp [c6])]
        exact fin (by omega) (by omega)
      rw [if_pos (by simpa using c6)]
      by_cases d1 : mn = 0
      · rw [if_neg (by simp [d1])]
        by_cases d2 : mx = 0
        · rw [if_neg (by simp [d2])]
          exact fin (by omega) (by omega)
        · rw [if_pos (by simpa using d2)]
          rw [if_pos (by omega)] at h
          exact end1 h _
      · rw [if_pos (by simpa using d1)]
        rw [if_pos (by omega)] at h
        exact end1 h _
    · rw [if_pos (by
        simp only [Bool.and_true, Bool.not_eq_true', Bool.and_eq_false_iff, beq_eq_false_iff_ne, ne_eq]
        omega)]
      rw [if_pos (.inr (.inr (.inr (.inl ⟨c4, cs⟩))))] at h
      exact end1 h _
theorem canRL_wp : ∀ (l L : List Re) (i : Nat) (k dp : Int), l = L.drop i → L.length ≤ 1000000 → Re.nodesL l ≤ 1000000 → 0 ≤ dp → dp ≤ 100 → ∀ (b2 b3 b4 : Bool) (k0 a b c d mn mx : Int) {K : Out → Prop}, K (.ret (.bool (canL l k (dp + 1)), .no), ⟨[], []⟩) →
    lay.Wp 21 7 [.int .i64 dp, .int .i64 k, .int .i64 (i : Nat), .bool b2, .bool b3, .bool b4, .int .i64 k0, .int .u64 a, .int .u64 b, .int .u64 c, .int .u64 d, .int .i64 mn, .int .i64 mx, .sl (Re.avs L)] K
  | [], L, i, k, dp, hi, hL, hn, h1, h2, b2, b3, b4, k0, a, b, c, d, mn, mx, K, h => by
    have hi : L.length ≤ i := List.drop_eq_nil_iff.1 hi.symm
    refine Lay.wp_of h21 (fun call => e21x7 call _ _ _ _ _ _ _ _ _ _ _ _ _ _) ?_
    unfold t21x7
    simp only [tw_nm, tw_ite, tw_done, avs_len]
    rw [if_neg (by simp; omega)]
    exact h
  | x :: l, L, i, k, dp, hi, hL, hn, h1, h2, b2, b3, b4, k0, a, b, c, d, mn, mx, K, h => by
    have hlt : i < L.length := by
      rcases Nat.lt_or_ge i L.length with g | g
      · exact g
      · rw [List.drop_eq_nil_of_le g] at hi; cases hi
    have hd := List.drop_eq_getElem_cons hlt
    rw [← hi] at hd
    obtain ⟨hx, hl⟩ := List.cons.inj hd
    have e := elemAt_avs hlt
    rw [← hx] at e
    have w1 : IntKind.wrap .i64 (((i : Nat) : Int) + 1) = ((i + 1 : Nat) : Int) := by rw [wrap64 (by omega) (by omega)]; omega
    have w2 : IntKind.wrap .i64 (dp + 1) = dp + 1 := wrap64 (by omega) (by omega)
    simp only [Re.nodesL] at hn
    have hcall := fun K' h' => canR_wp x k (dp + 1) (K := K') (by omega) (by omega) (by omega) h'
    rw [canL] at h
    have next := fun h => canRL_wp l L (i + 1) k dp hl hL (by omega) h1 h2 b2 b3 b4 k0 a b c d mn mx (K := K) h
    generalize canF x k (dp + 1) = r at h hcall
    obtain ⟨k', a', b', c', d', mn', mx', l', rfl⟩ := outR x
    rw [re_cells] at e hcall
    refine Lay.wp_of h21 (fun call => e21x7 call _ _ _ _ _ _ _ _ _ _ _ _ _ _) ?_
    unfold t21x7
    simp only [e, w1, w2, tw_nm, tw_ite, tw_opnS, openC_int, openC_sl, openC_nil, tw_need, tw_done, tw_callT, avs_len]
    rw [if_pos (by simp; omega)]
    refine ⟨avs_low l', hcall _ ?_⟩
    simp only [s21x0, tw_needR, tw_needT, true_and, tw_nm, tw_ite, tw_jump, tw_done]
    cases r
    · rw [if_pos (by rfl)]; exact h
    · rw [if_neg (by simp)]; exact next (by simpa using h)
end
end Go.Proofs.YtdiphholophdcaaDoor.T
end
section
open Go Go.Ab
/- THE REFERENCE's Least; WHAT A TREE THAT CAN BE HAS. -/
namespace Go.Proofs.YtdiphholophdcaaDoor.T
variable {K : Out → Prop}
theorem canF_parts {k a b c d mn mx w dp : Int} {l : List Re} (h : canF (.mk k a b c d mn mx l) w dp = true) :
    dp ≤ 100 ∧ 0 ≤ k ∧ k ≤ 6 ∧ (k < 4 → l = []) ∧ (k = 6 → l.length = 1 ∧ 0 ≤ mn ∧ mn ≤ 50 ∧ (mx = -1 ∨ mn ≤ mx ∧ mx ≤ 50)) ∧ (k = 4 ∨ k = 5 → 2 ≤ l.length) ∧ canL l k (dp + 1) = true := by
  rw [canF_alt] at h
  split at h
  · cases h
  split at h
  · cases h
  split at h
  · cases h
  refine ⟨by omega, by omega, by omega, fun hk => List.length_eq_zero_iff.1 (by omega), fun hk => by omega, fun hk => by omega, h⟩
mutual
def Re.words : Re → Prop
  | .mk _ a b c d _ _ l => (0 ≤ a ∧ a < 18446744073709551616) ∧ (0 ≤ b ∧ b < 18446744073709551616) ∧ (0 ≤ c ∧ c < 18446744073709551616) ∧ (0 ≤ d ∧ d < 18446744073709551616) ∧ Re.wordsL l
def Re.wordsL : List Re → Prop
  | [] => True
  | x :: r => x.words ∧ Re.wordsL r
end
mutual
theorem can_ok : ∀ (x : Re) (w dp : Int), x.words → canF x w dp = true → x.ok
  | .mk k a b c d mn mx l, w, dp, hw, h => by
    obtain ⟨h1, h2, h3, h4, h5, h6, h7⟩ := canF_parts h
    obtain ⟨wa, wb, wc, wd, wl⟩ := hw
    refine ⟨wa, wb, wc, wd, fun hk => ⟨fun hl => ?_, ?_, ?_⟩, canL_ok l _ _ wl h7⟩
    · have := h5 hk
      rw [hl] at this
      simp at this
    · have := h5 hk; omega
    · have := h5 hk; omega
theorem canL_ok : ∀ (l : List Re) (w dp : Int), Re.wordsL l → canL l w dp = true → Re.okL l
  | [], _, _, _, _ => trivial
  | x :: r, w, dp, hw, h => by
    rw [canL, Bool.and_eq_true] at h
    exact ⟨can_ok x _ _ hw.1 h.1, canL_ok r _ _ hw.2 h.2⟩
end
end Go.Proofs.YtdiphholophdcaaDoor.T
end
section
open Go Go.Ab
/- A TREE IS THE SAME AS ITSELF. -/
namespace Go.Proofs.YtdiphholophdcaaDoor.T
variable {K : Out → Prop}
mutual
theorem same_wp : ∀ (x : Re) {K : Out → Prop}, x.nodes ≤ 1000000 → K (.ret (.bool true, .no), ⟨[], []⟩) → lay.Wp 29 0 (x.av.cells ++ x.av.cells) K
  | .mk k a b c d mn mx l, K, hn, h => by
    rw [re_cells]
    simp only [Re.nodes] at hn
    have hln := nodesL_len l
    refine Lay.wp_of h29 (fun call => e29x0 call _ _ _ _ _ _ _ _ _ _ _ _ _ _ _ _) ?_
    unfold t29x0
    simp only [tw_nm, tw_ite, tw_done, tw_jump]
    rw [if_neg (by simp), if_neg (by simp), if_neg (by simp), if_neg (by simp), if_neg (by simp)]
    exact sameL_wp l l 0 rfl (by omega) (by omega) _ _ _ _ _ _ _ _ _ _ _ _ _ _ _ h
theorem sameL_wp : ∀ (l L : List Re) (i : Nat), l = L.drop i → L.length ≤ 1000000 → Re.nodesL l ≤ 1000000 → ∀ (b1 : Bool) (k a b c d mn mx k2 a2 b2 c2 d2 mn2 mx2 : Int) {K : Out → Prop}, K (.ret (.bool true, .no), ⟨[], []⟩) →
    lay.Wp 29 1 [.int .i64 (i : Nat), .bool b1, .int .i64 k, .int .u64 a, .int .u64 b, .int .u64 c, .int .u64 d, .int .i64 mn, .int .i64 mx, .sl (Re.avs L), .int .i64 k2, .int .u64 a2, .int .u64 b2, .int .u64 c2, .int .u64 d2, .int .i64 mn2, .int .i64 mx2, .sl (Re.avs L)] K
  | [], L, i, hi, hL, hn, b1, k, a, b, c, d, mn, mx, k2, a2, b2, c2, d2, mn2, mx2, K, h => by
    have hi : L.length ≤ i := List.drop_eq_nil_iff.1 hi.symm
    refine Lay.wp_of h29 (fun call => e29x1 call _ _ _ _ _ _ _ _ _ _ _ _ _ _ _ _ _ _) ?_
    unfold t29x1
    simp only [tw_nm, tw_ite, tw_done, avs_len]
    rw [if_neg (by simp; omega)]
    exact h
  | x :: l, L, i, hi, hL, hn, b1, k, a, b, c, d, mn, mx, k2, a2, b2, c2, d2, mn2, mx2, K, h => by
    have hlt : i < L.length := by
      rcases Nat.lt_or_ge i L.length with g | g
      · exact g
      · rw [List.drop_eq_nil_of_le g] at hi; cases hi
    have hd := List.drop_eq_getElem_cons hlt
    rw [← hi] at hd
    obtain ⟨hx, hl⟩ := List.cons.inj hd
    have e := elemAt_avs hlt
    rw [← hx] at e
    have w1 : IntKind.wrap .i64 (((i : Nat) : Int) + 1) = ((i + 1 : Nat) : Int) := by rw [wrap64 (by omega) (by omega)]; omega
    simp only [Re.nodesL] at hn
    have hcall := fun K' h' => same_wp x (K := K') (by omega) h'
    have next := sameL_wp l L (i + 1) hl hL (by omega) b1 k a b c d mn mx k2 a2 b2 c2 d2 mn2 mx2 (K := K) h
    obtain ⟨k', a', b', c', d', mn', mx', l', rfl⟩ := outR x
    rw [re_cells] at e hcall
    refine Lay.wp_of h29 (fun call => e29x1 call _ _ _ _ _ _ _ _ _ _ _ _ _ _ _ _ _ _) ?_
    unfold t29x1
    simp only [e, w1, tw_nm, tw_ite, tw_opnS, openC_int, openC_sl, openC_nil, tw_need, tw_done, tw_callT, avs_len]
    rw [if_pos (by simp; omega)]
    refine ⟨avs_low l', avs_low l', hcall _ ?_⟩
    simp only [s29x0, tw_needR, tw_needT, true_and, tw_nm, tw_ite, tw_jump, tw_done]
    rw [if_neg (by simp)]
    exact next
end
end Go.Proofs.YtdiphholophdcaaDoor.T
end
section
open Go Go.Ab
/- HOW MANY BRACKETS LIE IN ONE ANOTHER. -/
namespace Go.Proofs.YtdiphholophdcaaDoor.T
variable {K : Out → Prop}
def wrapsB (k y : Int) : Prop := (k = 4 ∧ y = 5) ∨ (k = 6 ∧ (y = 0 ∨ y = 4 ∨ y = 5))
instance (k y : Int) : Decidable (wrapsB k y) := by unfold wrapsB; infer_instance
mutual
def nestF : Re → Int
  | .mk k _ _ _ _ _ _ l => nestL k 0 l
def nestL (k acc : Int) : List Re → Int
  | [] => acc
  | x :: r => nestL k (if acc < nestF x + (if wrapsB k x.kind then 1 else 0) then nestF x + (if wrapsB k x.kind then 1 else 0) else acc) r
end
mutual
theorem nest_le : ∀ x : Re, 0 ≤ nestF x ∧ nestF x + 1 ≤ (x.nodes : Nat)
  | .mk k a b c d mn mx l => by
    have := nestL_le k l 0 0 (by omega) (by omega)
    unfold nestF
    simp only [Re.nodes]
    omega
theorem nestL_le (k : Int) : ∀ (l : List Re) (acc : Int) (n : Nat), 0 ≤ acc → acc ≤ (n : Nat) → 0 ≤ nestL k acc l ∧ nestL k acc l ≤ ((n + Re.nodesL l : Nat) : Int)
  | [], acc, n, h0, h1 => by simp only [nestL, Re.nodesL]; omega
  | x :: r, acc, n, h0, h1 => by
    have hx := nest_le x
    have hw : (0 : Int) ≤ (if wrapsB k x.kind then 1 else 0) ∧ (if wrapsB k x.kind then 1 else 0 : Int) ≤ 1 := by split <;> omega
    generalize (if wrapsB k x.kind then 1 else 0 : Int) = w at hw
    have := nestL_le k r (if acc < nestF x + (if wrapsB k x.kind then 1 else 0) then nestF x + (if wrapsB k x.kind then 1 else 0) else acc) (n + x.nodes) (by split <;> (try split) <;> omega) (by split <;> (try split) <;> omega)
    simp only [nestL, Re.nodesL]
    omega
end
mutual
theorem nest_wp : ∀ (x : Re) {K : Out → Prop}, x.nodes ≤ 1000000 → K (.ret (.int .i64 (nestF x), .no), ⟨[], []⟩) → lay.Wp 28 0 x.av.cells K
  | .mk k a b c d mn mx l, K, hn, h => by
    rw [re_cells]
    simp only [Re.nodes] at hn
    have hln := nodesL_len l
    refine Lay.wp_of h28 (fun call => e28x0 call _ _ _ _ _ _ _ _) ?_
    unfold t28x0
    simp only [tw_jump]
    exact nestL_wp l l 0 0 k rfl (by omega) (by omega) _ _ _ _ _ _ (by unfold nestF at h; exact h)
theorem nestL_wp : ∀ (l L : List Re) (i : Nat) (acc k : Int), l = L.drop i → L.length ≤ 1000000 → Re.nodesL l ≤ 1000000 → ∀ (a b c d mn mx : Int) {K : Out → Prop}, K (.ret (.int .i64 (nestL k acc l), .no), ⟨[], []⟩) →
    lay.Wp 28 1 [.int .i64 acc, .int .i64 (i : Nat), .int .i64 k, .int .u64 a, .int .u64 b, .int .u64 c, .int .u64 d, .int .i64 mn, .int .i64 mx, .sl (Re.avs L)] K
  | [], L, i, acc, k, hi, hL, hn, a, b, c, d, mn, mx, K, h => by
    have hi : L.length ≤ i := List.drop_eq_nil_iff.1 hi.symm
    refine Lay.wp_of h28 (fun call => e28x1 call _ _ _ _ _ _ _ _ _ _) ?_
    unfold t28x1
    simp only [tw_nm, tw_ite, tw_done, avs_len]
    rw [if_neg (by simp; omega)]
    exact h
  | x :: l, L, i, acc, k, hi, hL, hn, a, b, c, d, mn, mx, K, h => by
    have hlt : i < L.length := by
      rcases Nat.lt_or_ge i L.length with g | g
      · exact g
      · rw [List.drop_eq_nil_of_le g] at hi; cases hi
    have hd := List.drop_eq_getElem_cons hlt
    rw [← hi] at hd
    obtain ⟨hx, hl⟩ := List.cons.inj hd
    have e := elemAt_avs hlt
    rw [← hx] at e
    have w1 : IntKind.wrap .i64 (((i : Nat) : Int) + 1) = ((i + 1 : Nat) : Int) := by rw [wrap64 (by omega) (by omega)]; omega
    simp only [Re.nodesL] at hn
    have hle := nest_le x
    have w2 : IntKind.wrap .i64 (nestF x + 1) = nestF x + 1 := wrap64 (by omega) (by omega)
    have hcall := fun K' h' => nest_wp x (K := K') (by omega) h'
    unfold nestL at h
    have next : ∀ r, r = nestF x + (if wrapsB k x.kind then 1 else 0) → (if decide (r > acc) = true then
        lay.Wp 28 1 [.int .i64 r, .int .i64 ((i + 1 : Nat) : Int), .int .i64 k, .int .u64 a, .int .u64 b, .int .u64 c, .int .u64 d, .int .i64 mn, .int .i64 mx, .sl (Re.avs L)] K
        else lay.Wp 28 1 [.int .i64 acc, .int .i64 ((i + 1 : Nat) : Int), .int .i64 k, .int .u64 a, .int .u64 b, .int .u64 c, .int .u64 d, .int .i64 mn, .int .i64 mx, .sl (Re.avs L)] K) := by
      intro r hr
      rw [← hr] at h
      by_cases q : acc < r
      · rw [if_pos (by simpa using q)]
        rw [if_pos q] at h
        exact nestL_wp l L (i + 1) r k hl hL (by omega) a b c d mn mx h
      · rw [if_neg (by simpa using q)]
        rw [if_neg q] at h
        exact nestL_wp l L (i + 1) acc k hl hL (by omega) a b c d mn mx h
    have y1 (hh : wrapsB k x.kind) := next (nestF x + 1) (by rw [if_pos hh])
    have y0 (hh : ¬ wrapsB k x.kind) := next (nestF x) (by rw [if_neg hh]; omega)
    clear next
    generalize nestF x = n at *
    obtain ⟨k', a', b', c', d', mn', mx', l', rfl⟩ := outR x
    rw [re_cells] at e hcall
    refine Lay.wp_of h28 (fun call => e28x1 call _ _ _ _ _ _ _ _ _ _) ?_
    unfold t28x1
    simp only [e, w1, tw_nm, tw_ite, tw_opnS, openC_int, openC_sl, openC_nil, tw_need, tw_done, tw_callT, avs_len]
    rw [if_pos (by simp; omega)]
    refine ⟨avs_low l', hcall _ ?_⟩
    simp only [s28x0, e, w1, w2, tw_needR, tw_needT, true_and, tw_nm, tw_ite, tw_opnS, openC_int, openC_sl, openC_nil, tw_jump]
    by_cases c4 : k = 4
    · rw [if_pos (by simpa using c4)]
      by_cases c5 : k' = 5
      · rw [if_pos (by simpa using c5)]
        exact y1 (.inl ⟨c4, c5⟩)
      · rw [if_neg (by simpa using c5), if_neg (by simp; omega)]
        exact y0 (show ¬ wrapsB k k' by unfold wrapsB; omega)
    · rw [if_neg (by simpa using c4)]
      by_cases c6 : k = 6
      · rw [if_pos (by simpa using c6)]
        by_cases c0 : k' = 0
        · rw [if_pos (by simpa using c0)]
          exact y1 (.inr ⟨c6, .inl c0⟩)
        rw [if_neg (by simpa using c0)]
        by_cases d4 : k' = 4
        · rw [if_pos (by simpa using d4)]
          exact y1 (.inr ⟨c6, .inr (.inl d4)⟩)
        rw [if_neg (by simpa using d4)]
        by_cases d5 : k' = 5
        · rw [if_pos (by simpa using d5)]
          exact y1 (.inr ⟨c6, .inr (.inr d5)⟩)
        rw [if_neg (by simpa using d5)]
        exact y0 (show ¬ wrapsB k k' by unfold wrapsB; omega)
      · rw [if_neg (by simpa using c6)]
        exact y0 (show ¬ wrapsB k k' by unfold wrapsB; omega)
end
end Go.Proofs.YtdiphholophdcaaDoor.T
end
section
open Go Go.Ab
/- ATOMS AND PIECES ARE READ. -/
namespace Go.Proofs.YtdiphholophdcaaDoor.T
variable {K : Out → Prop}
abbrev ones : Int := 18446744073709551615
/-- the first byte of an atom that is no bracket of a set: what is asked ahead -/
theorem atom_to2 {s r : List UInt8} {p : Nat} {c : UInt8} {d : Int} (ha : At s p (c :: r)) (h1 : c ≠ 42) (h2 : c ≠ 43) (h3 : c ≠ 63) (h4 : c ≠ 123) (h5 : c ≠ 41) (h6 : c ≠ 91)
    (h : lay.Wp 101 2 [.int .i64 d, .int .i64 (p : Nat), .int .u8 ((c.toNat : Nat) : Int), .bool false, .bool false, .bool false, .str s, .int .i64 (p : Nat), .int .i64 0, .int .u64 0, .int .u64 0, .int .u64 0, .int .u64 0, .int .i64 0, .int .i64 0, .sl []] K) :
    lay.Wp 101 0 [.int .i64 d, .str s, .int .i64 (p : Nat)] K := by
  have f1 := neByte (k := 42) rfl h1; have f2 := neByte (k := 43) rfl h2; have f3 := neByte (k := 63) rfl h3; have f4 := neByte (k := 123) rfl h4; have f5 := neByte (k := 41) rfl h5; have f6 := neByte (k := 91) rfl h6
  refine Lay.wp_of h101 (fun call => e101x0 call _ _ _) ?_
  unfold t101x0
  simp only [tw_callT]
  refine peekA ha ?_
  simp only [s91x0, f1, f2, f3, f4, tw_needR, tw_needT, true_and, tw_nm, tw_iteF, tw_jump]
  refine Lay.wp_of h101 (fun call => e101x1 call _ _ _ _ _ _ _ _ _ _ _ _ _ _ _) ?_
  unfold t101x1
  simp only [f5, f6, tw_nm, tw_iteF, tw_jump]
  exact h
theorem atom_dot {s r : List UInt8} {p : Nat} {d : Int} (hs : s.length ≤ 100000) (ha : At s p (46 :: r)) (h : K (.ret ((Re.mk 1 ones ones ones ones 0 0 []).av, .no), rd s (p + 1))) : lay.Wp 101 0 [.int .i64 d, .str s, .int .i64 (p : Nat)] K := by
  have hle := ha.le
  have q : IntKind.wrap .i64 (((p : Nat) : Int) + 1) = ((p + 1 : Nat) : Int) := by rw [wrap64 (by omega) (by omega)]; omega
  have f1 : ((((46 : UInt8).toNat : Nat) : Int) == 40) = false := rfl
  have f2 : ((((46 : UInt8).toNat : Nat) : Int) == 46) = true := rfl
  refine atom_to2 ha (by decide) (by decide) (by decide) (by decide) (by decide) (by decide) ?_
  refine Lay.wp_of h101 (fun call => e101x2 call _ _ _ _ _ _ _ _ _ _ _ _ _ _ _ _) ?_
  unfold t101x2
  simp only [f1, f2, q, tw_nm, tw_iteF, tw_iteT, tw_callT]
  refine Lay.wp_of h69 (fun call => e69x0 call _ _ _ _) ?_
  unfold t69x0
  simp only [tw_callT]
  refine not_wp (a := 0) (b := 0) (c := 0) (d := 0) (by decide) (by decide) (by decide) (by decide) ?_
  simp only [s86x0, s69x0, tw_needR, tw_needT, true_and, tw_need, tw_done]
  exact ⟨rfl, rfl, h⟩
theorem atom_begin {s r : List UInt8} {p : Nat} {d : Int} (hs : s.length ≤ 100000) (ha : At s p (94 :: r)) (h : K (.ret ((Re.mk 2 0 0 0 0 0 0 []).av, .no), rd s (p + 1))) : lay.Wp 101 0 [.int .i64 d, .str s, .int .i64 (p : Nat)] K := by
  have hle := ha.le
  have q : IntKind.wrap .i64 (((p : Nat) : Int) + 1) = ((p + 1 : Nat) : Int) := by rw [wrap64 (by omega) (by omega)]; omega
  have f1 : ((((94 : UInt8).toNat : Nat) : Int) == 40) = false := rfl
  have f2 : ((((94 : UInt8).toNat : Nat) : Int) == 46) = false := rfl
  have f3 : ((((94 : UInt8).toNat : Nat) : Int) == 94) = true := rfl
  refine atom_to2 ha (by decide) (by decide) (by decide) (by decide) (by decide) (by decide) ?_
  refine Lay.wp_of h101 (fun call => e101x2 call _ _ _ _ _ _ _ _ _ _ _ _ _ _ _ _) ?_
  unfold t101x2
  simp only [f1, f2, f3, q, tw_nm, tw_iteF, tw_iteT, tw_need, tw_done]
  exact ⟨rfl, rfl, h⟩
theorem atom_end {s r : List UInt8} {p : Nat} {d : Int} (hs : s.length ≤ 100000) (ha : At s p (36 :: r)) (h : K (.ret ((Re.mk 3 0 0 0 0 0 0 []).av, .no), rd s (p + 1))) : lay.Wp 101 0 [.int .i64 d, .str s, .int .i64 (p : Nat)] K := by
  have hle := ha.le
  have q : IntKind.wrap .i64 (((p : Nat) : Int) + 1) = ((p + 1 : Nat) : Int) := by rw [wrap64 (by omega) (by omega)]; omega
  have f1 : ((((36 : UInt8).toNat : Nat) : Int) == 40) = false := rfl
  have f2 : ((((36 : UInt8).toNat : Nat) : Int) == 46) = false := rfl
  have f3 : ((((36 : UInt8).toNat : Nat) : Int) == 94) = false := rfl
  have f4 : ((((36 : UInt8).toNat : Nat) : Int) == 36) = true := rfl
  refine atom_to2 ha (by decide) (by decide) (by decide) (by decide) (by decide) (by decide) ?_
  refine Lay.wp_of h101 (fun call => e101x2 call _ _ _ _ _ _ _ _ _ _ _ _ _ _ _ _) ?_
  unfold t101x2
  simp only [f1, f2, f3, f4, q, tw_nm, tw_iteF, tw_iteT, tw_need, tw_done]
  exact ⟨rfl, rfl, h⟩
theorem clsText_head (a b c d : Nat) (r : List UInt8) : ∃ q, clsText a b c d ++ r = 91 :: q := by
  unfold clsText
  split
  · exact ⟨_, rfl⟩
  · exact ⟨_, rfl⟩
theorem atom_cls {s r : List UInt8} {p a b c d : Nat} {dp : Int} (hs : s.length ≤ 100000) (ha : a < 18446744073709551616) (hb : b < 18446744073709551616) (hc : c < 18446744073709551616) (hd : d < 18446744073709551616) (hA : At s p (clsText a b c d ++ r))
    (h : K (.ret ((Re.mk 1 (a : Nat) (b : Nat) (c : Nat) (d : Nat) 0 0 []).av, .no), rd s (p + (clsText a b c d).length))) : lay.Wp 101 0 [.int .i64 dp, .str s, .int .i64 (p : Nat)] K := by
  have f1 : ((((91 : UInt8).toNat : Nat) : Int) == 42) = false := rfl
  have f2 : ((((91 : UInt8).toNat : Nat) : Int) == 43) = false := rfl
  have f3 : ((((91 : UInt8).toNat : Nat) : Int) == 63) = false := rfl
  have f4 : ((((91 : UInt8).toNat : Nat) : Int) == 123) = false := rfl
  have f5 : ((((91 : UInt8).toNat : Nat) : Int) == 41) = false := rfl
  have f6 : ((((91 : UInt8).toNat : Nat) : Int) == 91) = true := rfl
  have z : ((0 : Int) != 0) = false := rfl
  obtain ⟨q, hq⟩ := clsText_head a b c d r
  have hA1 := hA
  rw [hq] at hA1
  refine Lay.wp_of h101 (fun call => e101x0 call _ _ _) ?_
  unfold t101x0
  simp only [tw_callT]
  refine peekA hA1 ?_
  simp only [s91x0, f1, f2, f3, f4, tw_needR, tw_needT, true_and, tw_nm, tw_iteF, tw_jump]
  refine Lay.wp_of h101 (fun call => e101x1 call _ _ _ _ _ _ _ _ _ _ _ _ _ _ _) ?_
  unfold t101x1
  simp only [f5, f6, tw_nm, tw_iteF, tw_iteT, tw_callT]
  refine clsP_wp (by omega) ha hb hc hd hA ?_
  simp only [s110x0, z, tw_needR, tw_needT, true_and, tw_nm, tw_iteF, tw_need, tw_done]
  exact ⟨rfl, rfl, h⟩
/-! ### what is to be shown of a tree -/
def Res (K : Out → Prop) (s : List UInt8) (m : Int) (ok : Prop) : Prop := (m ≤ 20 → ok) ∧ (20 < m → ∀ (a : Int) (q : Nat), K (.panic (.iface 71 (.agg [.int .i64 a, .int .i64 2])), rd s q))
def Stop (d : Nat) (r : List UInt8) : Prop := r = [] ∨ (0 < d ∧ r.head? = some 41)
def BStop (d : Nat) (r : List UInt8) : Prop := r.head? = some 124 ∨ Stop d r
def tx (x : Re) : List UInt8 := wrapB [4, 5, 0] x.kind (showF x)
def np (x : Re) : Int := nestF x + (if x.kind = 0 ∨ x.kind = 4 ∨ x.kind = 5 then 1 else 0)
/-- as a pattern -/
def PA (x : Re) (s : List UInt8) : Prop := ∀ (K : Out → Prop) (d p : Nat) (r : List UInt8), d ≤ 20 → At s p (showF x ++ r) → Stop d r →
  Res K s (d + nestF x) (K (.ret (x.av, .no), rd s (p + (showF x).length))) → lay.Wp 53 0 [.int .i64 (d : Nat), .str s, .int .i64 (p : Nat)] K
/-- as a branch -/
def PB (x : Re) (s : List UInt8) : Prop := ∀ (K : Out → Prop) (d p : Nat) (r : List UInt8), d ≤ 20 → At s p (showF x ++ r) → BStop d r →
  Res K s (d + nestF x) (K (.ret (x.av, .no), rd s (p + (showF x).length))) → lay.Wp 75 0 [.int .i64 (d : Nat), .str s, .int .i64 (p : Nat)] K
/-- as a piece, but for what tells how often -/
def PP (x : Re) (s : List UInt8) : Prop := ∀ (K : Out → Prop) (d p : Nat) (r : List UInt8), d ≤ 20 → At s p (tx x ++ r) →
  Res K s (d + np x) (lay.Wp 92 1 ([.str s, .int .i64 ((p + (tx x).length : Nat) : Int)] ++ jz ++ x.av.cells) K) → lay.Wp 92 0 [.int .i64 (d : Nat), .str s, .int .i64 (p : Nat)] K
theorem pp_atom {x : Re} {s : List UInt8} (hk : x.kind = 1 ∨ x.kind = 2 ∨ x.kind = 3) (hn : nestF x = 0)
    (h : ∀ {K : Out → Prop} (d p : Nat) (r : List UInt8), At s p (showF x ++ r) → K (.ret (x.av, .no), rd s (p + (showF x).length)) → lay.Wp 101 0 [.int .i64 (d : Nat), .str s, .int .i64 (p : Nat)] K) : PP x s := by
  have et : tx x = showF x := by
    unfold tx wrapB
    rw [if_neg]
    simp only [List.mem_cons, List.not_mem_nil, or_false]; omega
  have en : np x = 0 := by unfold np; rw [if_neg (by omega)]; omega
  intro K d p r hd ha hr
  rw [et] at ha hr
  rw [en] at hr
  have hok := hr.1 (by omega)
  obtain ⟨k, a, b, c, d', mn, mx, l, rfl⟩ := outR x
  refine Lay.wp_of h92 (fun call => e92x0 call _ _ _) ?_
  unfold t92x0
  simp only [tw_callT]
  refine h d p r ha ?_
  simp only [Re.av, s101x0, tw_needR, tw_needT, true_and, tw_need, tw_jump]
  exact ⟨avs_low l, avs_low l, hok⟩
theorem pp_brack {x : Re} {s : List UInt8} (hs : s.length ≤ 100000) (hk : x.kind = 0 ∨ x.kind = 4 ∨ x.kind = 5) (h : PA x s) : PP x s := by
  have et : tx x = 40 :: (showF x ++ [41]) := by
    unfold tx wrapB
    rw [if_pos]
    · rfl
    simp only [List.mem_cons, List.not_mem_nil, or_false]; omega
  have en : np x = nestF x + 1 := by unfold np; rw [if_pos hk]
  have hnn := (nest_le x).1
  intro K d p r hd ha hr
  rw [et] at ha hr
  rw [en] at hr
  have ha0 : At s p (40 :: (showF x ++ 41 :: r)) := by simpa using ha
  have hle := ha0.le
  have q : IntKind.wrap .i64 (((p : Nat) : Int) + 1) = ((p + 1 : Nat) : Int) := by rw [wrap64 (by omega) (by omega)]; omega
  have qd : IntKind.wrap .i64 (((d : Nat) : Int) + 1) = ((d + 1 : Nat) : Int) := by rw [wrap64 (by omega) (by omega)]; omega
  have f1 : ((((40 : UInt8).toNat : Nat) : Int) == 40) = true := rfl
  refine Lay.wp_of h92 (fun call => e92x0 call _ _ _) ?_
  unfold t92x0
  simp only [tw_callT]
  refine atom_to2 ha0 (by decide) (by decide) (by decide) (by decide) (by decide) (by decide) ?_
  refine Lay.wp_of h101 (fun call => e101x2 call _ _ _ _ _ _ _ _ _ _ _ _ _ _ _ _) ?_
  unfold t101x2
  by_cases c1 : d = 20
  · have v : decide (((d : Nat) : Int) ≥ 20) = true := by rw [decide_eq_true_eq]; omega
    simp only [f1, q, v, tw_nm, tw_iteT, tw_callT]
    refine Lay.wp_of h109 (fun call => e109x0 call _ _ _ _) ?_
    unfold t109x0
    simp only [s109x0, n101x0x1, s101x1, tw_needR, tw_needT, true_and, tw_done]
    exact hr.2 (by omega) _ _
  · have v : decide (((d : Nat) : Int) ≥ 20) = false := by rw [decide_eq_false_iff_not]; omega
    simp only [f1, q, v, tw_nm, tw_iteT, tw_iteF, tw_jump]
    refine Lay.wp_of h101 (fun call => e101x3 call _ _ _ _ _ _ _ _ _ _ _ _ _ _ _ _ _ _ _) ?_
    unfold t101x3
    simp only [qd, tw_nm, tw_callT]
    refine h _ (d + 1) (p + 1) (41 :: r) (by omega) ha0.next (.inr ⟨by omega, rfl⟩) ⟨fun hm => ?_, fun hm a q => ?_⟩
    · have hok := hr.1 (by omega)
      have e2 : p + (40 :: (showF x ++ [41])).length = p + 1 + (showF x).length + 1 := by simp only [List.length_cons, List.length_append, List.length_nil]; omega
      rw [e2] at hok
      have hA := ha0.next.app
      generalize showF x = t at *
      obtain ⟨k, a, b, c, d', mn, mx, l, rfl⟩ := outR x
      simp only [Re.av, s53x0, tw_needR, tw_needT, true_and, tw_need, tw_callT]
      refine ⟨avs_low l, avs_low l, ?_⟩
      refine goesY hA hs rfl ?_
      simp only [s76x0, Bool.not_true, s101x0, tw_needR, tw_needT, true_and, tw_nm, tw_iteF, tw_need, tw_done, tw_jump]
      exact ⟨avs_low l, avs_low l, avs_low l, avs_low l, hok⟩
    · simp only [n53x0x1, s53x1, n101x0x1, s101x1, tw_needR, tw_needT, true_and, tw_done]
      exact hr.2 (by omega) _ _
theorem pp_rep {y : Re} {mn mx : Int} {s : List UInt8} (hs : s.length ≤ 100000) (h0 : 0 ≤ mn) (h1 : mn ≤ 50) (h2 : mx = -1 ∨ mn ≤ mx ∧ mx ≤ 50) (h : PP y s) : PP (.mk 6 0 0 0 0 mn mx [y]) s := by
  have et : tx (.mk 6 0 0 0 0 mn mx [y]) = tx y ++ oftenF mn mx := by
    unfold tx
    rw [show (Re.mk 6 0 0 0 0 mn mx [y]).kind = 6 from rfl, wrapB, if_neg (by decide), showF, if_neg (by decide), if_neg (by decide), if_neg (by decide), if_pos rfl]
    rfl
  have hnn := (nest_le y).1
  have en : np (.mk 6 0 0 0 0 mn mx [y]) = np y := by
    unfold np
    rw [show (Re.mk 6 0 0 0 0 mn mx [y]).kind = 6 from rfl, if_neg (by decide), nestF, nestL, nestL]
    by_cases c : y.kind = 0 ∨ y.kind = 4 ∨ y.kind = 5
    · have w : wrapsB 6 y.kind := .inr ⟨rfl, c⟩
      rw [if_pos w, if_pos c, if_pos (by omega)]; omega
    · have w : ¬ wrapsB 6 y.kind := by rintro (e | e); exact absurd e.1 (by decide); exact c e.2
      rw [if_neg w, if_neg c]; split <;> omega
  intro K d p r hd ha hr
  rw [et] at ha hr
  rw [en] at hr
  rw [List.append_assoc] at ha
  refine h _ d p (oftenF mn mx ++ r) hd ha ⟨fun hm => ?_, hr.2⟩
  have hok := hr.1 hm
  rw [List.length_append, ← Nat.add_assoc] at hok
  have hA := ha.app
  generalize tx y = t at *
  obtain ⟨k, a, b, c, d', mn', mx', l, rfl⟩ := outR y
  exact repA hs h0 h1 h2 hA hok
end Go.Proofs.YtdiphholophdcaaDoor.T
end
section
open Go Go.Ab
/- BRANCHES AND PATTERNS ARE READ. -/
namespace Go.Proofs.YtdiphholophdcaaDoor.T
variable {K : Out → Prop}
def headB (t : List UInt8) : Prop := ∃ c q, t = c :: q ∧ (c = 40 ∨ c = 91 ∨ c = 46 ∨ c = 94 ∨ c = 36)
theorem headB.app {t r : List UInt8} (h : headB t) : headB (t ++ r) := by
  obtain ⟨c, q, rfl, hc⟩ := h
  exact ⟨c, q ++ r, rfl, hc⟩
theorem headB.noRep {t : List UInt8} (h : headB t) : NoRep t := by
  obtain ⟨c, q, rfl, hc⟩ := h
  rcases hc with rfl | rfl | rfl | rfl | rfl <;> exact ⟨by simp, by simp, by simp, by simp⟩
theorem stop_noRep {d : Nat} {r : List UInt8} (h : BStop d r) : NoRep r := by
  unfold BStop Stop at h
  rcases h with e | e | ⟨_, e⟩
  · unfold NoRep; rw [e]; decide
  · rw [e]; exact noRep_nil
  · unfold NoRep; rw [e]; decide
theorem flat_noRep {d : Nat} {r : List UInt8} {l : List Re} (h : BStop d r) (hl : ∀ y ∈ l, headB (tx y)) : NoRep (l.flatMap tx ++ r) := by
  cases l with
  | nil => exact stop_noRep h
  | cons y l =>
    rw [List.flatMap_cons, List.append_assoc]
    exact (hl y (List.mem_cons_self ..)).app.noRep
/-- the pieces of a branch -/
theorem brL {s : List UInt8} (hs : s.length ≤ 100000) {d : Nat} (hd : d ≤ 20) {r : List UInt8} (hr : BStop d r) : ∀ (l acc : List Re) (p : Nat) {K : Out → Prop}, (∀ y ∈ l, PP y s ∧ headB (tx y)) → At s p (l.flatMap tx ++ r) →
    acc.length + l.length ≤ 1000000 → flatR 4 (acc ++ l) = acc ++ l →
    ((∀ y ∈ l, d + np y ≤ 20) → K (.ret ((joinF 4 (acc ++ l)).av, .no), rd s (p + (l.flatMap tx).length))) →
    ((∃ y ∈ l, 20 < d + np y) → ∀ (a : Int) (q : Nat), K (.panic (.iface 71 (.agg [.int .i64 a, .int .i64 2])), rd s q)) →
    lay.Wp 75 1 ([.int .i64 (d : Nat), .sl (Re.avs acc), .str s, .int .i64 (p : Nat)] ++ jz) K := by
  intro l
  have hk : Ab.maxLen = 4294967296 := rfl
  induction l with
  | nil =>
    intro acc p K hl ha hn hf h1 h2
    have h := h1 (fun y hy => by cases hy)
    rw [List.flatMap_nil, List.nil_append] at ha
    rw [List.append_nil] at h hf
    simp only [List.flatMap_nil, List.length_nil, Nat.add_zero] at h hn
    refine Lay.wp_of h75 (fun call => e75x1 call _ _ _ _ _ _ _ _ _ _ _ _) ?_
    unfold t75x1
    simp only [tw_callT]
    have last := fun (K : Out → Prop) h => joined_wp (K := K) (k := 4) (L := acc) (by omega) (by rw [hf]; omega) h
    generalize joinF 4 acc = x at *
    obtain ⟨k, a, b, c, d', mn, mx, l, rfl⟩ := outR x
    unfold BStop Stop at hr
    rcases hr with e | e | ⟨hd0, e⟩
    · obtain ⟨r', rfl⟩ : ∃ r', r = 124 :: r' := by
        cases r with
        | nil => cases e
        | cons c r' => exact ⟨r', by rw [show c = 124 by simpa using e]⟩
      have f1 : ((((124 : UInt8).toNat : Nat) : Int) == 124) = true := rfl
      refine peekA ha ?_
      simp only [s91x0, f1, Bool.not_true, tw_needR, tw_needT, true_and, tw_nm, tw_iteT, tw_iteF, tw_need, tw_callT]
      refine ⟨avs_low _, last _ ?_⟩
      simp only [Re.av, s77x0, tw_needR, tw_needT, true_and, tw_need, tw_done]
      exact ⟨avs_low l, avs_low l, avs_low l, h⟩
    · subst e
      refine peekE ha ?_
      simp only [s91x0, Bool.not_false, tw_needR, tw_needT, true_and, tw_nm, tw_iteT, tw_need, tw_callT]
      refine ⟨avs_low _, last _ ?_⟩
      simp only [Re.av, s77x0, tw_needR, tw_needT, true_and, tw_need, tw_done]
      exact ⟨avs_low l, avs_low l, avs_low l, h⟩
    · obtain ⟨r', rfl⟩ : ∃ r', r = 41 :: r' := by
        cases r with
        | nil => cases e
        | cons c r' => exact ⟨r', by rw [show c = 41 by simpa using e]⟩
      have f1 : ((((41 : UInt8).toNat : Nat) : Int) == 124) = false := rfl
      have f2 : ((((41 : UInt8).toNat : Nat) : Int) == 41) = true := rfl
      have v : decide (((d : Nat) : Int) > 0) = true := by rw [decide_eq_true_eq]; omega
      refine peekA ha ?_
      simp only [s91x0, f1, f2, v, Bool.not_true, tw_needR, tw_needT, true_and, tw_nm, tw_iteT, tw_iteF, tw_need, tw_callT]
      refine ⟨avs_low _, last _ ?_⟩
      simp only [Re.av, s77x0, tw_needR, tw_needT, true_and, tw_need, tw_done]
      exact ⟨avs_low l, avs_low l, avs_low l, h⟩
  | cons y l ih =>
    intro acc p K hl ha hn hf h1 h2
    obtain ⟨hy, hyh⟩ := hl y (List.mem_cons_self ..)
    have hl' : ∀ z ∈ l, PP z s ∧ headB (tx z) := fun z hz => hl z (List.mem_cons_of_mem _ hz)
    rw [List.flatMap_cons, List.append_assoc] at ha
    simp only [List.length_cons] at hn
    have eacc : acc ++ y :: l = acc ++ [y] ++ l := by simp
    rw [eacc] at hf
    obtain ⟨c, q, hq, hc⟩ := hyh
    have ha0 : At s p (c :: (q ++ (l.flatMap tx ++ r))) := by rw [hq] at ha; exact ha
    have f1 : (((c.toNat : Nat) : Int) == 124) = false := by rcases hc with rfl | rfl | rfl | rfl | rfl <;> rfl
    have f2 : (((c.toNat : Nat) : Int) == 41) = false := by rcases hc with rfl | rfl | rfl | rfl | rfl <;> rfl
    have hA := ha.app
    have next := fun (hm : d + np y ≤ 20) => ih (acc ++ [y]) (p + (tx y).length) (K := K) hl' hA (by simp; omega) hf
      (fun hz => by
        have := h1 (fun z hz' => by rcases List.mem_cons.1 hz' with rfl | hz'; exact hm; exact hz z hz')
        rw [eacc, List.flatMap_cons, List.length_append, ← Nat.add_assoc] at this
        exact this)
      (fun ⟨z, hz1, hz2⟩ => h2 ⟨z, List.mem_cons_of_mem _ hz1, hz2⟩)
    refine Lay.wp_of h75 (fun call => e75x1 call _ _ _ _ _ _ _ _ _ _ _ _) ?_
    unfold t75x1
    simp only [tw_callT]
    refine peekA ha0 ?_
    simp only [s91x0, f1, f2, Bool.not_true, tw_needR, tw_needT, true_and, tw_nm, tw_iteF, tw_callT]
    refine hy _ d p (l.flatMap tx ++ r) hd ha ⟨fun hm => ?_, fun hm a q => ?_⟩
    · have next := next hm
      rw [← avs_append] at next
      obtain ⟨pre, hs1, hp1⟩ := hA.pre
      have hnr := flat_noRep hr fun z hz => (hl' z hz).2
      generalize p + (tx y).length = p' at *
      obtain ⟨k, a, b, c, d', mn, mx, ll, rfl⟩ := outR y
      rw [hs1, hp1]
      refine piece_end hnr ?_
      rw [← hs1, ← hp1]
      simp only [Re.av, s92x0, tw_needR, tw_needT, true_and, tw_need, tw_jump]
      exact ⟨avs_low ll, avs_sz _, rfl, by rw [avs_len]; omega, next⟩
    · simp only [n92x0x1, s92x1, tw_needR, tw_needT, true_and, tw_done]
      exact h2 ⟨y, List.mem_cons_self .., hm⟩ _ _
/-- the branches of a pattern -/
theorem patL {s : List UInt8} (hs : s.length ≤ 100000) {d : Nat} (hd : d ≤ 20) {r : List UInt8} (hr : Stop d r) : ∀ (l acc : List Re) (p : Nat) {K : Out → Prop}, (∀ y ∈ l, PB y s) → At s p (l.flatMap (fun y => 124 :: showF y) ++ r) →
    acc.length + l.length ≤ 1000000 → flatR 5 (acc ++ l) = acc ++ l →
    ((∀ y ∈ l, d + nestF y ≤ 20) → K (.ret ((joinF 5 (acc ++ l)).av, .no), rd s (p + (l.flatMap (fun y => 124 :: showF y)).length))) →
    ((∃ y ∈ l, 20 < d + nestF y) → ∀ (a : Int) (q : Nat), K (.panic (.iface 71 (.agg [.int .i64 a, .int .i64 2])), rd s q)) →
    lay.Wp 53 1 ([.int .i64 (d : Nat), .sl (Re.avs acc), .str s, .int .i64 (p : Nat)] ++ jz) K := by
  intro l
  have hk : Ab.maxLen = 4294967296 := rfl
  induction l with
  | nil =>
    intro acc p K hl ha hn hf h1 h2
    have h := h1 (fun y hy => by cases hy)
    rw [List.flatMap_nil, List.nil_append] at ha
    rw [List.append_nil] at h hf
    simp only [List.flatMap_nil, List.length_nil, Nat.add_zero] at h hn
    refine Lay.wp_of h53 (fun call => e53x1 call _ _ _ _ _ _ _ _ _ _ _ _) ?_
    unfold t53x1
    simp only [tw_callT]
    refine goesN (c := 124) ha rfl (by unfold Stop at hr; rcases hr with e | ⟨_, e⟩ <;> rw [e] <;> simp) ?_
    simp only [s76x0, tw_needR, tw_needT, true_and, tw_iteF, tw_need, tw_callT]
    refine ⟨avs_low _, joined_wp (k := 5) (L := acc) (by omega) (by rw [hf]; omega) ?_⟩
    generalize joinF 5 acc = x at *
    obtain ⟨k, a, b, c, d', mn, mx, l, rfl⟩ := outR x
    simp only [Re.av, s77x0, tw_needR, tw_needT, true_and, tw_need, tw_done]
    exact ⟨avs_low l, avs_low l, avs_low l, h⟩
  | cons y l ih =>
    intro acc p K hl ha hn hf h1 h2
    have hy : PB y s := hl y (List.mem_cons_self ..)
    have hl' : ∀ z ∈ l, PB z s := fun z hz => hl z (List.mem_cons_of_mem _ hz)
    rw [List.flatMap_cons, List.append_assoc] at ha
    have ha0 : At s p (124 :: (showF y ++ (l.flatMap (fun y => 124 :: showF y) ++ r))) := ha
    simp only [List.length_cons] at hn
    have eacc : acc ++ y :: l = acc ++ [y] ++ l := by simp
    rw [eacc] at hf
    have hA := ha0.next.app
    have next := fun (hm : d + nestF y ≤ 20) => ih (acc ++ [y]) (p + 1 + (showF y).length) (K := K) hl' hA (by simp; omega) hf
      (fun hz => by
        have := h1 (fun z hz' => by rcases List.mem_cons.1 hz' with rfl | hz'; exact hm; exact hz z hz')
        have e2 : p + ((y :: l).flatMap (fun y => 124 :: showF y)).length = p + 1 + (showF y).length + (l.flatMap (fun y => 124 :: showF y)).length := by
          rw [List.flatMap_cons, List.length_append, List.length_cons]; omega
        rw [eacc, e2] at this
        exact this)
      (fun ⟨z, hz1, hz2⟩ => h2 ⟨z, List.mem_cons_of_mem _ hz1, hz2⟩)
    have hbs : BStop d (l.flatMap (fun y => 124 :: showF y) ++ r) := by
      cases l with
      | nil => exact .inr hr
      | cons z l => exact .inl rfl
    refine Lay.wp_of h53 (fun call => e53x1 call _ _ _ _ _ _ _ _ _ _ _ _) ?_
    unfold t53x1
    simp only [tw_callT]
    refine goesY ha0 hs rfl ?_
    simp only [s76x0, tw_needR, tw_needT, true_and, tw_iteT, tw_callT]
    refine hy _ d (p + 1) _ hd ha0.next hbs ⟨fun hm => ?_, fun hm a q => ?_⟩
    · have next := next hm
      rw [← avs_append] at next
      generalize p + 1 + (showF y).length = p' at *
      obtain ⟨k, a, b, c, d', mn, mx, ll, rfl⟩ := outR y
      simp only [Re.av, s75x0, tw_needR, tw_needT, true_and, tw_need, tw_jump]
      exact ⟨avs_low ll, avs_sz _, rfl, by rw [avs_len]; omega, next⟩
    · simp only [n75x0x1, s75x1, tw_needR, tw_needT, true_and, tw_done]
      exact h2 ⟨y, List.mem_cons_self .., hm⟩ _ _
theorem branch_of {s : List UInt8} (hs : s.length ≤ 100000) {x : Re} {l : List Re} (hl : ∀ y ∈ l, PP y s ∧ headB (tx y)) (ht : showF x = l.flatMap tx) (hlen : l.length ≤ 1000000) (hf : flatR 4 l = l) (hj : joinF 4 l = x)
    (hn : ∀ m : Int, 0 ≤ m → (nestF x ≤ m ↔ ∀ y ∈ l, np y ≤ m)) : PB x s := by
  intro K d p r hd ha hr hres
  rw [ht] at ha hres
  refine Lay.wp_of h75 (fun call => e75x0 call _ _ _) ?_
  unfold t75x0
  simp only [tw_needR, tw_needT, true_and, tw_need, tw_jump]
  have key := hn (20 - (d : Nat)) (by omega)
  refine brL hs hd hr l [] p hl ha (by simpa using hlen) (by simpa using hf) (fun hz => ?_) (fun ⟨y, hy, hz⟩ => ?_)
  · rw [List.nil_append, hj]
    exact hres.1 (by have := key.2 fun y hy => (by have := hz y hy; omega); omega)
  · refine hres.2 ?_
    by_cases c : nestF x ≤ 20 - (d : Nat)
    · have := key.1 c y hy; omega
    · omega
theorem flat5_one {x : Re} (hk : x.kind ≠ 5) : flatR 5 [x] = [x] := by
  unfold flatR
  rw [List.flatMap_cons, List.flatMap_nil, flat1, if_neg hk, if_pos (.inr rfl)]
  rfl
theorem pattern_one {s : List UInt8} (hs : s.length ≤ 100000) {x : Re} (hk : x.kind ≠ 5) (h : PB x s) : PA x s := by
  intro K d p r hd ha hr hres
  have hA := ha.app
  refine Lay.wp_of h53 (fun call => e53x0 call _ _ _) ?_
  unfold t53x0
  simp only [tw_callT]
  refine h _ d p r hd ha (.inr hr) ⟨fun hm => ?_, fun hm a q => ?_⟩
  · have hok := hres.1 hm
    have hp := patL hs hd hr [] [x] (p + (showF x).length) (K := K) (fun y hy => by cases hy) hA (by simp) (flat5_one hk) (fun _ => by simpa [joinF] using hok) (fun ⟨y, hy, _⟩ => by cases hy)
    generalize p + (showF x).length = p' at *
    clear hk hA hok hres ha h
    obtain ⟨k, a, b, c, d', mn, mx, l, rfl⟩ := outR x
    simp only [Re.av, s75x0, tw_needR, tw_needT, true_and, tw_need, tw_jump]
    exact ⟨avs_low l, hp⟩
  · simp only [n75x0x1, s75x1, tw_needR, tw_needT, true_and, tw_done]
    exact hres.2 hm _ _
theorem pattern_alt {s : List UInt8} (hs : s.length ≤ 100000) {x y : Re} {l : List Re} (hl : ∀ z ∈ y :: l, PB z s) (ht : showF x = showF y ++ l.flatMap (fun z => 124 :: showF z)) (hlen : l.length + 1 ≤ 1000000) (hf : flatR 5 (y :: l) = y :: l) (hj : joinF 5 (y :: l) = x)
    (hn : ∀ m : Int, 0 ≤ m → (nestF x ≤ m ↔ ∀ z ∈ y :: l, nestF z ≤ m)) : PA x s := by
  intro K d p r hd ha hr hres
  rw [ht] at ha hres
  rw [List.append_assoc] at ha
  rw [List.length_append, ← Nat.add_assoc] at hres
  have hA := ha.app
  have key := hn (20 - (d : Nat)) (by omega)
  have bad : (∃ z ∈ y :: l, 20 < d + nestF z) → 20 < d + nestF x := fun ⟨z, hz, hm⟩ => by
    by_cases c : nestF x ≤ 20 - (d : Nat)
    · have := key.1 c z hz; omega
    · omega
  have hbs : BStop d (l.flatMap (fun y => 124 :: showF y) ++ r) := by
    cases l with
    | nil => exact .inr hr
    | cons z l => exact .inl rfl
  refine Lay.wp_of h53 (fun call => e53x0 call _ _ _) ?_
  unfold t53x0
  simp only [tw_callT]
  refine hl y (List.mem_cons_self ..) _ d p _ hd ha hbs ⟨fun hm => ?_, fun hm a q => ?_⟩
  · have hp := patL hs hd hr l [y] (p + (showF y).length) (K := K) (fun z hz => hl z (List.mem_cons_of_mem _ hz)) hA (by simp; omega) hf
      (fun hz => by
        rw [List.singleton_append, hj]
        refine hres.1 ?_
        have := key.2 fun z hz' => by
          rcases List.mem_cons.1 hz' with rfl | hz'
          · omega
          · have := hz z hz'; omega
        omega)
      (fun ⟨z, hz, hm⟩ => hres.2 (bad ⟨z, List.mem_cons_of_mem _ hz, hm⟩))
    generalize p + (showF y).length = p' at *
    clear hl ht hf hj hn ha hA hres key bad hm
    obtain ⟨k, a, b, c, d', mn, mx, ll, rfl⟩ := outR y
    simp only [Re.av, s75x0, tw_needR, tw_needT, true_and, tw_need, tw_jump]
    exact ⟨avs_low ll, hp⟩
  · simp only [n75x0x1, s75x1, tw_needR, tw_needT, true_and, tw_done]
    exact hres.2 (bad ⟨y, List.mem_cons_self .., hm⟩) _ _
end Go.Proofs.YtdiphholophdcaaDoor.T
end
section
open Go Go.Ab
/- A TREE'S TEXT IS READ AS THE TREE. -/
namespace Go.Proofs.YtdiphholophdcaaDoor.T
variable {K : Out → Prop}
theorem nestL_iff (k m : Int) : ∀ (l : List Re) (acc : Int), nestL k acc l ≤ m ↔ acc ≤ m ∧ ∀ y ∈ l, nestF y + (if wrapsB k y.kind then 1 else 0) ≤ m
  | [], acc => by simp [nestL]
  | x :: r, acc => by
    rw [nestL, nestL_iff k m r, List.forall_mem_cons]
    generalize nestF x + (if wrapsB k x.kind then 1 else 0) = q
    by_cases c : acc < q
    · rw [if_pos c]
      exact ⟨fun ⟨h1, h2⟩ => ⟨by omega, h1, h2⟩, fun ⟨h1, h2, h3⟩ => ⟨h2, h3⟩⟩
    · rw [if_neg c]
      exact ⟨fun ⟨h1, h2⟩ => ⟨h1, by omega, h2⟩, fun ⟨h1, h2, h3⟩ => ⟨h1, h3⟩⟩
theorem canF_zero {k a b c d mn mx w dp : Int} {l : List Re} (h : canF (.mk k a b c d mn mx l) w dp = true) :
    (k ≠ 1 → a = 0 ∧ b = 0 ∧ c = 0 ∧ d = 0) ∧ (k ≠ 6 → mn = 0 ∧ mx = 0) ∧ (k = 0 → w ≠ 4) ∧ (k = 4 ∨ k = 5 → k ≠ w) := by
  rw [canF_alt] at h
  split at h
  · cases h
  split at h
  · cases h
  omega
def Reads (x : Re) (s : List UInt8) : Prop := PP x s ∧ PA x s ∧ (x.kind ≠ 5 → PB x s) ∧ headB (tx x)
theorem tx_plain {x : Re} (hk : x.kind = 1 ∨ x.kind = 2 ∨ x.kind = 3 ∨ x.kind = 6) : tx x = showF x := by
  unfold tx wrapB
  rw [if_neg]
  simp only [List.mem_cons, List.not_mem_nil, or_false]; omega
theorem np_plain {x : Re} (hk : x.kind = 1 ∨ x.kind = 2 ∨ x.kind = 3 ∨ x.kind = 6) : np x = nestF x := by
  unfold np; rw [if_neg (by omega)]; omega
theorem tx_brack {x : Re} (hk : x.kind = 0 ∨ x.kind = 4 ∨ x.kind = 5) : headB (tx x) := by
  refine ⟨40, showF x ++ [41], ?_, .inl rfl⟩
  unfold tx wrapB
  rw [if_pos]
  · rfl
  simp only [List.mem_cons, List.not_mem_nil, or_false]; omega
theorem flat4_one {x : Re} (hk : x.kind = 1 ∨ x.kind = 2 ∨ x.kind = 3 ∨ x.kind = 6) : flatR 4 [x] = [x] := by
  unfold flatR
  rw [List.flatMap_cons, List.flatMap_nil, flat1, if_neg (by omega), if_pos (.inl (by omega))]
  rfl
theorem single {x : Re} {s : List UInt8} (hs : s.length ≤ 100000) (hk : x.kind = 1 ∨ x.kind = 2 ∨ x.kind = 3 ∨ x.kind = 6) (hp : PP x s) (hh : headB (tx x)) : Reads x s := by
  have hb : PB x s := branch_of hs (x := x) (l := [x]) (fun y hy => by rw [List.mem_singleton.1 hy]; exact ⟨hp, hh⟩) (by simp [tx_plain hk]) (by simp) (flat4_one hk) rfl fun m _ => by simp [np_plain hk]
  exact ⟨hp, pattern_one hs (by omega) hb, fun _ => hb, hh⟩
theorem flat_self {k : Int} : ∀ {l : List Re}, (∀ y ∈ l, y.kind ≠ k ∧ (y.kind ≠ 0 ∨ k = 5)) → flatR k l = l
  | [], _ => rfl
  | x :: r, h => by
    have ih := flat_self (k := k) (l := r) fun y hy => h y (List.mem_cons_of_mem _ hy)
    obtain ⟨h1, h2⟩ := h x (List.mem_cons_self ..)
    unfold flatR at ih ⊢
    rw [List.flatMap_cons, ih, flat1, if_neg h1, if_pos h2]
    rfl
theorem join_self {k : Int} {l : List Re} (h2 : 2 ≤ l.length) (hf : flatR k l = l) : joinF k l = .mk k 0 0 0 0 0 0 l := by
  match l, h2, hf with
  | x :: y :: r, _, hf =>
    show join2 k (x :: y :: r) = _
    unfold join2
    rw [hf]
theorem showL_cat : ∀ l : List Re, (∀ y ∈ l, y.kind ≠ 0 ∧ y.kind ≠ 4) → Go.Lib.joinTail [] (showL 4 l) = l.flatMap tx
  | [], _ => rfl
  | x :: r, h => by
    have ih := showL_cat r fun y hy => h y (List.mem_cons_of_mem _ hy)
    obtain ⟨h1, h2⟩ := h x (List.mem_cons_self ..)
    unfold Go.Lib.joinTail at *
    rw [showL, List.map_cons, List.flatten_cons, ih, List.flatMap_cons, if_pos rfl, List.nil_append]
    congr 1
    unfold tx wrapB
    by_cases c : x.kind = 5
    · rw [if_pos (by simp [c]), if_pos (by simp [c])]
    · rw [if_neg (by simp [c]), if_neg (by simp only [List.mem_cons, List.not_mem_nil, or_false]; omega)]
theorem showL_alt : ∀ l : List Re, Go.Lib.joinTail [124] (showL 5 l) = l.flatMap (fun y => 124 :: showF y)
  | [] => rfl
  | x :: r => by
    have ih := showL_alt r
    unfold Go.Lib.joinTail at *
    rw [showL, List.map_cons, List.flatten_cons, ih, List.flatMap_cons, if_neg (by decide)]
    rfl
theorem join_tail0 (l : List (List UInt8)) : Go.Lib.join l [] = Go.Lib.joinTail [] l := by
  cases l with
  | nil => rfl
  | cons x r => rw [Go.Lib.join_cons]; simp [Go.Lib.joinTail]
theorem reads_step {s : List UInt8} (hs : s.length ≤ 100000) {k a b c d mn mx w dp : Int} {l : List Re} (h : canF (.mk k a b c d mn mx l) w dp = true) (hw : (Re.mk k a b c d mn mx l).words) (hlen : l.length ≤ 1000000)
    (hl : ∀ y ∈ l, Reads y s ∧ canF y k (dp + 1) = true) : Reads (.mk k a b c d mn mx l) s := by
  obtain ⟨_, k0, k6, h4, h6, h2, _⟩ := canF_parts h
  obtain ⟨z1, z2, _, _⟩ := canF_zero h
  obtain ⟨wa, wb, wc, wd, _⟩ := hw
  have hk : k = 0 ∨ k = 1 ∨ k = 2 ∨ k = 3 ∨ k = 4 ∨ k = 5 ∨ k = 6 := by omega
  have kid : ∀ y ∈ l, (y.kind = 0 → k ≠ 4) ∧ (y.kind = 4 ∨ y.kind = 5 → y.kind ≠ k) := fun y hy => by
    have := (hl y hy).2
    obtain ⟨k', a', b', c', d', mn', mx', l', rfl⟩ := outR y
    obtain ⟨_, _, q1, q2⟩ := canF_zero this
    exact ⟨q1, q2⟩
  rcases hk with rfl | rfl | rfl | rfl | rfl | rfl | rfl
  · obtain rfl := h4 (by decide)
    obtain ⟨rfl, rfl, rfl, rfl⟩ := z1 (by decide)
    obtain ⟨rfl, rfl⟩ := z2 (by decide)
    have hb : PB Re.nil s := branch_of hs (x := Re.nil) (l := []) (fun y hy => by cases hy) rfl (by simp) rfl rfl fun m hm => by
      have : nestF Re.nil = 0 := rfl
      rw [this]; simp [hm]
    have hp : PA Re.nil s := pattern_one hs (by decide) hb
    exact ⟨pp_brack hs (.inl rfl) hp, hp, fun _ => hb, tx_brack (.inl rfl)⟩
  · obtain rfl := h4 (by decide)
    obtain ⟨rfl, rfl⟩ := z2 (by decide)
    refine single hs (.inl rfl) (pp_atom (.inl rfl) rfl fun {K} dd p r ha hh => ?_) ?_
    · have e : showF (.mk 1 a b c d 0 0 []) = if a = 18446744073709551615 ∧ b = 18446744073709551615 ∧ c = 18446744073709551615 ∧ d = 18446744073709551615 then [46] else clsText a.toNat b.toNat c.toNat d.toNat := by
        unfold showF; rw [if_pos rfl]
      rw [e] at ha hh
      by_cases c2 : a = 18446744073709551615 ∧ b = 18446744073709551615 ∧ c = 18446744073709551615 ∧ d = 18446744073709551615
      · rw [if_pos c2] at ha hh
        obtain ⟨rfl, rfl, rfl, rfl⟩ := c2
        exact atom_dot hs ha hh
      · rw [if_neg c2] at ha hh
        have ea : ((a.toNat : Nat) : Int) = a := by omega
        have eb : ((b.toNat : Nat) : Int) = b := by omega
        have ec : ((c.toNat : Nat) : Int) = c := by omega
        have ed : ((d.toNat : Nat) : Int) = d := by omega
        refine atom_cls hs (a := a.toNat) (b := b.toNat) (c := c.toNat) (d := d.toNat) (by omega) (by omega) (by omega) (by omega) ha ?_
        rw [ea, eb, ec, ed]
        exact hh
    · rw [tx_plain (.inl rfl)]
      unfold showF
      rw [if_pos rfl]
      split
      · exact ⟨46, [], rfl, .inr (.inr (.inl rfl))⟩
      · obtain ⟨q, hq⟩ := clsText_head a.toNat b.toNat c.toNat d.toNat []
        rw [List.append_nil] at hq
        exact ⟨91, q, hq, .inr (.inl rfl)⟩
  · obtain rfl := h4 (by decide)
    obtain ⟨rfl, rfl, rfl, rfl⟩ := z1 (by decide)
    obtain ⟨rfl, rfl⟩ := z2 (by decide)
    exact single hs (.inr (.inl rfl)) (pp_atom (x := .mk 2 0 0 0 0 0 0 []) (.inr (.inl rfl)) rfl fun {K} dd p r ha hh => atom_begin hs ha hh) ⟨94, [], rfl, .inr (.inr (.inr (.inl rfl)))⟩
  · obtain rfl := h4 (by decide)
    obtain ⟨rfl, rfl, rfl, rfl⟩ := z1 (by decide)
    obtain ⟨rfl, rfl⟩ := z2 (by decide)
    exact single hs (.inr (.inr (.inl rfl))) (pp_atom (x := .mk 3 0 0 0 0 0 0 []) (.inr (.inr rfl)) rfl fun {K} dd p r ha hh => atom_end hs ha hh) ⟨36, [], rfl, .inr (.inr (.inr (.inr rfl)))⟩
  · obtain ⟨rfl, rfl, rfl, rfl⟩ := z1 (by decide)
    obtain ⟨rfl, rfl⟩ := z2 (by decide)
    have kids : ∀ y ∈ l, y.kind ≠ 0 ∧ y.kind ≠ 4 := fun y hy => ⟨fun e => (kid y hy).1 e rfl, fun e => (kid y hy).2 (.inl e) e⟩
    have hf : flatR 4 l = l := flat_self fun y hy => ⟨(kids y hy).2, .inl (kids y hy).1⟩
    have ht : showF (.mk 4 0 0 0 0 0 0 l) = l.flatMap tx := by
      unfold showF
      rw [if_neg (by decide), if_neg (by decide), if_neg (by decide), if_neg (by decide), if_neg (by decide), join_tail0]
      exact showL_cat l kids
    have hb : PB (.mk 4 0 0 0 0 0 0 l) s := branch_of hs (l := l) (fun y hy => ⟨(hl y hy).1.1, (hl y hy).1.2.2.2⟩) ht hlen hf (join_self (h2 (.inl rfl)) hf) fun m hm => by
      unfold nestF
      rw [nestL_iff]
      have e : ∀ y ∈ l, nestF y + (if wrapsB 4 y.kind then 1 else 0) = np y := fun y hy => by
        have := kids y hy
        unfold np
        by_cases c5 : y.kind = 5
        · have w : wrapsB 4 y.kind := .inl ⟨rfl, c5⟩
          rw [if_pos w, if_pos (.inr (.inr c5))]
        · have w : ¬ wrapsB 4 y.kind := by unfold wrapsB; omega
          rw [if_neg w, if_neg (by omega)]
      constructor
      · intro hh y hy; rw [← e y hy]; exact hh.2 y hy
      · intro hh; exact ⟨hm, fun y hy => by rw [e y hy]; exact hh y hy⟩
    have hp : PA (.mk 4 0 0 0 0 0 0 l) s := pattern_one hs (show (4 : Int) ≠ 5 by decide) hb
    exact ⟨pp_brack hs (.inr (.inl rfl)) hp, hp, fun _ => hb, tx_brack (.inr (.inl rfl))⟩
  · obtain ⟨rfl, rfl, rfl, rfl⟩ := z1 (by decide)
    obtain ⟨rfl, rfl⟩ := z2 (by decide)
    have kids : ∀ y ∈ l, y.kind ≠ 5 := fun y hy e => (kid y hy).2 (.inr e) e
    have hf : flatR 5 l = l := flat_self fun y hy => ⟨kids y hy, .inr rfl⟩
    have hj := join_self (h2 (.inr rfl)) hf
    have hp : PA (.mk 5 0 0 0 0 0 0 l) s := by
      match l, h2 (.inr rfl), hl, hlen, kids, hf, hj with
      | y :: r, _, hl, hlen, kids, hf, hj =>
        refine pattern_alt hs (fun z hz => (hl z hz).1.2.2.1 (kids z hz)) ?_ (by simpa using hlen) hf hj fun m hm => ?_
        · rw [showF, if_neg (by decide), if_neg (by decide), if_neg (by decide), if_neg (by decide), if_pos rfl, showL, Go.Lib.join_cons, showL_alt, if_neg (by decide)]
        · rw [nestF, nestL_iff]
          have e : ∀ z : Re, nestF z + (if wrapsB 5 z.kind then 1 else 0) = nestF z := fun z => by
            have w : ¬ wrapsB 5 z.kind := by unfold wrapsB; omega
            rw [if_neg w]; omega
          simp only [e]
          exact ⟨fun hh => hh.2, fun hh => ⟨hm, hh⟩⟩
    exact ⟨pp_brack hs (.inr (.inr rfl)) hp, hp, fun hh => (hh rfl).elim, tx_brack (.inr (.inr rfl))⟩
  · obtain ⟨rfl, rfl, rfl, rfl⟩ := z1 (by decide)
    obtain ⟨h61, h62, h63, h64⟩ := h6 rfl
    match l, h61, hl with
    | [y], _, hl =>
      obtain ⟨hy, _⟩ := hl y (List.mem_cons_self ..)
      refine single hs (.inr (.inr (.inr rfl))) (pp_rep hs h62 h63 h64 hy.1) ?_
      rw [tx_plain (.inr (.inr (.inr rfl)))]
      unfold showF
      rw [if_neg (by decide), if_neg (by decide), if_neg (by decide), if_pos rfl]
      exact hy.2.2.2.app
mutual
theorem reads {s : List UInt8} (hs : s.length ≤ 100000) : ∀ (x : Re) (w dp : Int), canF x w dp = true → x.words → x.nodes ≤ 1000000 → Reads x s
  | .mk k a b c d mn mx l, w, dp, h, hw, hn => by
    simp only [Re.nodes] at hn
    have hln := nodesL_len l
    exact reads_step hs h hw (by omega) (readsL hs l k (dp + 1) (canF_parts h).2.2.2.2.2.2 hw.2.2.2.2 (by omega))
theorem readsL {s : List UInt8} (hs : s.length ≤ 100000) : ∀ (l : List Re) (k dp : Int), canL l k dp = true → Re.wordsL l → Re.nodesL l ≤ 1000000 → ∀ y ∈ l, Reads y s ∧ canF y k dp = true
  | [], k, dp, h, hw, hn, y, hy => by cases hy
  | x :: r, k, dp, h, hw, hn, y, hy => by
    simp only [canL, Bool.and_eq_true] at h
    simp only [Re.nodesL] at hn
    have h1 := reads hs x k dp h.1 hw.1 (by omega)
    have h2 := readsL hs r k dp h.2 hw.2 (by omega)
    rcases List.mem_cons.1 hy with rfl | hy
    · exact ⟨h1, h.1⟩
    · exact h2 y hy
end
end Go.Proofs.YtdiphholophdcaaDoor.T
end
section
open Go Go.Ab
/- THE REFERENCE's SETS. -/
namespace Go.Proofs.YtdiphholophdcaaDoor.T
variable {K : Out → Prop}
theorem expand_fst (cs : List AV) (t : Tag) : (expand (.agg cs, t)).map (·.1) = cs := by
  unfold expand
  simp only [List.map_map]
  have : ((fun (x : SV) => x.1) ∘ fun (p : AV × Nat) => ((p.1, t.at p.2) : SV)) = Prod.fst := rfl
  exact (congrArg (fun f => cs.zipIdx.map f) this).trans (List.zipIdx_map_fst ..)
end Go.Proofs.YtdiphholophdcaaDoor.T
end
section
open Go Go.Ab
/- THE REFERENCE's Show: HOW OFTEN. -/
namespace Go.Proofs.YtdiphholophdcaaDoor.T
variable {K : Out → Prop}
end Go.Proofs.YtdiphholophdcaaDoor.T
end
section
open Go Go.Ab
/- THE REFERENCE's Show. -/
namespace Go.Proofs.YtdiphholophdcaaDoor.T
variable {K : Out → Prop}
end Go.Proofs.YtdiphholophdcaaDoor.T
end
section
open Go Go.Ab
/- THE LAW's PART OF EreShows. -/
namespace Go.Proofs.YtdiphholophdcaaDoor.T
variable {K : Out → Prop}
theorem lives_end {f : Nat} (h : K (.ret (.bool true, .no), ⟨[], []⟩)) : (Tree.call 20 0 [] fun o => outT o20x0 o (fun (b10 : Bool) => .done ((.ret ((.bool b10), .no)), ⟨[], ([] : List Nat)⟩)) (.fail)).wp lay.ev f K := by
  simp only [tw_callT]
  refine lives_wp ?_
  simp only [s20x0, tw_needR, tw_needT, true_and, tw_done]
  exact h
end Go.Proofs.YtdiphholophdcaaDoor.T
end
section
open Go Go.Ab
/- THE LAW's PART OF EreBack. -/
namespace Go.Proofs.YtdiphholophdcaaDoor.T
variable {K : Out → Prop}
/-- Parse of a tree's text -/
theorem parse_show {x : Re} {w dp : Int} (hc : canF x w dp = true) (hw : x.words) (hn : x.nodes ≤ 1000000)
    (h1 : (showF x).length ≤ 400 → nestF x ≤ 20 → K (.ret (.tup [x.av, .int .i64 0, .int .i64 0], .agg [.no, .no, .no]), ⟨[], []⟩))
    (h2 : 400 < (showF x).length ∨ 20 < nestF x → ∀ a : Int, K (.ret (.tup [Re.nil.av, .int .i64 a, .int .i64 2], .agg [.no, .no, .no]), ⟨[], []⟩)) :
    lay.Wp 27 0 [.str (showF x)] K := by
  have z0 : ((0 : Int) == 0) = true := rfl
  refine Lay.wp_of h27 (fun call => e27x0 call _) ?_
  unfold t27x0
  simp only [tw_nm, tw_ite, tw_callT, tw_need, tw_done]
  by_cases c1 : 400 < (showF x).length
  · rw [if_pos (by rw [decide_eq_true_eq]; omega)]
    exact ⟨rfl, rfl, h2 (.inl c1) 0⟩
  rw [if_neg (by rw [decide_eq_true_eq]; omega)]
  have hp := (reads (s := showF x) (by omega) x w dp hc hw hn).2.1
  refine hp _ 0 0 [] (by decide) (by rw [List.append_nil]; exact At.start _) (.inl rfl) ⟨fun hm => ?_, fun hm a q => ?_⟩
  · have hok := h1 (by omega) (by simpa using hm)
    clear hp hc hw hn h1 h2
    generalize showF x = t at *
    obtain ⟨k, a, b, c, d', mn, mx, l, rfl⟩ := outR x
    simp only [Re.av, s53x0, Bool.not_true, tw_needR, tw_needT, true_and, tw_need, tw_nm, tw_iteF, tw_done]
    exact ⟨avs_low l, avs_low l, avs_low l, hok⟩
  · have hbad := h2 (.inr (by simpa using hm)) a
    simp only [n53x0x1, s53x1, Bool.not_true, Bool.not_false, tw_needR, tw_needT, true_and, tw_need, tw_nm, tw_iteF, tw_iteT, tw_done]
    first | exact ⟨rfl, rfl, hbad⟩ | exact ⟨rfl, hbad⟩ | exact hbad
theorem ereBack_wp (x : Re) (hw : x.words) : lay.Wp 7 0 x.av.cells fun o => o = (.ret (.bool true, .no), ⟨[], []⟩) := by
  have hsm := fun K' h' => small_wp (x := x) (K := K') h'
  have hcr := fun (hn : x.nodes ≤ 400) K' h' => canR_wp x (-1) 1 (K := K') (by omega) (by decide) (by decide) h'
  have hc := fun (hn : x.nodes ≤ 400) K' h' => can_wp x (-1) 1 (K := K') (fits_nodes x (by omega)) (by decide) (by decide) h'
  have hsh := fun (hn : x.nodes ≤ 400) (hcan : canF x (-1) 1 = true) K' h' => show_wp x (K := K') (can_ok x _ _ hw hcan) (by omega) h'
  have hps := fun (hn : x.nodes ≤ 400) (hcan : canF x (-1) 1 = true) K' h1 h2 => parse_show (x := x) (K := K') hcan hw (by omega) h1 h2
  have hne := fun (hn : x.nodes ≤ 400) K' h' => nest_wp x (K := K') (by omega) h'
  have hsa := fun (hn : x.nodes ≤ 400) K' h' => same_wp x (K := K') (by omega) h'
  generalize canF x (-1) 1 = can at *
  generalize nestF x = n at *
  generalize showF x = s at *
  generalize x.nodes = nd at *
  have hxlow := av_low x
  obtain ⟨k, a, b, c, d, mn, mx, l, rfl⟩ := outR x
  rw [re_cells] at *
  have hlow := avs_low l
  refine Lay.wp_of h7 (fun call => e7x0 call _ _ _ _ _ _ _ _) ?_
  unfold t7x0
  simp only [tw_need, tw_callT]
  refine ⟨hlow, hsm _ fun sm hsm' => ?_⟩
  cases sm
  · simp only [s19x0, Bool.not_false, tw_needR, tw_needT, true_and, tw_nm, tw_iteT]
    exact lives_end rfl
  have hnd := hsm' rfl
  simp only [s19x0, Bool.not_true, tw_needR, tw_needT, true_and, tw_nm, tw_iteF, tw_need, tw_callT]
  refine ⟨hlow, hcr hnd _ ?_⟩
  cases can
  · simp only [s21x0, Bool.not_false, tw_needR, tw_needT, true_and, tw_nm, tw_iteT]
    exact lives_end rfl
  simp only [s21x0, Bool.not_true, tw_needR, tw_needT, true_and, tw_nm, tw_iteF, tw_need, tw_callT]
  refine ⟨hlow, ?_⟩
  refine Lay.wp_of h22 (fun call => e22x0 call _ _ _ _ _ _ _ _) ?_
  unfold t22x0
  simp only [tw_need, tw_callT]
  refine ⟨hlow, hc hnd _ ?_⟩
  simp only [s46x0, s22x0, Bool.not_true, tw_needR, tw_needT, true_and, tw_nm, tw_iteF, tw_done, tw_need, tw_callT]
  refine ⟨hlow, hsh hnd rfl _ ?_⟩
  simp only [s47x0, s22x0, tw_needR, tw_needT, true_and, tw_nm, tw_done, tw_need, tw_callT]
  have e2 : ((2 : Int) != 0) = true := rfl
  have e0 : ((0 : Int) == 0) = true := rfl
  refine hps hnd rfl _ (fun g1 g2 => ?_) (fun g a0 => ?_)
  · have v1 : decide (((s.length : Nat) : Int) > 400) = false := by rw [decide_eq_false_iff_not]; omega
    have v2 : decide (n > 20) = false := by rw [decide_eq_false_iff_not]; omega
    simp only [Re.av] at hxlow ⊢
    simp only [s27x0, hxlow, v1, e0, tw_needR, tw_needT, true_and, tw_nm, tw_iteT, tw_iteF, tw_need, tw_callT]
    refine ⟨hlow, hlow, hne hnd _ ?_⟩
    simp only [s28x0, v2, tw_needR, tw_needT, true_and, tw_nm, tw_iteT, tw_iteF, tw_need, tw_callT]
    refine ⟨hlow, hlow, hsa hnd _ ?_⟩
    simp only [s29x0, tw_needR, tw_needT, true_and, tw_nm, tw_iteT]
    exact lives_end rfl
  · have hnl : AV.low 0 Re.nil.av = true := rfl
    simp only [Re.nil, Re.av] at hnl ⊢
    simp only [s27x0, hnl, tw_needR, tw_needT, true_and, tw_nm, tw_ite, tw_need]
    rw [if_pos trivial]
    refine ⟨rfl, ?_⟩
    by_cases c1 : 400 < s.length
    · rw [if_pos (by rw [decide_eq_true_eq]; omega), if_pos e2]
      exact lives_end rfl
    rw [if_neg (by rw [decide_eq_true_eq]; omega)]
    simp only [tw_callT]
    refine ⟨hlow, hne hnd _ ?_⟩
    have v2 : decide (n > 20) = true := by rw [decide_eq_true_eq]; omega
    simp only [s28x0, v2, e2, tw_needR, tw_needT, true_and, tw_nm, tw_iteT]
    exact lives_end rfl
end Go.Proofs.YtdiphholophdcaaDoor.T
end
section
open Go Go.Ab
/- A TREE AS AN ARGUMENT. -/
namespace Go.Proofs.YtdiphholophdcaaDoor.T
theorem cells36 : Tryd.prog.cellsOf 36 = 8 := by kernel_rfl
theorem cells33 : Tryd.prog.cellsOf 33 = 4 := by kernel_rfl
theorem cells31 : Tryd.prog.cellsOf 31 = 1 := by kernel_rfl
theorem cells3 : Tryd.prog.cellsOf 3 = 1 := by kernel_rfl
theorem cells34 : Tryd.prog.cellsOf 34 = 1 := by kernel_rfl
/-- a tree's cells -/
def ReAt (W : World) (x : Re) (cs : List Value) : Prop := match x with
  | .mk k a b c d mn mx l => ∃ v, cs = [.int .i64 k, .int .u64 a, .int .u64 b, .int .u64 c, .int .u64 d, .int .i64 mn, .int .i64 mx, v] ∧ R (ghost0 W) (.sl (Re.avs l)) v ∧ v.oneCell' = true
theorem ReAt.len {W : World} {x : Re} {cs : List Value} (h : ReAt W x cs) : cs.length = 8 := by
  obtain ⟨k, a, b, c, d, mn, mx, l, rfl⟩ := outR x
  obtain ⟨v, rfl, _⟩ := h
  rfl
theorem ReAt.cell {W : World} {x : Re} {cs : List Value} (h : ReAt W x cs) : ∀ i (h1 : i < x.av.cells.length) (h2 : i < cs.length), R (ghost0 W) x.av.cells[i] cs[i] ∧ cs[i].oneCell' = true := by
  obtain ⟨k, a, b, c, d, mn, mx, l, rfl⟩ := outR x
  obtain ⟨v, rfl, hv, h1⟩ := h
  intro i p q
  simp only [List.length_cons, List.length_nil] at q
  match i, q with
  | 0, _ => exact ⟨.int _ _, rfl⟩
  | 1, _ => exact ⟨.int _ _, rfl⟩
  | 2, _ => exact ⟨.int _ _, rfl⟩
  | 3, _ => exact ⟨.int _ _, rfl⟩
  | 4, _ => exact ⟨.int _ _, rfl⟩
  | 5, _ => exact ⟨.int _ _, rfl⟩
  | 6, _ => exact ⟨.int _ _, rfl⟩
  | 7, _ => exact ⟨hv, h1⟩
theorem av_cells_len (x : Re) : x.av.cells.length = 8 := by
  obtain ⟨k, a, b, c, d, mn, mx, l, rfl⟩ := outR x
  rfl
theorem avs_cells (l : List Re) : ∀ x ∈ Re.avs l, x.cells.length = 8 := by
  rw [avs_map]
  intro x hx
  obtain ⟨y, _, rfl⟩ := List.mem_map.1 hx
  exact av_cells_len y
theorem fl_avs : ∀ (l : List Re) (i j : Nat) (h : i < l.length) (hj : j < 8), (fl (Re.avs l))[i * 8 + j]? = l[i].av.cells[j]?
  | x :: r, 0, j, h, hj => by
    rw [avs_map, List.map_cons, fl_cons, List.getElem?_append_left (by rw [av_cells_len]; omega)]
    simp
  | x :: r, i + 1, j, h, hj => by
    have ih := fl_avs r i j (by simpa using h) hj
    rw [avs_map] at ih ⊢
    rw [List.map_cons, fl_cons, List.getElem?_append_right (by rw [av_cells_len]; omega), av_cells_len, List.getElem_cons_succ, ← ih]
    congr 1; omega
theorem spot_none {W : World} {a : Addr} {n : Nat} {cs : List Value} (h : W.cells? 0 (a.add 0) (n + 1) = some cs) : a.spot = none := by
  obtain ⟨_, hl, hc⟩ := World.cells?_some h
  have h0 := hc 0 (by omega)
  have e : (a.add 0).add 0 = a := rfl
  rw [e, List.getElem?_eq_getElem (by omega)] at h0
  unfold World.cell? at h0
  split at h0
  · split at h0
    · cases h0
    · rename_i hs; simpa using hs
  · cases h0
theorem wfI {k : IntKind} {n : Int} (hk : k = .u64) (h : (Lit.int k n).wf = true) : 0 ≤ n ∧ n < 18446744073709551616 := by
  subst hk
  simp [Lit.wf, IntKind.min, IntKind.max, IntKind.signed, IntKind.bits] at h
  omega
section
variable {H : Type} {enc : TypeId × Value → H} {W : World}
theorem re_list {n len : Nat} {a : Addr} (ha : a.spot = none) {el : Nat → DataW H × List MemPlace}
    (ih : ∀ cs y, DataW.trod enc Tryd.prog W 0 (fun _ => true) true n 36 cs = some y → ∃ x : Re, x.words ∧ ReAt W x cs)
    (h : ∀ i, i < len → ∃ cs, W.cells? 0 (a.add (i * 8)) 8 = some cs ∧ DataW.trod enc Tryd.prog W 0 (fun _ => true) true n 36 cs = some (el i)) :
    ∃ l : List Re, l.length = len ∧ Re.wordsL l ∧ ∀ i (h : i < l.length), ∃ cs, W.cells? 0 (a.add (i * 8)) 8 = some cs ∧ ReAt W l[i] cs := by
  have wapp : ∀ (l : List Re) (x : Re), Re.wordsL l → x.words → Re.wordsL (l ++ [x]) := by
    intro l
    induction l with
    | nil => exact fun x _ hx => ⟨hx, trivial⟩
    | cons y l ihl => exact fun x hl hx => ⟨hl.1, ihl x hl.2 hx⟩
  induction len with
  | zero => exact ⟨[], rfl, trivial, fun i h => absurd h (by simp)⟩
  | succ m ihm =>
    obtain ⟨l, hl, hw, hc⟩ := ihm fun i hi => h i (by omega)
    obtain ⟨cs, h1, h2⟩ := h m (by omega)
    obtain ⟨x, hx, hr⟩ := ih cs _ h2
    refine ⟨l ++ [x], by simp [hl], wapp l x hw hx, fun i hi => ?_⟩
    by_cases e : i < l.length
    · rw [List.getElem_append_left e]
      exact hc i e
    · obtain rfl : i = m := by simp at hi; omega
      rw [List.getElem_append_right (by omega)]
      simp only [hl, Nat.sub_self, List.getElem_cons_zero]
      exact ⟨cs, h1, hr⟩
theorem re_slice {len cap : Nat} {a : Addr} (ha : a.spot = none) (hc : len ≤ cap) {l : List Re} (hl : l.length = len)
    (h : ∀ i (h : i < l.length), ∃ cs, W.cells? 0 (a.add (i * 8)) 8 = some cs ∧ ReAt W l[i] cs) : R (ghost0 W) (.sl (Re.avs l)) (.slice (some a) len cap) := by
  obtain ⟨blk, off, sp⟩ := a
  simp only at ha
  subst ha
  subst hl
  have hlen : (fl (Re.avs l)).length = l.length * 8 := by rw [fl_length (avs_cells l), avs_len]
  have key : ∀ i, i < (fl (Re.avs l)).length → ∃ v, W.cell? ⟨blk, off + i, none⟩ = some v ∧ (∀ h : i < (fl (Re.avs l)).length, R (ghost0 W) (fl (Re.avs l))[i] v) ∧ v.oneCell' = true := by
    intro i hi
    have hq : i / 8 < l.length := by omega
    obtain ⟨cs, h1, h2⟩ := h (i / 8) hq
    obtain ⟨_, h3, h4⟩ := World.cells?_some h1
    have h5 := h4 (i % 8) (by omega)
    have ea : ((⟨blk, off, none⟩ : Addr).add (i / 8 * 8)).add (i % 8) = ⟨blk, off + i, none⟩ := by
      unfold Addr.add
      have : i / 8 * 8 + i % 8 = i := by omega
      split <;> split <;> simp_all <;> omega
    rw [ea, List.getElem?_eq_getElem (by omega)] at h5
    have hcell := h2.cell (i % 8) (by rw [av_cells_len]; omega) (by omega)
    refine ⟨_, h5, fun hh => ?_, hcell.2⟩
    have hf := fl_avs l (i / 8) (i % 8) hq (by omega)
    have hi8 : i / 8 * 8 + i % 8 = i := by omega
    rw [hi8, List.getElem?_eq_getElem hh, List.getElem?_eq_getElem (by rw [av_cells_len]; omega)] at hf
    rw [Option.some.inj hf]
    exact hcell.1
  have hav : (Re.avs l).length = l.length := avs_len l
  rw [← hav]
  refine .sl 8 (Re.avs l) blk off cap (fun i => (W.cell? ⟨blk, off + i, none⟩).getD Go.undef) (avs_cells l) (by rw [hav]; exact hc) (fun i hi => ?_) (fun i hi => ?_) (fun i hi => ?_)
  · obtain ⟨v, h1, _⟩ := key i hi
    show W.cell? ⟨blk, off + i, none⟩ = some ((W.cell? ⟨blk, off + i, none⟩).getD Go.undef)
    rw [h1]; rfl
  · obtain ⟨v, h1, h2, _⟩ := key i hi
    simp only [h1, Option.getD_some]
    exact h2 hi
  · obtain ⟨v, h1, _, h3⟩ := key i hi
    simp only [h1, Option.getD_some]
    exact h3
set_option maxRecDepth 100000 in
theorem re_open : ∀ (fuel : Nat) (cs : List Value) (y : DataW H × List MemPlace), DataW.trod enc Tryd.prog W 0 (fun _ => true) true fuel 36 cs = some y → ∃ x : Re, x.words ∧ ReAt W x cs := by
  intro fuel
  induction fuel using Nat.strongRecOn with
  | _ fuel ih =>
    intro cs y h
    obtain ⟨xs, n, rfl, _, hcl, hxl, hf⟩ := DataW.trod_struct Tryd.underlying36 h
    rw [cells36] at hcl
    have hxl : xs.length = 5 := hxl
    have some' : ∀ i, i < 5 → ∃ z, xs[i]? = some z := fun i hi => ⟨xs[i]'(by omega), List.getElem?_eq_getElem _⟩
    match cs, hcl with
    | [c0, c1, c2, c3, c4, c5, c6, c7], _ =>
      obtain ⟨z0, e0⟩ := some' 0 (by omega)
      obtain ⟨z1, e1⟩ := some' 1 (by omega)
      obtain ⟨z2, e2⟩ := some' 2 (by omega)
      obtain ⟨z3, e3⟩ := some' 3 (by omega)
      obtain ⟨z4, e4⟩ := some' 4 (by omega)
      have g0 : DataW.trod enc Tryd.prog W 0 (fun _ => true) true n 3 [c0] = xs[0]? := by
        have q : DataW.trod enc Tryd.prog W 0 (fun _ => true) true n 3 (([c0, c1, c2, c3, c4, c5, c6, c7].drop 0).take (Tryd.prog.cellsOf 3)) = xs[0]? := hf 0 _ rfl
        rw [cells3] at q
        exact q
      have g1 : DataW.trod enc Tryd.prog W 0 (fun _ => true) true n 33 [c1, c2, c3, c4] = xs[1]? := by
        have q : DataW.trod enc Tryd.prog W 0 (fun _ => true) true n 33 (([c0, c1, c2, c3, c4, c5, c6, c7].drop 1).take (Tryd.prog.cellsOf 33)) = xs[1]? := hf 1 _ rfl
        rw [cells33] at q
        exact q
      have g2 : DataW.trod enc Tryd.prog W 0 (fun _ => true) true n 3 [c5] = xs[2]? := by
        have q : DataW.trod enc Tryd.prog W 0 (fun _ => true) true n 3 (([c0, c1, c2, c3, c4, c5, c6, c7].drop 5).take (Tryd.prog.cellsOf 3)) = xs[2]? := hf 2 _ rfl
        rw [cells3] at q
        exact q
      have g3 : DataW.trod enc Tryd.prog W 0 (fun _ => true) true n 3 [c6] = xs[3]? := by
        have q : DataW.trod enc Tryd.prog W 0 (fun _ => true) true n 3 (([c0, c1, c2, c3, c4, c5, c6, c7].drop 6).take (Tryd.prog.cellsOf 3)) = xs[3]? := hf 3 _ rfl
        rw [cells3] at q
        exact q
      have g4 : DataW.trod enc Tryd.prog W 0 (fun _ => true) true n 34 [c7] = xs[4]? := by
        have q : DataW.trod enc Tryd.prog W 0 (fun _ => true) true n 34 (([c0, c1, c2, c3, c4, c5, c6, c7].drop 7).take (Tryd.prog.cellsOf 34)) = xs[4]? := hf 4 _ rfl
        rw [cells34] at q
        exact q
      rw [e0] at g0
      rw [e1] at g1
      rw [e2] at g2
      rw [e3] at g3
      rw [e4] at g4
      obtain ⟨k, hk, _, _⟩ := DataW.trod_int Tryd.underlying3 g0
      obtain ⟨mn, hmn, _, _⟩ := DataW.trod_int Tryd.underlying3 g2
      obtain ⟨mx, hmx, _, _⟩ := DataW.trod_int Tryd.underlying3 g3
      obtain ⟨ws, m, _, _, _, hwl, hw⟩ := DataW.trod_array Tryd.underlying33 g1
      have somew : ∀ i, i < 4 → ∃ z, ws[i]? = some z := fun i hi => ⟨ws[i]'(by omega), List.getElem?_eq_getElem _⟩
      have w0 := hw 0 (by omega)
      have w1 := hw 1 (by omega)
      have w2 := hw 2 (by omega)
      have w3 := hw 3 (by omega)
      obtain ⟨y0, f0⟩ := somew 0 (by omega)
      obtain ⟨y1, f1⟩ := somew 1 (by omega)
      obtain ⟨y2, f2⟩ := somew 2 (by omega)
      obtain ⟨y3, f3⟩ := somew 3 (by omega)
      rw [f0] at w0
      rw [f1] at w1
      rw [f2] at w2
      rw [f3] at w3
      simp only [cells31, Nat.zero_mul, Nat.one_mul, Nat.mul_one] at w0 w1 w2 w3
      have w0 : DataW.trod enc Tryd.prog W 0 (fun _ => true) true m 31 [c1] = some y0 := w0
      have w1 : DataW.trod enc Tryd.prog W 0 (fun _ => true) true m 31 [c2] = some y1 := w1
      have w2 : DataW.trod enc Tryd.prog W 0 (fun _ => true) true m 31 [c3] = some y2 := w2
      have w3 : DataW.trod enc Tryd.prog W 0 (fun _ => true) true m 31 [c4] = some y3 := w3
      obtain ⟨a, ha, _, ha'⟩ := DataW.trod_int Tryd.underlying31 w0
      obtain ⟨b, hb, _, hb'⟩ := DataW.trod_int Tryd.underlying31 w1
      obtain ⟨c, hc, _, hc'⟩ := DataW.trod_int Tryd.underlying31 w2
      obtain ⟨d, hd, _, hd'⟩ := DataW.trod_int Tryd.underlying31 w3
      cases hk; cases hmn; cases hmx; cases ha; cases hb; cases hc; cases hd
      have fin (l : List Re) (hl : Re.wordsL l) (hr : R (ghost0 W) (.sl (Re.avs l)) c7) (h1 : c7.oneCell' = true) : ∃ x : Re, x.words ∧ ReAt W x [.int .i64 k, .int .u64 a, .int .u64 b, .int .u64 c, .int .u64 d, .int .i64 mn, .int .i64 mx, c7] :=
        ⟨.mk k a b c d mn mx l, ⟨wfI rfl ha', wfI rfl hb', wfI rfl hc', wfI rfl hd', hl⟩, c7, rfl, hr, h1⟩
      rcases DataW.trod_slice Tryd.underlying34 g4 with ⟨hs, _⟩ | ⟨ad, len, cap, elems, rest, q, hq, hs, _, _, hle, _, hel, hall, hsp, _⟩
      · cases hs
        exact fin [] trivial (.nils none) rfl
      · cases hs
        rw [cells36] at hall hsp
        have hsp := hsp rfl
        have hone : ∀ i, i < len → ∃ cs, W.cells? 0 (ad.add (i * 8)) 8 = some cs ∧ DataW.trod enc Tryd.prog W 0 (fun _ => true) true q 36 cs = some (elems.getD i (.nil, [])) := by
          intro i hi
          have := hall i hi
          rw [List.getElem?_eq_getElem (by omega)] at this
          obtain ⟨cs', h1, h2⟩ := Option.bind_eq_some_iff.1 this
          refine ⟨cs', h1, ?_⟩
          rw [h2]
          simp [List.getD, List.getElem?_eq_getElem (show i < elems.length by omega)]
        by_cases z : cap = 0
        · obtain rfl : len = 0 := by omega
          subst z
          exact fin [] trivial (.nils _) rfl
        · have hspot : ad.spot = none := by
            by_cases z1 : len = 0
            · subst z1
              have := hsp.2 0 (by omega)
              rw [List.getElem?_eq_getElem (by omega)] at this
              obtain ⟨cs', h1, _⟩ := Option.bind_eq_some_iff.1 this
              rw [Nat.add_zero, Nat.zero_mul] at h1
              exact spot_none h1
            · obtain ⟨cs', h1, _⟩ := hone 0 (by omega)
              rw [Nat.zero_mul] at h1
              exact spot_none h1
          obtain ⟨l, hl, hwl', hcl'⟩ := re_list (enc := enc) hspot (ih q (by omega)) hone
          exact fin l hwl' (re_slice hspot hle hl hcl') rfl
end
end Go.Proofs.YtdiphholophdcaaDoor.T
end
section
/-
  DERIVED: THE SHELF's CONTRACTS AT THIS DUMP, IN PLAIN WORDS (tools/lay-plain.mjs out of 'TrydShelfB.lean', which tools/lay-shelf.mjs wrote): THE SAME DECLARATIONS UNDER THE SAME NAMES: 'import', 'namespace', 'open', 'def', 'theorem' AND NOTHING ELSE: no command of the shelf's: FOR A HAND-IN. Each laying: the table of numbers ('.._ren') and one theorem, a field a fact of the dump's own or the kernel's comparison; each contract: ONE APPLICATION.
-/
namespace Go.Proofs
open Go.Shelf
def Tryd.lays156_ren : Go.Shelf.Ren := ⟨fun | 156 => 73 | 165 => 90 | 166 => 43 | 169 => 44 | 240 => 66 | 241 => 100 | 276 => 84 | 277 => 108 | n => n, fun | 31 => 53 | 9 => 9 | 3 => 3 | 4 => 4 | 0 => 0 | 20 => 20 | 72 => 59 | 76 => 63 | 70 => 56 | 37 => 57 | 75 => 61 | 127 => 79 | 164 => 92 | 5 => 5 | 80 => 65 | n => n, fun | n => n⟩
theorem Tryd.lays156 : Go.Proofs.Lays.n156 Tryd.prog Tryd.lays156_ren := {
  mixed := by kernel_rfl
  f156 := Tryd.func73.trans (congrArg some (by kernel_rfl))
  f165 := Tryd.func90.trans (congrArg some (by kernel_rfl))
  f166 := Tryd.func43.trans (congrArg some (by kernel_rfl))
  f169 := Tryd.func44.trans (congrArg some (by kernel_rfl))
  f240 := Tryd.func66.trans (congrArg some (by kernel_rfl))
  f241 := Tryd.func100.trans (congrArg some (by kernel_rfl))
  f276 := Tryd.func84.trans (congrArg some (by kernel_rfl))
  f277 := Tryd.func108.trans (congrArg some (by kernel_rfl))
  t0 := Tryd.underlying0
  a0 := Tryd.isAgg0
  z0 := Tryd.sizeOf0
  v0 := Tryd.zeroValue0
  t3 := Tryd.underlying3
  a3 := Tryd.isAgg3
  z3 := Tryd.sizeOf3
  v3 := Tryd.zeroValue3
  t4 := Tryd.underlying4
  a4 := Tryd.isAgg4
  z4 := Tryd.sizeOf4
  v4 := Tryd.zeroValue4
  t9 := Tryd.underlying9
  a9 := Tryd.isAgg9
  z9 := Tryd.sizeOf9
  v9 := Tryd.zeroValue9
  t20 := Tryd.underlying20
  a20 := Tryd.isAgg20
  z20 := Tryd.sizeOf20
  v20 := Tryd.zeroValue20
  t31 := Tryd.underlying53
  a31 := Tryd.isAgg53
  z31 := Tryd.sizeOf53
  v31 := Tryd.zeroValue53
  t37 := Tryd.underlying57
  a37 := Tryd.isAgg57
  z37 := Tryd.sizeOf57
  v37 := Tryd.zeroValue57
  t70 := Tryd.underlying56
  a70 := Tryd.isAgg56
  z70 := Tryd.sizeOf56
  v70 := Tryd.zeroValue56
  t72 := Tryd.underlying59
  a72 := Tryd.isAgg59
  z72 := Tryd.sizeOf59
  v72 := Tryd.zeroValue59
  t75 := Tryd.underlying61
  a75 := Tryd.isAgg61
  z75 := Tryd.sizeOf61
  v75 := Tryd.zeroValue61
  t76 := Tryd.underlying63
  a76 := Tryd.isAgg63
  z76 := Tryd.sizeOf63
  v76 := Tryd.zeroValue63
  t127 := Tryd.underlying79
  a127 := Tryd.isAgg79
  z127 := Tryd.sizeOf79
  v127 := Tryd.zeroValue79
  t164 := Tryd.underlying92
  a164 := Tryd.isAgg92
  z164 := Tryd.sizeOf92
  v164 := Tryd.zeroValue92 }
theorem Tryd.Builder_Extra_156 : Builder.Extra Tryd.prog Tryd.lays156_ren := {
  sizeBuilder := by kernel_rfl
  liesBuilder := by kernel_rfl
  t5 := Tryd.underlying5
  a5 := Tryd.isAgg5
  z5 := Tryd.sizeOf5
  v5 := Tryd.zeroValue5
  infoByte := by kernel_rfl
  cellsByte := by kernel_rfl
  sizeByte := by kernel_rfl
  neB5 := by decide }
open Go.RowKit in
/-- strings.Join (LAID: no walk: one application.) -/
theorem Tryd.strings_Join_none (a : Option Addr) (k : Nat) (sep : ByteArray) (w : World) : Calls Tryd.prog 73 #[.slice a 0 k, .string sep] w fun e w' => e = .returned (.string ⟨#[]⟩) ∧ w' = w := Any.strings_Join_none Tryd.lays156 Tryd.Builder_Extra_156 a k sep w
open Go.RowKit in
/-- strings.Join (LAID: no walk: one application.) -/
theorem Tryd.strings_Join (bk o k : Nat) (xs : List ByteArray) (sep : ByteArray) (w : World) (hcells : ∀ (j : Nat) x, xs[j]? = some x → w.cell? ⟨bk, o + j, none⟩ = some (.string x)) (hbk : bk < w.heap.size) (hN : xs.length ≤ 140737488355328) (hcap : xs.length ≤ k) (hlen : (Lib.join (xs.map (·.data.toList)) sep.data.toList).length ≤ 281474976710656) :
    Calls Tryd.prog 73 #[.slice (some ⟨bk, o, none⟩) xs.length k, .string sep] w fun e w' => e = .returned (.string ⟨(Lib.join (xs.map (·.data.toList)) sep.data.toList).toArray⟩) ∧ Below w.heap.size w w' := Any.strings_Join_48 Tryd.lays156 Tryd.Builder_Extra_156 bk o k xs sep w hcells hbk hN hcap hlen
end Go.Proofs
end
section
open Go Go.Ab
namespace Go.Proofs.YtdiphholophdcaaDoor.T
set_option maxHeartbeats 1000000 in
set_option maxRecDepth 100000 in
theorem copyCheck_used (b : Nat) (w : World) (h0 : w.cell? ⟨b, 0, none⟩ = some (.pointer (some ⟨b, 0, none⟩))) :
    Calls Tryd.prog 66 #[.pointer (some ⟨b, 0, none⟩)] w fun e w' => e = .returned (.tuple #[]) ∧ w' = w := by
  have sz : (Tryd.prog.info? 59).map (·.size) = some 2 := by kernel_rfl
  obtain ⟨j, hj, _⟩ := Option.map_eq_some_iff.1 sz
  go_enter Tryd.func66, Tryd.ntmps66
  go_wp2
  rw [Lib.run_neq_ptr_same w _ (by kernel_rfl : Tryd.prog.underlying 56 = some (.pointer 59)) hj]
  go_wp2
  go_end0
  exact ⟨rfl, rfl⟩

set_option maxHeartbeats 1000000 in
set_option maxRecDepth 100000 in
theorem copyCheck_fresh (b : Nat) (w : World) (h0 : w.cell? ⟨b, 0, none⟩ = some (.pointer none)) (hsh : w.shape? b = some (59, 2)) (hfz : w.frozen? ⟨b, 0, none⟩ = false) :
    Calls Tryd.prog 66 #[.pointer (some ⟨b, 0, none⟩)] w fun e w' => e = .returned (.tuple #[]) ∧ w' = w.setCell ⟨b, 0, none⟩ (.pointer (some ⟨b, 0, none⟩)) := by
  have sz : (Tryd.prog.info? 59).map (·.size) = some 2 := by kernel_rfl
  have lies : liesAt Tryd.prog Tryd.prog.depth 59 (2 / Tryd.prog.cellsOf 59) 0 59 1 = true := by kernel_rfl
  obtain ⟨j, hj, hjs⟩ := Option.map_eq_some_iff.1 sz
  have u56 : Tryd.prog.underlying 56 = some (.pointer 59) := by kernel_rfl
  have u92 : Tryd.prog.underlying 92 = some .unsafePointer := by kernel_rfl
  go_enter Tryd.func66, Tryd.ntmps66
  go_wp2
  rw [Lib.run_to_unsafe w ⟨b, 0, none⟩ u56 u92 hj (by rw [hjs]; decide) hsh (Nat.zero_lt_succ 1)]
  simp only [Result.andThen]
  rw [Oper.upon_value]
  go_wp2
  rw [run_callFunc_extern Tryd.func84 (by kernel_rfl) (by kernel_rfl) (by kernel_rfl) (e := Extern.AbiNoEscape.same) (by kernel_rfl)]
  rw [Lib.run_noEscape]
  simp only [Result.andThen]
  rw [Oper.upon_value]
  go_wp2
  rw [Lib.run_from_unsafe w ⟨b, 0, none⟩ u92 u56 hj hsh lies]
  simp only [Result.andThen]
  rw [Oper.upon_value]
  go_wp2
  go_end0
  exact ⟨rfl, rfl⟩
theorem enter66 (vs : Array Value) (w : World) : (callFunc 66 vs).run cx.P w = .ok (.enter 66 vs) w := enter_run Tryd.func66 (hname 66 _ Tryd.func66) (k := bodyOf Tryd.f66) rfl vs w
theorem sound66 : SpecSound cx 66 (specCopyCheck 59 5) := copyCheck_sound enter66 copyCheck_fresh copyCheck_used
theorem sound93 : SpecSound cx 93 specIndexByteString := indexByteString_sound Tryd.func93 (hname 93 _ Tryd.func93) (by kernel_rfl) (by kernel_rfl) (by kernel_rfl)
theorem ext73 : ExtSound cx 73 extJoin := extJoin_sound (fun vs w => enter_run Tryd.func73 (hname 73 _ Tryd.func73) (k := bodyOf Tryd.f73) rfl vs w) (fun a k sep w => Tryd.strings_Join_none a k sep w) fun bk o k xs sep w h1 h2 h3 h4 h5 => Tryd.strings_Join bk o k xs sep w h1 h2 h3 h4 h5
theorem sound73 : SpecSound cx 73 specJoin := specJoin_sound ext73
theorem sound118 : SpecSound cx 118 specFail := specFail_sound
theorem sound119 : SpecSound cx 119 specFail := specFail_sound
theorem sound120 : SpecSound cx 120 specFail := specFail_sound
theorem sound130 : SpecSound cx 130 specFail := specFail_sound
end Go.Proofs.YtdiphholophdcaaDoor.T
end
section
open Go Go.Ab
namespace Go.Proofs.YtdiphholophdcaaDoor.T
theorem fns_ok : FnsOk cx.P [(6, d6), (7, d7), (8, d8), (19, d19), (20, d20), (21, d21), (22, d22), (23, d23), (24, d24), (25, d25), (26, d26), (27, d27), (28, d28), (29, d29), (30, d30), (42, d42), (44, d44), (45, d45), (46, d46), (47, d47), (48, d48), (49, d49), (50, d50), (51, d51), (53, d53), (54, d54), (55, d55), (67, d67), (68, d68), (69, d69), (70, d70), (71, d71), (72, d72), (74, d74), (75, d75), (76, d76), (77, d77), (78, d78), (79, d79), (85, d85), (86, d86), (87, d87), (88, d88), (89, d89), (91, d91), (92, d92), (98, d98), (99, d99), (101, d101), (102, d102), (107, d107), (109, d109), (110, d110), (111, d111), (112, d112), (113, d113), (117, d117), (121, d121), (122, d122), (123, d123), (124, d124), (132, d132), (133, d133)] :=
  .cons Tryd.func6 rfl (
  .cons Tryd.func7 rfl (
  .cons Tryd.func8 rfl (
  .cons Tryd.func19 rfl (
  .cons Tryd.func20 rfl (
  .cons Tryd.func21 rfl (
  .cons Tryd.func22 rfl (
  .cons Tryd.func23 rfl (
  .cons Tryd.func24 rfl (
  .cons Tryd.func25 rfl (
  .cons Tryd.func26 rfl (
  .cons Tryd.func27 rfl (
  .cons Tryd.func28 rfl (
  .cons Tryd.func29 rfl (
  .cons Tryd.func30 rfl (
  .cons Tryd.func42 rfl (
  .cons Tryd.func44 rfl (
  .cons Tryd.func45 rfl (
  .cons Tryd.func46 rfl (
  .cons Tryd.func47 rfl (
  .cons Tryd.func48 rfl (
  .cons Tryd.func49 rfl (
  .cons Tryd.func50 rfl (
  .cons Tryd.func51 rfl (
  .cons Tryd.func53 rfl (
  .cons Tryd.func54 rfl (
  .cons Tryd.func55 rfl (
  .cons Tryd.func67 rfl (
  .cons Tryd.func68 rfl (
  .cons Tryd.func69 rfl (
  .cons Tryd.func70 rfl (
  .cons Tryd.func71 rfl (
  .cons Tryd.func72 rfl (
  .cons Tryd.func74 rfl (
  .cons Tryd.func75 rfl (
  .cons Tryd.func76 rfl (
  .cons Tryd.func77 rfl (
  .cons Tryd.func78 rfl (
  .cons Tryd.func79 rfl (
  .cons Tryd.func85 rfl (
  .cons Tryd.func86 rfl (
  .cons Tryd.func87 rfl (
  .cons Tryd.func88 rfl (
  .cons Tryd.func89 rfl (
  .cons Tryd.func91 rfl (
  .cons Tryd.func92 rfl (
  .cons Tryd.func98 rfl (
  .cons Tryd.func99 rfl (
  .cons Tryd.func101 rfl (
  .cons Tryd.func102 rfl (
  .cons Tryd.func107 rfl (
  .cons Tryd.func109 rfl (
  .cons Tryd.func110 rfl (
  .cons Tryd.func111 rfl (
  .cons Tryd.func112 rfl (
  .cons Tryd.func113 rfl (
  .cons Tryd.func117 rfl (
  .cons Tryd.func121 rfl (
  .cons Tryd.func122 rfl (
  .cons Tryd.func123 rfl (
  .cons Tryd.func124 rfl (
  .cons Tryd.func132 rfl (
  .cons Tryd.func133 rfl (
  .nil)))))))))))))))))))))))))))))))))))))))))))))))))))))))))))))))
theorem exts_ok : ExtsOk cx [(66, specCopyCheck 59 5), (73, specJoin), (93, specIndexByteString), (118, specFail), (119, specFail), (120, specFail), (130, specFail)] :=
  .cons sound66 (.cons sound73 (.cons sound93 (.cons sound118 (.cons sound119 (.cons sound120 (.cons sound130 (.nil)))))))
theorem fits : lay.Fits := ⟨hm, hname, fun _ _ h => fns_ok.mem (fnsL_mem h), fun _ _ h => exts_ok.mem (extL_mem h)⟩
end Go.Proofs.YtdiphholophdcaaDoor.T
end
section
/- THE PLAIN WRAP WITH BOTH: what the row lists, and the world's shape. -/
namespace Go.Ab
open Go.RowKit
variable {H : Type} {enc : TypeId × Value → H}
theorem returnsInHanded_and_shaped {a : Assume} {C : Checked} {os : Os} {f : FuncId} {fn : Func} {s : ChangeSpec} {conds : List PathCond} {apart fresh handsOn again : Bool} {X : World → Array Value → Prop}
    (hX : ∀ (w w' : World) (args : Array Value), w.heap = w'.heap → X w args → X w' args)
    (own : ownKnob C.prog.godebug = none) (started : os.Started) (noInit : C.prog.inits.idxOf? f = none) (hfn : C.prog.funcs[f]? = some fn)
    (witness : ∃ (w : World) (tape : Tape) (i : Input), w.os = os ∧ (w.forCall tape i).Shaped C.prog ∧ i.vars = [] ∧ Input.okWide C.prog (w.forCall tape i) .any w.heap.size f i ∧
      ((s.pre enc C.prog fn conds apart (w.forCall tape i).memory i.args ∧ X (w.forCall tape i).memory i.args) ∧ sizedMet enc C.prog fn (OpenSpec.ofChange s) apart (w.forCall tape i).memory i.args) ∧ a.holds C.prog (lone (Frame.enter C.prog f i.args .normal) [] (w.forCall tape i)))
    (contract : ∀ (W : World) (base : Nat) (args : Array Value) (ds gs : List (DataW H)) (before : List MemPlace),
      (∀ (j : Nat) t v, fn.params[j]? = some t → args[j]? = some v → Value.okWide C.prog W .any base t v) →
      DataW.Whole enc C.prog fn.params.toList s.vars apart W args.toList ds gs before →
      conds.all (PathCond.test C.prog ⟨fn.params.toList, ds, s.plain.varTypes C.prog, gs⟩) = true →
      (DataW.weightsEach C.prog (fn.params.toList ++ s.plain.varTypes C.prog) (ds ++ gs)).all (· ≤ reachBytes) = true → X W args → W.ShapedOpen C.prog →
      a.holds C.prog (lone (Frame.enter C.prog f args .normal) [] W) →
      Calls C.prog f args W fun e W' => ∃ v, e = .returned v ∧ s.post enc C.prog fn apart fresh handsOn again W args v W') :
    ReturnsInHanded a C os f .any (fun w args => (s.pre enc C.prog fn conds apart w args ∧ X w args) ∧ sizedMet enc C.prog fn (OpenSpec.ofChange s) apart w args) (s.post enc C.prog fn apart fresh handsOn again) := by
  refine returnsInHanded_of_calls own started noInit witness ?_
  intro w tape i _ hsh _ hok hpre hholds
  obtain ⟨_, _, _, fn', hfn', _, _, _, _, hval⟩ := hok
  have e : fn' = fn := Option.some.inj (hfn'.symm.trans hfn)
  subst e
  obtain ⟨⟨⟨ds, gs, before, hw, hc⟩, hx⟩, hz⟩ := hpre
  have hw' := DataW.Whole.of_heap (w' := w.forCall tape i) (by rfl) hw
  refine (contract (w.forCall tape i) w.heap.size i.args ds gs before hval hw' hc (hz.weights hw) (hX _ _ _ (by rfl) hx) hsh hholds).mono fun e W' ⟨v, he, hp⟩ => ?_
  subst he
  exact ChangeSpec.post_blind hp
end Go.Ab
end
