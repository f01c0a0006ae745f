import Derived.Test.YtdiphholophdcaaDoorXSTrEA
import Derived.OpenShut
import Derived.Shelf.Strings.OnBuilder
import Derived.Room.Shelf.Join48
import Derived.Test.YtdiphholophdcaaDoorProg
import Derived.Test.YtdiphholophdcaaDoorXSAbT5
import Derived.Lib.Walk
import Derived.WalkKit
import Derived.ProofKit
import Derived.SizedLaws
import Derived.LaidMore
import Derived.Shelf.Vars
import Derived.Lib.LaidTab
set_option linter.all false
section
open Go Go.Ab
/- THE REFERENCE's SETS. -/
namespace Go.Proofs.YtdiphholophdcaaDoor.T
variable {K : Out → Prop}
theorem fst_no (l : List AV) : List.map (fun (x : SV) => x.1) (List.map (fun (x : AV) => ((x, .no) : SV)) l) = l := by
  rw [List.map_map]; exact List.map_id _
theorem kept_fst (o : Bool) (n : Nat) (old new : List SV) : (keptCells o n old new).map (·.1) = new.map (·.1) := by
  unfold keptCells
  rw [List.map_map]
  have : ((fun (x : SV) => x.1) ∘ fun (p : SV × Nat) => ((p.1.1, keepTag o p.1.2 (old.getD (n + p.2) (.undef, .no)).2) : SV)) = (fun x : SV => x.1) ∘ Prod.fst := rfl
  exact (congrArg (fun f => new.zipIdx.map f) this).trans (by rw [← List.map_map, List.zipIdx_map_fst])
theorem kept_len (o : Bool) (n : Nat) (old new : List SV) : (keptCells o n old new).length = new.length := by
  unfold keptCells; simp
theorem expand_fst (cs : List AV) (t : Tag) : (expand (.agg cs, t)).map (·.1) = cs := by
  unfold expand
  simp only [List.map_map]
  have : ((fun (x : SV) => x.1) ∘ fun (p : AV × Nat) => ((p.1, t.at p.2) : SV)) = Prod.fst := rfl
  exact (congrArg (fun f => cs.zipIdx.map f) this).trans (List.zipIdx_map_fst ..)
theorem expand_len (cs : List AV) (t : Tag) : (expand (.agg cs, t)).length = cs.length := by
  have := congrArg List.length (expand_fst cs t); simpa using this
theorem set_step (l : List AV) (i : Nat) (v : Bool) (hi : i < l.length) :
    List.map (fun (x : SV) => x.1) (replaceAt (l.map fun x => ((x, .no) : SV)) (0 + Int.toNat ((i : Nat) : Int) * 1) (keptCells (decide (2 < 0)) (0 + Int.toNat ((i : Nat) : Int) * 1) (l.map fun x => ((x, .no) : SV)) (expand ((.bool v), .no)))) = l.set i (.bool v) := by
  have e : 0 + Int.toNat ((i : Nat) : Int) * 1 = i := by omega
  rw [e]
  unfold replaceAt
  rw [List.map_append, List.map_append, kept_fst, kept_len, List.map_take, List.map_drop, fst_no]
  have e1 : (expand ((.bool v), .no)).map (·.1) = [.bool v] := rfl
  have e2 : (expand ((.bool v), .no)).length = 1 := rfl
  rw [e1, e2, List.set_eq_take_append_cons_drop, if_pos hi]
  simp
abbrev bools (g : Nat → Bool) : List AV := (List.range 256).map fun j => .bool (g j)
theorem bools_set (g : Nat → Bool) (i : Nat) : (bools fun j => decide (j < i) && g j).set i (.bool (g i)) = bools fun j => decide (j < i + 1) && g j := by
  apply List.ext_getElem
  · simp
  · intro j h1 h2
    simp only [List.length_set, List.length_map, List.length_range] at h1
    rw [List.getElem_set]
    by_cases e : i = j
    · subst e; simp
    · have : decide (j < i) = decide (j < i + 1) := by rw [decide_eq_decide]; omega
      rw [if_neg e]; simp [this]
theorem bitInt2 (x m : Nat) (hm : m < 64) : ((Int.tmod (Int.fdiv ((x : Nat) : Int) ((2 : Int) ^ (Min.min (Int.toNat ((m : Nat) : Int)) 64))) 2) == 1) = x.testBit m := by
  rw [Int.toNat_natCast, Nat.min_eq_left (by omega)]
  have e1 : ((2 : Int) ^ m) = ((2 ^ m : Nat) : Int) := by norm_cast
  have e2 : Int.fdiv ((x : Nat) : Int) ((2 ^ m : Nat) : Int) = ((x / 2 ^ m : Nat) : Int) := by
    rw [Int.fdiv_eq_ediv_of_nonneg _ (Int.natCast_nonneg _)]; rfl
  have e3 : Int.tmod ((x / 2 ^ m : Nat) : Int) 2 = ((x / 2 ^ m % 2 : Nat) : Int) := rfl
  rw [e1, e2, e3, Nat.testBit_eq_decide_div_mod_eq, Bool.eq_iff_iff, beq_iff_eq, decide_eq_true_eq]
  omega
theorem of_loop {a b c d : Nat} {c5 : List AV} (h5 : c5.length = 256) (h : K (.ret (.agg (bools (hasN a b c d)), .no), ⟨[], []⟩)) : ∀ (m i : Nat), i + m = 256 →
    lay.Wp 74 1 [.int .i64 (i : Nat), .int .u64 (a : Nat), .int .u64 (b : Nat), .int .u64 (c : Nat), .int .u64 (d : Nat), .agg c5, .agg (bools fun j => decide (j < i) && hasN a b c d j)] K := by
  intro m
  induction m with
  | zero =>
    intro i hi
    obtain rfl : i = 256 := by omega
    have e : (bools fun j => decide (j < 256) && hasN a b c d j) = bools (hasN a b c d) := by
      refine List.map_congr_left fun j hj => ?_
      show AV.bool (decide (j < 256) && hasN a b c d j) = _
      rw [decide_eq_true (List.mem_range.1 hj), Bool.true_and]
    rw [e]
    have hlen : (bools (hasN a b c d)).length = 256 := by simp
    have hb : ∀ x ∈ bools (hasN a b c d), ∃ v, x = AV.bool v := fun x hx => by obtain ⟨j, _, rfl⟩ := List.mem_map.1 hx; exact ⟨_, rfl⟩
    generalize bools (hasN a b c d) = L at h hlen hb
    have ht : List.take 256 (L.map fun (x : AV) => ((x, .no) : SV)) = L.map fun (x : AV) => ((x, .no) : SV) := List.take_of_length_le (by simp [hlen])
    refine Lay.wp_of h74 (fun call => e74x1 call _ _ _ _ _ _ _) ?_
    unfold t74x1
    simp only [tw_nm, tw_ite, tw_need, tw_done, ht, fst_no]
    rw [if_neg (by decide)]
    generalize hX : expand ((.agg L), (.agg (List.map (fun (x : SV) => x.2) (L.map fun (x : AV) => ((x, .no) : SV))))) = X
    have hXf : X.map (·.1) = L := by rw [← hX]; exact expand_fst _ _
    have hXl : X.length = 256 := by rw [← hX, expand_len]; exact hlen
    have hY : List.map (fun (x : SV) => x.1) (replaceAt (c5.map fun (x : AV) => ((x, .no) : SV)) 0 (keptCells (decide (1 < 0)) 0 (c5.map fun (x : AV) => ((x, .no) : SV)) X)) = L := by
      unfold replaceAt
      rw [List.map_append, List.map_append, kept_fst, kept_len, hXf, hXl]
      rw [List.drop_eq_nil_of_le (by simp [h5])]
      simp
    generalize replaceAt (c5.map fun (x : AV) => ((x, .no) : SV)) 0 (keptCells (decide (1 < 0)) 0 (c5.map fun (x : AV) => ((x, .no) : SV)) X) = Y at hY
    have hYl : Y.length = 256 := by have := congrArg List.length hY; simpa [hlen] using this
    have hYt : List.take 256 Y = Y := List.take_of_length_le (by omega)
    rw [hYt, hY]
    refine ⟨by simp [hlen], ⟨hXl, by omega, fun y hy => ?_, by simp [h5]⟩, by omega, fun v hv => ?_, h⟩
    · have : y.1 ∈ L := by rw [← hXf]; exact List.mem_map_of_mem hy
      obtain ⟨v, hv⟩ := hb _ this
      rw [hv]; exact ⟨rfl, rfl⟩
    · have e := List.mem_singleton.1 hv
      rw [e]
      unfold collect
      rw [hY]
      show AV.lows 0 L = true
      rw [lows_iff]
      intro y hy
      obtain ⟨v, hv⟩ := hb _ hy
      rw [hv]; rfl
  | succ m ih =>
    intro i hi
    have next := ih (i + 1) (by omega)
    rw [← bools_set] at next
    have hlen : (bools fun j => decide (j < i) && hasN a b c d j).length = 256 := by simp
    generalize (bools fun j => decide (j < i) && hasN a b c d j) = L at next hlen
    have w1 : IntKind.wrap .i64 (((i : Nat) : Int) + 1) = ((i + 1 : Nat) : Int) := by rw [wrap64 (by omega) (by omega)]; omega
    have d1 : IntKind.wrap .i64 (Int.tdiv ((i : Nat) : Int) 64) = ((i / 64 : Nat) : Int) := by
      have : Int.tdiv ((i : Nat) : Int) 64 = ((i / 64 : Nat) : Int) := rfl
      rw [this, wrap64 (by omega) (by omega)]
    have d2 : Int.tmod ((i : Nat) : Int) 64 = ((i % 64 : Nat) : Int) := rfl
    have d3 : IntKind.wrap .u64 ((i % 64 : Nat) : Int) = ((i % 64 : Nat) : Int) := wrapU64 (by omega)
    refine Lay.wp_of h74 (fun call => e74x1 call _ _ _ _ _ _ _) ?_
    unfold t74x1
    simp only [w1, d1, d2, d3, tw_nm, tw_ite, tw_need]
    rw [if_pos (by rw [decide_eq_true_eq]; omega)]
    unfold hasN at next
    have hj : i / 64 = 0 ∨ i / 64 = 1 ∨ i / 64 = 2 ∨ i / 64 = 3 := by omega
    rcases hj with ej | ej | ej | ej <;>
    · rw [ej] at next ⊢
      refine ⟨by simp [nonzero], ⟨by omega, by omega⟩, _, rfl, ?_⟩
      simp only [openC_int, openC_nil, d2, d3, w1, tw_nm, tw_need, tw_jump, fst_no]
      rw [bitInt2 _ _ (by omega), set_step _ _ _ (by omega)]
      exact ⟨by simp [nonzero], by simp [nonneg]; omega, by simp [nonzero], ⟨by omega, by omega⟩, by simp; omega, next⟩
theorem of_wp {a b c d : Nat} (h : K (.ret (.agg (bools (hasN a b c d)), .no), ⟨[], []⟩)) : lay.Wp 74 0 [.int .u64 (a : Nat), .int .u64 (b : Nat), .int .u64 (c : Nat), .int .u64 (d : Nat)] K := by
  refine Lay.wp_of h74 (fun call => e74x0 call _ _ _ _) ?_
  unfold t74x0
  simp only [tw_nm, tw_need, tw_jump]
  have e : List.map (fun (x : SV) => x.1) (List.replicate 256 (((.bool Bool.false), .no) : SV)) = bools fun j => decide (j < 0) && hasN a b c d j := by
    have : (bools fun j => decide (j < 0) && hasN a b c d j) = (List.range 256).map fun _ => AV.bool false := by
      refine List.map_congr_left fun j _ => ?_
      simp
    rw [this, List.map_replicate, List.map_const', List.length_range]
  rw [e]
  refine ⟨⟨trivial, by omega, fun y hy => ?_, by omega⟩, of_loop List.length_replicate h 256 0 rfl⟩
  have hm := List.mem_map_of_mem (f := fun x : SV => x.1) hy
  rw [expand_fst] at hm
  rw [(List.mem_replicate.1 hm).2]
  exact ⟨rfl, rfl⟩
/-! ### a set's text -/
theorem bytes_back (s : List UInt8) : bytesOf (toBytes s) = some s := by
  induction s with
  | nil => rfl
  | cons b s ih =>
    have e : bytesOf (toBytes (b :: s)) = (bytesOf (toBytes s)).map (UInt8.ofNat (((b.toNat : Nat) : Int).toNat) :: ·) := rfl
    rw [e, ih, Int.toNat_natCast]
    simp
theorem toBytes_snoc (s : List UInt8) (b : UInt8) : toBytes s ++ [AV.int .u8 ((b.toNat : Nat) : Int)] = toBytes (s ++ [b]) := by
  unfold toBytes; simp
theorem bytes_len (s : List UInt8) : (toBytes s).length = s.length := by unfold toBytes; simp
theorem bytes_sz (s : List UInt8) : szOk (toBytes s) 1 = true := by cases s <;> rfl
theorem clsR_loop {f : Nat → Bool} {e : Bool} : ∀ (m i : Nat) (acc : List UInt8), i + m = 256 → acc.length ≤ 2 * i + 2 → ∀ (b3 : Bool) (a b c d : Int), K (.ret (.str (acc ++ clsL (fun n => f n || e) m i ++ [93]), .no), ⟨[], []⟩) →
    lay.Wp 50 2 [.sl (toBytes acc), .bool e, .int .i64 (i : Nat), .bool b3, .int .u64 a, .int .u64 b, .int .u64 c, .int .u64 d, .agg (bools f)] K := by
  intro m
  have hk : Ab.maxLen = 4294967296 := rfl
  induction m with
  | zero =>
    intro i acc hi hacc b3 a b c d h
    refine Lay.wp_of h50 (fun call => e50x2 call _ _ _ _ _ _ _ _ _) ?_
    unfold t50x2
    have e93 : toBytes acc ++ [AV.int .u8 93] = toBytes (acc ++ [93]) := toBytes_snoc acc 93
    simp only [e93, bytes_back, bytes_len, tw_nm, tw_ite, tw_need, tw_bindS, tw_done, true_and, eq_self]
    rw [if_neg (by rw [decide_eq_true_eq]; omega)]
    exact ⟨bytes_sz _, rfl, by omega, by simpa [clsL] using h⟩
  | succ m ih =>
    intro i acc hi hacc b3 a b c d h
    have w1 : IntKind.wrap .i64 (((i : Nat) : Int) + 1) = ((i + 1 : Nat) : Int) := by rw [wrap64 (by omega) (by omega)]; omega
    have w8 : IntKind.wrap .u8 ((i : Nat) : Int) = ((i : Nat) : Int) := by rw [IntKind.wrap_u8]; omega
    have hu : (UInt8.ofNat i).toNat = i := by simp; omega
    simp only [clsL] at h
    have four (acc' : List UInt8) (hl : acc'.length ≤ 2 * (i + 1) + 2) (b4 b5 : Bool) (h : K (.ret (.str (acc' ++ clsL (fun n => f n || e) m (i + 1) ++ [93]), .no), ⟨[], []⟩)) :
        lay.Wp 50 4 [.sl (toBytes acc'), .bool e, .int .i64 (i : Nat), .bool b3, .bool b4, .bool b5, .int .u64 a, .int .u64 b, .int .u64 c, .int .u64 d, .agg (bools f)] K := by
      refine Lay.wp_of h50 (fun call => e50x4 call _ _ _ _ _ _ _ _ _ _ _) ?_
      unfold t50x4
      simp only [w1, tw_nm, tw_need, tw_jump, true_and, eq_self, fst_no]
      exact ih (i + 1) acc' (by omega) hl b3 a b c d h
    have six (acc' : List UInt8) (hl : acc'.length + 1 ≤ 2 * (i + 1) + 2) (b4 b5 b6 : Bool) (h : K (.ret (.str (acc' ++ [UInt8.ofNat i] ++ clsL (fun n => f n || e) m (i + 1) ++ [93]), .no), ⟨[], []⟩)) :
        lay.Wp 50 6 [.sl (toBytes acc'), .bool e, .int .i64 (i : Nat), .bool b3, .bool b4, .bool b5, .bool b6, .int .u64 a, .int .u64 b, .int .u64 c, .int .u64 d, .agg (bools f)] K := by
      have es : toBytes acc' ++ [AV.int .u8 ((i : Nat) : Int)] = toBytes (acc' ++ [UInt8.ofNat i]) := by
        have := toBytes_snoc acc' (UInt8.ofNat i)
        rwa [hu] at this
      refine Lay.wp_of h50 (fun call => e50x6 call _ _ _ _ _ _ _ _ _ _ _ _) ?_
      unfold t50x6
      simp only [w8, es, tw_nm, tw_need, tw_jump, true_and, eq_self, fst_no, bytes_len]
      exact ⟨bytes_sz _, rfl, by omega, four _ (by simp; omega) _ _ h⟩
    have five (b4 b5 b6 : Bool) (h : K (.ret (.str (acc ++ [92, UInt8.ofNat i] ++ clsL (fun n => f n || e) m (i + 1) ++ [93]), .no), ⟨[], []⟩)) :
        lay.Wp 50 5 [.sl (toBytes acc), .bool e, .int .i64 (i : Nat), .bool b3, .bool b4, .bool b5, .bool b6, .int .u64 a, .int .u64 b, .int .u64 c, .int .u64 d, .agg (bools f)] K := by
      have e92 : toBytes acc ++ [AV.int .u8 92] = toBytes (acc ++ [92]) := toBytes_snoc acc 92
      refine Lay.wp_of h50 (fun call => e50x5 call _ _ _ _ _ _ _ _ _ _ _ _) ?_
      unfold t50x5
      simp only [e92, tw_nm, tw_need, tw_jump, true_and, eq_self, fst_no, bytes_len]
      exact ⟨bytes_sz _, rfl, by omega, six _ (by simp; omega) _ _ _ (by simpa using h)⟩
    have three (b4 b5 : Bool) (h : K (.ret (.str (acc ++ encC i ++ clsL (fun n => f n || e) m (i + 1) ++ [93]), .no), ⟨[], []⟩)) :
        lay.Wp 50 3 [.sl (toBytes acc), .bool e, .int .i64 (i : Nat), .bool b3, .bool b4, .bool b5, .int .u64 a, .int .u64 b, .int .u64 c, .int .u64 d, .agg (bools f)] K := by
      refine Lay.wp_of h50 (fun call => e50x3 call _ _ _ _ _ _ _ _ _ _ _) ?_
      unfold t50x3
      simp only [tw_nm, tw_ite, tw_need, tw_jump, true_and, eq_self, fst_no]
      have hmem : UInt8.ofNat i ∈ strokesL ↔ (i = 94 ∨ i = 45 ∨ i = 93 ∨ i = 91 ∨ i = 92) := by
        have key : ∀ n, n < 256 → (UInt8.ofNat n ∈ strokesL ↔ (n = 94 ∨ n = 45 ∨ n = 93 ∨ n = 91 ∨ n = 92)) := by decide +kernel
        exact key i (by omega)
      by_cases c1 : i = 94
      · rw [if_pos (by simp [c1])]
        rw [show encC i = [92, UInt8.ofNat i] from if_pos (hmem.2 (by omega))] at h
        exact five _ _ _ h
      rw [if_neg (by simp; omega)]
      by_cases c2 : i = 45
      · rw [if_pos (by simp [c2])]
        rw [show encC i = [92, UInt8.ofNat i] from if_pos (hmem.2 (by omega))] at h
        exact five _ _ _ h
      rw [if_neg (by simp; omega)]
      by_cases c3 : i = 93
      · rw [if_pos (by simp [c3])]
        rw [show encC i = [92, UInt8.ofNat i] from if_pos (hmem.2 (by omega))] at h
        exact five _ _ _ h
      rw [if_neg (by simp; omega)]
      by_cases c4 : i = 91
      · rw [if_pos (by simp [c4])]
        rw [show encC i = [92, UInt8.ofNat i] from if_pos (hmem.2 (by omega))] at h
        exact five _ _ _ h
      rw [if_neg (by simp; omega)]
      by_cases c5 : i = 92
      · rw [if_pos (by simp [c5])]
        rw [show encC i = [92, UInt8.ofNat i] from if_pos (hmem.2 (by omega))] at h
        exact five _ _ _ h
      rw [if_neg (by simp; omega)]
      rw [show encC i = [UInt8.ofNat i] from if_neg (fun q => by have := hmem.1 q; omega)] at h
      exact six _ (by omega) _ _ _ h
    have ecell : Option.bind ((List.map (fun (x : AV) => ((x, .no) : SV)) (bools f))[(0 + ((Int.toNat ((i : Nat) : Int)) * 1))]?) plain1 = some [.bool (f i)] := by
      have : 0 + (Int.toNat ((i : Nat) : Int)) * 1 = i := by omega
      rw [this]
      simp [plain1, show i < 256 by omega]
    refine Lay.wp_of h50 (fun call => e50x2 call _ _ _ _ _ _ _ _ _) ?_
    unfold t50x2
    simp only [ecell, tw_opnS, openC_bool, openC_nil, tw_nm, tw_ite, tw_need, tw_jump, true_and, eq_self, fst_no]
    rw [if_pos (by rw [decide_eq_true_eq]; omega)]
    refine ⟨⟨by omega, by omega⟩, ?_⟩
    cases hf : f i
    · rw [if_neg (by simp)]
      cases e
      · rw [if_neg (by simp)]
        exact four acc (by omega) _ _ (by simpa [hf] using h)
      · rw [if_pos (by rfl)]
        exact three _ _ (by simpa [hf] using h)
    · rw [if_pos (by rfl)]
      exact three _ _ (by simpa [hf] using h)
theorem clsR_wp {a b c d : Nat} (h : K (.ret (.str (clsText a b c d), .no), ⟨[], []⟩)) : lay.Wp 50 0 [.int .u64 (a : Nat), .int .u64 (b : Nat), .int .u64 (c : Nat), .int .u64 (d : Nat)] K := by
  have hk : Ab.maxLen = 4294967296 := rfl
  unfold clsText at h
  refine Lay.wp_of h50 (fun call => e50x0 call _ _ _ _) ?_
  unfold t50x0
  simp only [tw_callT]
  refine of_wp ?_
  have hlen : (bools (hasN a b c d)).length = 256 := by simp
  have hb : ∀ x ∈ bools (hasN a b c d), ∃ v, x = AV.bool v := fun x hx => by obtain ⟨j, _, rfl⟩ := List.mem_map.1 hx; exact ⟨_, rfl⟩
  have hY : List.map (fun (x : SV) => x.1) (replaceAt (List.replicate 256 (((.bool Bool.false), .no) : SV)) 0 (keptCells (decide (1 < 0)) 0 (List.replicate 256 (((.bool Bool.false), .no) : SV)) (expand ((.agg (bools (hasN a b c d))), .no)))) = bools (hasN a b c d) := by
    unfold replaceAt
    rw [List.map_append, List.map_append, kept_fst, kept_len, expand_fst, expand_len]
    rw [List.drop_eq_nil_of_le (by rw [List.length_replicate, hlen]; omega), List.take_zero]
    simp
  simp only [s74x0, hY, tw_needR, tw_needT, true_and, tw_nm, tw_ite, tw_need, tw_jump]
  have next (e b1 b2 : Bool) (acc : List UInt8) (hl : acc.length ≤ 2) (h : K (.ret (.str (acc ++ clsL (fun n => hasN a b c d n || e) 256 0 ++ [93]), .no), ⟨[], []⟩)) :
      lay.Wp 50 1 [.sl (toBytes acc), .bool e, .bool b2, .int .u64 (a : Nat), .int .u64 (b : Nat), .int .u64 (c : Nat), .int .u64 (d : Nat), .agg (bools (hasN a b c d))] K := by
    refine Lay.wp_of h50 (fun call => e50x1 call _ _ _ _ _ _ _ _) ?_
    unfold t50x1
    simp only [tw_nm, tw_need, tw_jump, true_and, eq_self, fst_no]
    exact clsR_loop 256 0 acc rfl (by omega) _ _ _ _ _ h
  refine ⟨⟨?_, trivial⟩, ⟨?_, by omega, fun y hy => ?_, by omega⟩, ?_⟩
  · show AV.lows 0 _ = true
    rw [lows_iff]
    intro y hy
    obtain ⟨v, hv⟩ := hb _ hy
    rw [hv]; rfl
  · rw [expand_len]; exact hlen
  · have hm := List.mem_map_of_mem (f := fun x : SV => x.1) hy
    rw [expand_fst] at hm
    obtain ⟨v, hv⟩ := hb _ hm
    rw [hv]; exact ⟨rfl, rfl⟩
  by_cases c1 : a = 0 ∧ b = 0 ∧ c = 0 ∧ d = 0
  · rw [if_pos c1] at h
    obtain ⟨rfl, rfl, rfl, rfl⟩ := c1
    rw [if_pos (by decide)]
    refine ⟨rfl, rfl, by omega, next _ false _ [91, 94] (by simp) ?_⟩
    have e := clsL_congr (f := fun n => hasN 0 0 0 0 n || ((((0 : Nat) : Int) == 0) && (((((0 : Nat) : Int) == 0)) && (((((0 : Nat) : Int) == 0)) && (((((0 : Nat) : Int) == 0)) && true))))) (g := fun _ => true) 256 0 fun n _ _ => by simp
    rw [e]
    exact h
  · rw [if_neg c1] at h
    have z : ((((a : Nat) : Int) == 0) && ((((b : Nat) : Int) == 0) && ((((c : Nat) : Int) == 0) && ((((d : Nat) : Int) == 0) && true)))) = false := by
      rw [← Bool.not_eq_true]
      intro hh
      simp only [Bool.and_true, Bool.and_eq_true, beq_iff_eq] at hh
      exact c1 ⟨by omega, by omega, by omega, by omega⟩
    rw [z, if_neg (by decide)]
    refine next _ false _ [91] (by simp) ?_
    have e := clsL_congr (f := fun n => hasN a b c d n || false) (g := hasN a b c d) 256 0 fun n _ _ => by simp
    rw [e]
    exact h
end Go.Proofs.YtdiphholophdcaaDoor.T
end
section
open Go Go.Ab
/- THE REFERENCE's Show: HOW OFTEN. -/
namespace Go.Proofs.YtdiphholophdcaaDoor.T
variable {K : Out → Prop}
theorem digit_wp {n : Int} (h0 : 0 ≤ n) (h1 : n < 10) (h : K (.ret (.str [UInt8.ofNat (48 + n.toNat)], .no), ⟨[], []⟩)) : lay.Wp 51 0 [.int .i64 n] K := by
  have w1 : IntKind.wrap .u8 n = n := by rw [IntKind.wrap_u8]; omega
  have w2 : IntKind.wrap .u8 (48 + n) = 48 + n := by rw [IntKind.wrap_u8]; omega
  have w3 : (48 + n).toNat = 48 + n.toNat := by omega
  refine Lay.wp_of h51 (fun call => e51x0 call _) ?_
  unfold t51x0
  simp only [w1, w2, w3, tw_nm, tw_ite, tw_done]
  rw [if_pos (by simpa using h1)]
  exact h
theorem digits_wp {n : Int} (h0 : 0 ≤ n) (h1 : n < 100) (h : K (.ret (.str (itoaF n), .no), ⟨[], []⟩)) : lay.Wp 51 0 [.int .i64 n] K := by
  have hm : maxStr = 281474976710656 := rfl
  unfold itoaF at h
  by_cases c : n < 10
  · rw [if_pos c] at h
    exact digit_wp h0 c h
  · rw [if_neg c] at h
    obtain ⟨m, rfl⟩ : ∃ m : Nat, n = (m : Nat) := ⟨n.toNat, by omega⟩
    have d1 : IntKind.wrap .i64 (Int.tdiv ((m : Nat) : Int) 10) = ((m / 10 : Nat) : Int) := by
      have : Int.tdiv ((m : Nat) : Int) 10 = ((m / 10 : Nat) : Int) := rfl
      rw [this, wrap64 (by omega) (by omega)]
    have d2 : Int.tmod ((m : Nat) : Int) 10 = ((m % 10 : Nat) : Int) := rfl
    refine Lay.wp_of h51 (fun call => e51x0 call _) ?_
    unfold t51x0
    simp only [d1, d2, tw_nm, tw_ite, tw_need, tw_callT]
    rw [if_neg (by simpa using c)]
    refine ⟨by simp [nonzero], digit_wp (by omega) (by omega) ?_⟩
    simp only [s51x0, tw_needR, tw_needT, true_and, tw_nm, tw_need, tw_callT]
    refine ⟨by simp [nonzero], digit_wp (by omega) (by omega) ?_⟩
    simp only [s51x0, tw_needR, tw_needT, true_and, tw_nm, tw_need, tw_done]
    refine ⟨by simp; omega, ?_⟩
    simpa only [Int.toNat_natCast, List.singleton_append] using h
theorem often1 {mn mx : Int} (h1 : mx = -1) (h2 : 2 ≤ mn) : oftenF mn mx = 123 :: itoaF mn ++ [44, 125] := by
  unfold oftenF
  rw [if_neg (by omega), if_neg (by omega), if_neg (by omega), if_pos h1]
theorem often2 {mn mx : Int} (h1 : mx = mn) (h2 : 0 ≤ mn) : oftenF mn mx = 123 :: itoaF mn ++ [125] := by
  unfold oftenF
  rw [if_neg (by omega), if_neg (by omega), if_neg (by omega), if_neg (by omega), if_pos h1.symm]
theorem often3 {mn mx : Int} (h1 : mx ≠ mn) (h2 : mx ≠ -1) (h3 : ¬ (mn = 0 ∧ mx = 1)) : oftenF mn mx = 123 :: itoaF mn ++ [44] ++ itoaF mx ++ [125] := by
  unfold oftenF
  rw [if_neg (by omega), if_neg (by omega), if_neg (by omega), if_neg (by omega), if_neg (fun e => h1 e.symm)]
theorem often25 {s : List UInt8} {mn mx : Int} (hs : s.length ≤ 10000000000) (h1 : 0 ≤ mn ∧ mn ≤ 50) (h2 : mx = -1 ∨ mn ≤ mx ∧ mx ≤ 50) (b1 b2 b3 b4 b5 b6 : Bool) (k a b c d : Int) (l : List AV) (h : K (.ret (.str (s ++ oftenF mn mx), .no), ⟨[], []⟩)) :
    lay.Wp 25 3 [.str s, .bool b1, .bool b2, .bool b3, .bool b4, .bool b5, .bool b6, .int .i64 k, .int .u64 a, .int .u64 b, .int .u64 c, .int .u64 d, .int .i64 mn, .int .i64 mx, .sl l] K := by
  have hm : maxStr = 281474976710656 := rfl
  have il1 := itoaF_len mn
  have il2 := itoaF_len mx
  refine Lay.wp_of h25 (fun call => e25x3 call _ _ _ _ _ _ _ _ _ _ _ _ _ _ _) ?_
  unfold t25x3
  simp only [tw_nm, tw_ite, tw_need, tw_callT, tw_done]
  by_cases c1 : mx = -1
  · rw [if_pos (by simpa using c1)]
    by_cases c2 : mn < 2
    · rw [if_pos (by simpa using c2)]
      obtain rfl | rfl : mn = 0 ∨ mn = 1 := by omega
      · refine ⟨_, rfl, ?_⟩
        simp only [openC_str, openC_nil, tw_need, tw_nm, tw_done]
        subst c1
        refine ⟨by simp; omega, ?_⟩
        simp only [tw_nm, tw_done]
        exact h
      · refine ⟨_, rfl, ?_⟩
        simp only [openC_str, openC_nil, tw_need, tw_nm, tw_done]
        subst c1
        refine ⟨by simp; omega, ?_⟩
        simp only [tw_nm, tw_done]
        exact h
    · rw [if_neg (by simpa using c2)]
      rw [often1 c1 (by omega)] at h
      rw [if_neg (by simp; omega)]
      refine ⟨by omega, digits_wp h1.1 (by omega) ?_⟩
      simp only [s51x0, tw_needR, tw_needT, true_and, tw_nm, tw_ite, tw_need, tw_done, tw_callT]
      refine ⟨by simp; omega, ?_⟩
      rw [if_pos (by simp; omega)]
      refine ⟨by simp; omega, ?_⟩
      rw [if_neg (by simp; omega)]
      exact ⟨by simp; omega, by simpa using h⟩
  · rw [if_neg (by simpa using c1)]
    by_cases c2 : mn = 0
    · rw [if_pos (by simpa using c2)]
      by_cases c3 : mx = 1
      · rw [if_pos (by simpa using c3)]
        have e : oftenF mn mx = [63] := by subst c2; subst c3; rfl
        rw [e] at h
        exact ⟨by omega, h⟩
      · rw [if_neg (by simpa using c3)]
        refine ⟨by omega, digits_wp h1.1 (by omega) ?_⟩
        simp only [s51x0, tw_needR, tw_needT, true_and, tw_nm, tw_ite, tw_need, tw_done, tw_callT]
        refine ⟨by simp; omega, ?_⟩
        by_cases c9 : mx = mn
        · rw [if_neg (by simp [c9])]
          rw [often2 c9 h1.1] at h
          exact ⟨by simp; omega, by simpa using h⟩
        · rw [if_pos (by simpa using c9)]
          rw [often3 c9 c1 (by omega)] at h
          refine ⟨by simp; omega, ?_⟩
          rw [if_pos (by simp; omega)]
          refine digits_wp (by omega) (by omega) ?_
          simp only [s51x0, tw_needR, tw_needT, true_and, tw_nm, tw_ite, tw_need, tw_done, tw_callT]
          exact ⟨by simp; omega, by simp; omega, by simpa using h⟩
    · rw [if_neg (by simpa using c2)]
      refine ⟨by omega, digits_wp h1.1 (by omega) ?_⟩
      simp only [s51x0, tw_needR, tw_needT, true_and, tw_nm, tw_ite, tw_need, tw_done, tw_callT]
      refine ⟨by simp; omega, ?_⟩
      by_cases c9 : mx = mn
      · rw [if_neg (by simp [c9])]
        rw [often2 c9 h1.1] at h
        exact ⟨by simp; omega, by simpa using h⟩
      · rw [if_pos (by simpa using c9)]
        rw [often3 c9 c1 (by omega)] at h
        refine ⟨by simp; omega, ?_⟩
        rw [if_pos (by simp; omega)]
        refine digits_wp (by omega) (by omega) ?_
        simp only [s51x0, tw_needR, tw_needT, true_and, tw_nm, tw_ite, tw_need, tw_done, tw_callT]
        exact ⟨by simp; omega, by simp; omega, by simpa using h⟩
end Go.Proofs.YtdiphholophdcaaDoor.T
end
section
open Go Go.Ab
/- THE REFERENCE's Show. -/
namespace Go.Proofs.YtdiphholophdcaaDoor.T
variable {K : Out → Prop}
theorem join_snoc (ts : List (List UInt8)) (t sep : List UInt8) : Go.Lib.join (ts ++ [t]) sep = if ts = [] then t else Go.Lib.join ts sep ++ sep ++ t := by
  cases ts with
  | nil => rw [if_pos rfl, List.nil_append, Go.Lib.join_one]
  | cons x r =>
    rw [if_neg (by simp), List.cons_append, Go.Lib.join_cons, Go.Lib.join_cons]
    unfold Go.Lib.joinTail
    simp
mutual
theorem showR_wp : ∀ (x : Re) (w dp : Int) {K : Out → Prop}, x.words → canF x w dp = true → x.nodes ≤ 1000000 → K (.ret (.str (showF x), .no), ⟨[], []⟩) → lay.Wp 25 0 x.av.cells K
  | .mk k a b c d mn mx l, w, dp, K, hw, hc, hn, h => by
    rw [re_cells]
    have hm : maxStr = 281474976710656 := rfl
    obtain ⟨p1, p2, p3, p4, p5, p6, p7⟩ := canF_parts hc
    obtain ⟨ha, hb, hcc, hd, hwl⟩ := hw
    have hnl := nodesL_len l
    simp only [Re.nodes] at hn
    unfold showF at h
    refine Lay.wp_of h25 (fun call => e25x0 call _ _ _ _ _ _ _ _) ?_
    unfold t25x0
    simp only [tw_nm, tw_ite, tw_needR, tw_needT, true_and, tw_need, tw_done, tw_callT, tw_jump]
    by_cases c1 : k = 1
    · rw [if_pos (by simpa using c1)]
      rw [if_pos c1] at h
      refine Lay.wp_of h49 (fun call => e49x0 call) ?_
      unfold t49x0
      simp only [s49x0, tw_needR, tw_needT, true_and, tw_nm, tw_ite, tw_need, tw_done, tw_callT]
      refine ⟨rfl, ?_⟩
      by_cases c2 : a = 18446744073709551615 ∧ b = 18446744073709551615 ∧ c = 18446744073709551615 ∧ d = 18446744073709551615
      · rw [if_pos c2] at h
        obtain ⟨rfl, rfl, rfl, rfl⟩ := c2
        rw [if_pos (by decide)]
        exact h
      · rw [if_neg c2] at h
        rw [if_neg (by
          intro hh
          simp only [Bool.and_true, Bool.and_eq_true, beq_iff_eq] at hh
          exact c2 hh)]
        have ea : ((a.toNat : Nat) : Int) = a := by omega
        have eb : ((b.toNat : Nat) : Int) = b := by omega
        have ec : ((c.toNat : Nat) : Int) = c := by omega
        have ed : ((d.toNat : Nat) : Int) = d := by omega
        have hw := fun K' h' => clsR_wp (a := a.toNat) (b := b.toNat) (c := c.toNat) (d := d.toNat) (K := K') h'
        rw [ea, eb, ec, ed] at hw
        refine hw _ ?_
        simp only [s50x0, tw_needR, tw_needT, true_and, tw_done]
        exact h
    rw [if_neg (by simpa using c1)]
    rw [if_neg c1] at h
    by_cases c2 : k = 2
    · rw [if_pos (by simpa using c2)]
      rw [if_pos c2] at h
      exact h
    rw [if_neg (by simpa using c2)]
    rw [if_neg c2] at h
    by_cases c3 : k = 3
    · rw [if_pos (by simpa using c3)]
      rw [if_pos c3] at h
      exact h
    rw [if_neg (by simpa using c3)]
    rw [if_neg c3] at h
    have many (hk : k = 4 ∨ k = 5) (b1 b2 b3 b4 : Bool) (h4 : b4 = true) : lay.Wp 25 1 [.int .i64 k, .bool b1, .bool b2, .bool b3, .bool b4, .int .i64 k, .int .u64 a, .int .u64 b, .int .u64 c, .int .u64 d, .int .i64 mn, .int .i64 mx, .sl (Re.avs l)] K := by
      rw [if_neg (by omega)] at h
      refine Lay.wp_of h25 (fun call => e25x1 call _ _ _ _ _ _ _ _ _ _ _ _ _) ?_
      unfold t25x1
      simp only [tw_ite, tw_jump]
      rw [if_pos h4]
      have := showRL_wp l l 0 [] k (dp + 1) rfl hwl p7 (by omega) (by omega) hk rfl (by rw [Go.Lib.join_nil]; simp; omega) k b1 b2 b3 b4 a b c d mn mx (K := K) (by
        intro all he
        rw [he]
        exact h)
      exact this
    by_cases c4 : k = 4
    · rw [if_pos (by simpa using c4)]
      exact many (.inl c4) _ _ _ _ (by simpa using c4)
    rw [if_neg (by simpa using c4)]
    by_cases c5 : k = 5
    · exact many (.inr c5) _ _ _ _ (by simpa using c5)
    refine Lay.wp_of h25 (fun call => e25x1 call _ _ _ _ _ _ _ _ _ _ _ _ _) ?_
    unfold t25x1
    have z5 : (k == 5) = false := by simpa using c5
    simp only [z5, tw_iteF]
    simp only [tw_nm, tw_ite, tw_jump, tw_done]
    by_cases c6 : k = 6
    · rw [if_pos (by simpa using c6)]
      rw [if_pos c6] at h
      obtain ⟨q1, q2, q3, q4⟩ := p5 c6
      have hh := showRH_wp l k (dp + 1) hwl p7 (by omega) (by intro e; rw [e] at q1; simp at q1)
      cases l with
      | nil => simp at q1
      | cons y r =>
        have hly := show_len y
        have hny : y.nodes ≤ 1000000 := by simp only [Re.nodesL] at hn; omega
        simp only [showH, kindH] at h
        simp only [cellsH, showH] at hh
        have hwl2 := wrapB_len [4, 5, 0] y.kind (showF y)
        have fin (b1 b2 b3 b4 b5 b6 : Bool) (t : List UInt8) (ht : t = wrapB [4, 5, 0] y.kind (showF y)) : lay.Wp 25 3 [.str t, .bool b1, .bool b2, .bool b3, .bool b4, .bool b5, .bool b6, .int .i64 k, .int .u64 a, .int .u64 b, .int .u64 c, .int .u64 d, .int .i64 mn, .int .i64 mx, .sl (Re.avs (y :: r))] K := by
          subst ht
          exact often25 (by omega) ⟨q2, q3⟩ q4 _ _ _ _ _ _ _ _ _ _ _ _ h
        obtain ⟨k', a', b', c', d', mn', mx', l', rfl⟩ := outR y
        simp only [re_cells] at hh
        simp only [Re.kind] at fin
        refine ⟨_, rfl, ?_⟩
        simp only [openC_int, openC_sl, openC_nil, tw_need, tw_callT]
        refine ⟨avs_low l', hh _ ?_⟩
        simp only [s25x0, tw_needR, tw_needT, true_and]
        refine ⟨_, rfl, ?_⟩
        simp only [re_cells, openC_int, openC_sl, openC_nil, tw_nm, tw_ite, tw_need, tw_jump]
        by_cases e0 : k' = 0
        · rw [if_pos (by simpa using e0)]
          exact ⟨by omega, by simp; omega, fin _ _ _ _ _ _ _ (by unfold wrapB; rw [if_pos (by simp [e0])])⟩
        rw [if_neg (by simpa using e0)]
        by_cases e4 : k' = 4
        · rw [if_pos (by simpa using e4)]
          exact ⟨by omega, by simp; omega, fin _ _ _ _ _ _ _ (by unfold wrapB; rw [if_pos (by simp [e4])])⟩
        rw [if_neg (by simpa using e4)]
        by_cases e5 : k' = 5
        · rw [if_pos (by simpa using e5)]
          exact ⟨by omega, by simp; omega, fin _ _ _ _ _ _ _ (by unfold wrapB; rw [if_pos (by simp [e5])])⟩
        rw [if_neg (by simpa using e5)]
        exact fin _ _ _ _ _ _ _ (by unfold wrapB; rw [if_neg (by simp; omega)])
    · rw [if_neg (by simpa using c6)]
      rw [if_neg c6] at h
      have hl := p4 (by omega)
      subst hl
      exact h
theorem showRH_wp : ∀ (l : List Re) (w dp : Int), Re.wordsL l → canL l w dp = true → Re.nodesL l ≤ 1000000 → l ≠ [] → ∀ K : Out → Prop, K (.ret (.str (showH l), .no), ⟨[], []⟩) → lay.Wp 25 0 (cellsH l) K
  | [], w, dp, hw, hc, hn, hne, K, h => (hne rfl).elim
  | x :: r, w, dp, hw, hc, hn, hne, K, h => by
    rw [canL, Bool.and_eq_true] at hc
    simp only [Re.nodesL] at hn
    exact showR_wp x w dp hw.1 hc.1 (by omega) h
theorem showRL_wp : ∀ (l L : List Re) (i : Nat) (ts : List (List UInt8)) (k dp : Int), l = L.drop i → Re.wordsL l → canL l k dp = true → L.length ≤ 1000000 → Re.nodesL l ≤ 1000000 → k = 4 ∨ k = 5 → ts.length = i →
    (Go.Lib.join ts (if k = 5 then [124] else [])).length + 1000 * Re.nodesL l ≤ 4000000000 → ∀ (k2 : Int) (b1 b2 b3 b4 : Bool) (a b c d mn mx : Int) {K : Out → Prop},
    (∀ all, all = ts ++ showL k l → K (.ret (.str (Go.Lib.join all (if k = 5 then [124] else [])), .no), ⟨[], []⟩)) →
    lay.Wp 25 2 [.str (Go.Lib.join ts (if k = 5 then [124] else [])), .int .i64 (i : Nat), .int .i64 k2, .bool b1, .bool b2, .bool b3, .bool b4, .int .i64 k, .int .u64 a, .int .u64 b, .int .u64 c, .int .u64 d, .int .i64 mn, .int .i64 mx, .sl (Re.avs L)] K
  | [], L, i, ts, k, dp, hi, hw, hc, hL, hn, hk, hts, hlen, k2, b1, b2, b3, b4, a, b, c, d, mn, mx, K, h => by
    have hi : L.length ≤ i := List.drop_eq_nil_iff.1 hi.symm
    have h := h _ rfl
    rw [showL, List.append_nil] at h
    refine Lay.wp_of h25 (fun call => e25x2 call _ _ _ _ _ _ _ _ _ _ _ _ _ _ _) ?_
    unfold t25x2
    simp only [tw_nm, tw_ite, tw_done, avs_len]
    rw [if_neg (by simp; omega)]
    exact h
  | x :: l, L, i, ts, k, dp, hi, hw, hc, hL, hn, hk, hts, hlen, k2, b1, b2, b3, b4, a, b, c, d, mn, mx, K, h => by
    have hm : maxStr = 281474976710656 := rfl
    have hlt : i < L.length := by
      rcases Nat.lt_or_ge i L.length with g | g
      · exact g
      · rw [List.drop_eq_nil_of_le g] at hi; cases hi
    have hd := List.drop_eq_getElem_cons hlt
    rw [← hi] at hd
    obtain ⟨hx, hl⟩ := List.cons.inj hd
    have e := elemAt_avs hlt
    rw [← hx] at e
    have w1 : IntKind.wrap .i64 (((i : Nat) : Int) + 1) = ((i + 1 : Nat) : Int) := by rw [wrap64 (by omega) (by omega)]; omega
    simp only [Re.nodesL] at hn hlen
    rw [canL, Bool.and_eq_true] at hc
    have hcall := fun K' h' => showR_wp x k dp (K := K') hw.1 hc.1 (by omega) h'
    have hsl := show_len x
    have hwl := wrapB_len [5] x.kind (showF x)
    have four (t : List UInt8) (ht : t = if k = 4 then wrapB [5] x.kind (showF x) else showF x) (b8 b9 : Bool) : lay.Wp 25 4 [.str (Go.Lib.join ts (if k = 5 then [124] else [])), .int .i64 (i : Nat), .str t, .int .i64 k2, .bool b1, .bool b2, .bool b3, .bool b4, .bool b8, .bool b9, .int .i64 k, .int .u64 a, .int .u64 b, .int .u64 c, .int .u64 d, .int .i64 mn, .int .i64 mx, .sl (Re.avs L)] K := by
      have ht2 : t.length ≤ (showF x).length + 2 := by rw [ht]; split <;> omega
      have hj := join_snoc ts t (if k = 5 then [124] else [])
      have next : ∀ s, s = Go.Lib.join (ts ++ [t]) (if k = 5 then [124] else []) → s.length + 1000 * Re.nodesL l ≤ 4000000000 → lay.Wp 25 2 [.str s, .int .i64 ((i + 1 : Nat) : Int), .int .i64 k2, .bool b1, .bool b2, .bool b3, .bool b4, .int .i64 k, .int .u64 a, .int .u64 b, .int .u64 c, .int .u64 d, .int .i64 mn, .int .i64 mx, .sl (Re.avs L)] K := by
        intro s hs hsl'
        subst hs
        refine showRL_wp l L (i + 1) (ts ++ [t]) k dp hl hw.2 hc.2 hL (by omega) hk (by simp [hts]) hsl' k2 b1 b2 b3 b4 a b c d mn mx ?_
        intro all he
        refine h all ?_
        rw [he, showL, ht, List.append_assoc, List.singleton_append]
      refine Lay.wp_of h25 (fun call => e25x4 call _ _ _ _ _ _ _ _ _ _ _ _ _ _ _ _ _ _) ?_
      unfold t25x4
      simp only [w1, tw_nm, tw_ite, tw_need, tw_jump]
      by_cases c5 : k = 5
      · rw [if_pos (by simpa using c5)]
        rw [if_pos c5] at hj hlen next ⊢
        by_cases z : i = 0
        · have : ts = [] := List.length_eq_zero_iff.1 (by omega)
          subst this
          rw [if_neg (by simp; omega)]
          rw [if_pos rfl] at hj
          rw [Go.Lib.join_nil]
          exact ⟨by simp; omega, next _ (by rw [hj]; rfl) (by simp; omega)⟩
        · rw [if_pos (by simp; omega)]
          rw [if_neg (by intro e; rw [e] at hts; simp at hts; omega)] at hj
          exact ⟨by omega, by simp; omega, next _ (by rw [hj]; simp) (by simp; omega)⟩
      · rw [if_neg (by simpa using c5)]
        rw [if_neg c5] at hj hlen next ⊢
        have hj2 : Go.Lib.join (ts ++ [t]) [] = Go.Lib.join ts [] ++ t := by
          rw [hj]; split
          · rename_i e; rw [e, Go.Lib.join_nil]; rfl
          · simp
        exact ⟨by omega, next _ hj2.symm (by simp; omega)⟩
    obtain ⟨k', a', b', c', d', mn', mx', l', rfl⟩ := outR x
    rw [re_cells] at e hcall
    refine Lay.wp_of h25 (fun call => e25x2 call _ _ _ _ _ _ _ _ _ _ _ _ _ _ _) ?_
    unfold t25x2
    simp only [e, tw_nm, tw_ite, tw_opnS, openC_int, openC_sl, openC_nil, tw_needR, tw_needT, true_and, tw_need, tw_done, tw_callT, tw_jump, avs_len]
    rw [if_pos (by simp; omega)]
    refine ⟨avs_low l', hcall _ ?_⟩
    simp only [s25x0, e, tw_nm, tw_ite, tw_opnS, openC_int, openC_sl, openC_nil, tw_needR, tw_needT, true_and, tw_need, tw_jump]
    by_cases c4 : k = 4
    · rw [if_pos (by simpa using c4)]
      by_cases c5 : k' = 5
      · rw [if_pos (by simpa using c5)]
        exact ⟨by omega, by simp; omega, four _ (by rw [if_pos c4]; unfold wrapB Re.kind; rw [if_pos (by simp [c5])]) _ _⟩
      · rw [if_neg (by simpa using c5)]
        exact four _ (by rw [if_pos c4]; unfold wrapB Re.kind; rw [if_neg (by simpa using c5)]) _ _
    · rw [if_neg (by simpa using c4)]
      exact four _ (by rw [if_neg c4]) _ _
end
end Go.Proofs.YtdiphholophdcaaDoor.T
end
section
open Go Go.Ab
/- THE LAW's PART OF EreShows. -/
namespace Go.Proofs.YtdiphholophdcaaDoor.T
variable {K : Out → Prop}
theorem lives_end {f : Nat} (h : K (.ret (.bool true, .no), ⟨[], []⟩)) : (Tree.call 20 0 [] fun o => outT o20x0 o (fun (b10 : Bool) => .done ((.ret ((.bool b10), .no)), ⟨[], ([] : List Nat)⟩)) (.fail)).wp lay.ev f K := by
  simp only [tw_callT]
  refine lives_wp ?_
  simp only [s20x0, tw_needR, tw_needT, true_and, tw_done]
  exact h
theorem ereShows_wp (x : Re) (hw : x.words) : lay.Wp 6 0 x.av.cells fun o => o = (.ret (.bool true, .no), ⟨[], []⟩) := by
  have hsm := fun K' h' => small_wp (x := x) (K := K') h'
  have hcr := fun (hn : x.nodes ≤ 400) K' h' => canR_wp x (-1) 1 (K := K') (by omega) (by decide) (by decide) h'
  have hc := fun (hn : x.nodes ≤ 400) K' h' => can_wp x (-1) 1 (K := K') (fits_nodes x (by omega)) (by decide) (by decide) h'
  have hle := fun (hn : x.nodes ≤ 400) (hcan : canF x (-1) 1 = true) K' h' => least_wp x (K := K') (fits_nodes x (by omega)) (can_has x _ _ hcan) h'
  have hsh := fun (hn : x.nodes ≤ 400) (hcan : canF x (-1) 1 = true) K' h' => show_wp x (K := K') (can_ok x _ _ hw hcan) (by omega) h'
  have hler := fun (hn : x.nodes ≤ 400) (hcan : canF x (-1) 1 = true) K' h' => leastR_wp x (-1) 1 (K := K') (by omega) hcan h'
  have hshr := fun (hn : x.nodes ≤ 400) (hcan : canF x (-1) 1 = true) K' h' => showR_wp x (-1) 1 (K := K') hw hcan (by omega) h'
  generalize canF x (-1) 1 = can at *
  generalize leastF x = n at *
  generalize showF x = s at *
  generalize x.nodes = nd at *
  obtain ⟨k, a, b, c, d, mn, mx, l, rfl⟩ := outR x
  rw [re_cells] at *
  have hlow := avs_low l
  refine Lay.wp_of h6 (fun call => e6x0 call _ _ _ _ _ _ _ _) ?_
  unfold t6x0
  simp only [tw_need, tw_callT]
  refine ⟨hlow, hsm _ fun sm hsm' => ?_⟩
  cases sm
  · simp only [s19x0, Bool.not_false, tw_needR, tw_needT, true_and, tw_nm, tw_iteT]
    exact lives_end rfl
  have hnd := hsm' rfl
  simp only [s19x0, Bool.not_true, tw_needR, tw_needT, true_and, tw_nm, tw_iteF, tw_need, tw_callT]
  refine ⟨hlow, hcr hnd _ ?_⟩
  simp only [s21x0, tw_needR, tw_needT, true_and, tw_nm, tw_need, tw_callT]
  refine ⟨hlow, ?_⟩
  cases can
  · refine Lay.wp_of h22 (fun call => e22x0 call _ _ _ _ _ _ _ _) ?_
    unfold t22x0
    simp only [tw_need, tw_callT]
    refine ⟨hlow, hc hnd _ ?_⟩
    simp only [s46x0, s22x0, Bool.not_false, tw_needR, tw_needT, true_and, tw_nm, tw_iteT, tw_done, tw_need, tw_callT]
    refine ⟨hlow, ?_⟩
    refine Lay.wp_of h23 (fun call => e23x0 call _ _ _ _ _ _ _ _) ?_
    unfold t23x0
    simp only [tw_need, tw_callT]
    refine ⟨hlow, hc hnd _ ?_⟩
    simp only [s46x0, s23x0, Bool.not_false, tw_needR, tw_needT, true_and, tw_nm, tw_iteT, tw_done, tw_need, tw_callT]
    refine ⟨rfl, hlow, ?_⟩
    refine Lay.wp_of h24 (fun call => e24x0 call _ _ _ _ _ _ _ _) ?_
    unfold t24x0
    simp only [tw_need, tw_callT]
    refine ⟨hlow, hc hnd _ ?_⟩
    have z : ((0 : Int) == 0) = true := rfl
    have zs : (([] : List UInt8) == []) = true := rfl
    simp only [s46x0, s24x0, z, zs, Bool.not_false, tw_needR, tw_needT, true_and, tw_nm, tw_iteT, tw_done]
    exact lives_end rfl
  · refine Lay.wp_of h22 (fun call => e22x0 call _ _ _ _ _ _ _ _) ?_
    unfold t22x0
    simp only [tw_need, tw_callT]
    refine ⟨hlow, hc hnd _ ?_⟩
    simp only [s46x0, s22x0, Bool.not_true, tw_needR, tw_needT, true_and, tw_nm, tw_iteF, tw_done, tw_need, tw_callT]
    refine ⟨hlow, hsh hnd rfl _ ?_⟩
    simp only [s47x0, s22x0, tw_needR, tw_needT, true_and, tw_nm, tw_done, tw_need, tw_callT]
    refine ⟨hlow, ?_⟩
    refine Lay.wp_of h23 (fun call => e23x0 call _ _ _ _ _ _ _ _) ?_
    unfold t23x0
    simp only [tw_need, tw_callT]
    refine ⟨hlow, hc hnd _ ?_⟩
    simp only [s46x0, s23x0, Bool.not_true, tw_needR, tw_needT, true_and, tw_nm, tw_iteF, tw_done, tw_need, tw_callT]
    refine ⟨hlow, hle hnd rfl _ ?_⟩
    simp only [s48x0, s23x0, Bool.not_true, tw_needR, tw_needT, true_and, tw_nm, tw_iteF, tw_done, tw_need, tw_callT]
    refine ⟨rfl, hlow, ?_⟩
    refine Lay.wp_of h24 (fun call => e24x0 call _ _ _ _ _ _ _ _) ?_
    unfold t24x0
    simp only [tw_need, tw_callT]
    refine ⟨hlow, hc hnd _ ?_⟩
    simp only [s46x0, s24x0, tw_needR, tw_needT, true_and, tw_nm, tw_iteT, tw_done, tw_need, tw_callT]
    refine ⟨hlow, hshr hnd rfl _ ?_⟩
    have zs : (s == s) = true := beq_self_eq_true s
    simp only [s25x0, zs, tw_needR, tw_needT, true_and, tw_nm, tw_iteT, tw_done, tw_need, tw_callT]
    refine ⟨hlow, hler hnd rfl _ ?_⟩
    have z : (n == n) = true := beq_self_eq_true n
    simp only [s26x0, z, tw_needR, tw_needT, true_and, tw_nm, tw_iteT, tw_done]
    exact lives_end rfl
end Go.Proofs.YtdiphholophdcaaDoor.T
end
section
open Go Go.Ab
/- A TREE AS AN ARGUMENT. -/
namespace Go.Proofs.YtdiphholophdcaaDoor.T
theorem cells36 : Tryd.prog.cellsOf 36 = 8 := by kernel_rfl
theorem cells33 : Tryd.prog.cellsOf 33 = 4 := by kernel_rfl
theorem cells31 : Tryd.prog.cellsOf 31 = 1 := by kernel_rfl
theorem cells3 : Tryd.prog.cellsOf 3 = 1 := by kernel_rfl
theorem cells34 : Tryd.prog.cellsOf 34 = 1 := by kernel_rfl
/-- a tree's cells -/
def ReAt (W : World) (x : Re) (cs : List Value) : Prop := match x with
  | .mk k a b c d mn mx l => ∃ v, cs = [.int .i64 k, .int .u64 a, .int .u64 b, .int .u64 c, .int .u64 d, .int .i64 mn, .int .i64 mx, v] ∧ R (ghost0 W) (.sl (Re.avs l)) v ∧ v.oneCell' = true
theorem ReAt.len {W : World} {x : Re} {cs : List Value} (h : ReAt W x cs) : cs.length = 8 := by
  obtain ⟨k, a, b, c, d, mn, mx, l, rfl⟩ := outR x
  obtain ⟨v, rfl, _⟩ := h
  rfl
theorem ReAt.cell {W : World} {x : Re} {cs : List Value} (h : ReAt W x cs) : ∀ i (h1 : i < x.av.cells.length) (h2 : i < cs.length), R (ghost0 W) x.av.cells[i] cs[i] ∧ cs[i].oneCell' = true := by
  obtain ⟨k, a, b, c, d, mn, mx, l, rfl⟩ := outR x
  obtain ⟨v, rfl, hv, h1⟩ := h
  intro i p q
  simp only [List.length_cons, List.length_nil] at q
  match i, q with
  | 0, _ => exact ⟨.int _ _, rfl⟩
  | 1, _ => exact ⟨.int _ _, rfl⟩
  | 2, _ => exact ⟨.int _ _, rfl⟩
  | 3, _ => exact ⟨.int _ _, rfl⟩
  | 4, _ => exact ⟨.int _ _, rfl⟩
  | 5, _ => exact ⟨.int _ _, rfl⟩
  | 6, _ => exact ⟨.int _ _, rfl⟩
  | 7, _ => exact ⟨hv, h1⟩
theorem av_cells_len (x : Re) : x.av.cells.length = 8 := by
  obtain ⟨k, a, b, c, d, mn, mx, l, rfl⟩ := outR x
  rfl
theorem avs_cells (l : List Re) : ∀ x ∈ Re.avs l, x.cells.length = 8 := by
  rw [avs_map]
  intro x hx
  obtain ⟨y, _, rfl⟩ := List.mem_map.1 hx
  exact av_cells_len y
theorem fl_avs : ∀ (l : List Re) (i j : Nat) (h : i < l.length) (hj : j < 8), (fl (Re.avs l))[i * 8 + j]? = l[i].av.cells[j]?
  | x :: r, 0, j, h, hj => by
    rw [avs_map, List.map_cons, fl_cons, List.getElem?_append_left (by rw [av_cells_len]; omega)]
    simp
  | x :: r, i + 1, j, h, hj => by
    have ih := fl_avs r i j (by simpa using h) hj
    rw [avs_map] at ih ⊢
    rw [List.map_cons, fl_cons, List.getElem?_append_right (by rw [av_cells_len]; omega), av_cells_len, List.getElem_cons_succ, ← ih]
    congr 1; omega
theorem spot_none {W : World} {a : Addr} {n : Nat} {cs : List Value} (h : W.cells? 0 (a.add 0) (n + 1) = some cs) : a.spot = none := by
  obtain ⟨_, hl, hc⟩ := World.cells?_some h
  have h0 := hc 0 (by omega)
  have e : (a.add 0).add 0 = a := rfl
  rw [e, List.getElem?_eq_getElem (by omega)] at h0
  unfold World.cell? at h0
  split at h0
  · split at h0
    · cases h0
    · rename_i hs; simpa using hs
  · cases h0
theorem wfI {k : IntKind} {n : Int} (hk : k = .u64) (h : (Lit.int k n).wf = true) : 0 ≤ n ∧ n < 18446744073709551616 := by
  subst hk
  simp [Lit.wf, IntKind.min, IntKind.max, IntKind.signed, IntKind.bits] at h
  omega
section
variable {H : Type} {enc : TypeId × Value → H} {W : World}
theorem re_list {n len : Nat} {a : Addr} (ha : a.spot = none) {el : Nat → DataW H × List MemPlace}
    (ih : ∀ cs y, DataW.trod enc Tryd.prog W 0 (fun _ => true) true n 36 cs = some y → ∃ x : Re, x.words ∧ ReAt W x cs)
    (h : ∀ i, i < len → ∃ cs, W.cells? 0 (a.add (i * 8)) 8 = some cs ∧ DataW.trod enc Tryd.prog W 0 (fun _ => true) true n 36 cs = some (el i)) :
    ∃ l : List Re, l.length = len ∧ Re.wordsL l ∧ ∀ i (h : i < l.length), ∃ cs, W.cells? 0 (a.add (i * 8)) 8 = some cs ∧ ReAt W l[i] cs := by
  have wapp : ∀ (l : List Re) (x : Re), Re.wordsL l → x.words → Re.wordsL (l ++ [x]) := by
    intro l
    induction l with
    | nil => exact fun x _ hx => ⟨hx, trivial⟩
    | cons y l ihl => exact fun x hl hx => ⟨hl.1, ihl x hl.2 hx⟩
  induction len with
  | zero => exact ⟨[], rfl, trivial, fun i h => absurd h (by simp)⟩
  | succ m ihm =>
    obtain ⟨l, hl, hw, hc⟩ := ihm fun i hi => h i (by omega)
    obtain ⟨cs, h1, h2⟩ := h m (by omega)
    obtain ⟨x, hx, hr⟩ := ih cs _ h2
    refine ⟨l ++ [x], by simp [hl], wapp l x hw hx, fun i hi => ?_⟩
    by_cases e : i < l.length
    · rw [List.getElem_append_left e]
      exact hc i e
    · obtain rfl : i = m := by simp at hi; omega
      rw [List.getElem_append_right (by omega)]
      simp only [hl, Nat.sub_self, List.getElem_cons_zero]
      exact ⟨cs, h1, hr⟩
theorem re_slice {len cap : Nat} {a : Addr} (ha : a.spot = none) (hc : len ≤ cap) {l : List Re} (hl : l.length = len)
    (h : ∀ i (h : i < l.length), ∃ cs, W.cells? 0 (a.add (i * 8)) 8 = some cs ∧ ReAt W l[i] cs) : R (ghost0 W) (.sl (Re.avs l)) (.slice (some a) len cap) := by
  obtain ⟨blk, off, sp⟩ := a
  simp only at ha
  subst ha
  subst hl
  have hlen : (fl (Re.avs l)).length = l.length * 8 := by rw [fl_length (avs_cells l), avs_len]
  have key : ∀ i, i < (fl (Re.avs l)).length → ∃ v, W.cell? ⟨blk, off + i, none⟩ = some v ∧ (∀ h : i < (fl (Re.avs l)).length, R (ghost0 W) (fl (Re.avs l))[i] v) ∧ v.oneCell' = true := by
    intro i hi
    have hq : i / 8 < l.length := by omega
    obtain ⟨cs, h1, h2⟩ := h (i / 8) hq
    obtain ⟨_, h3, h4⟩ := World.cells?_some h1
    have h5 := h4 (i % 8) (by omega)
    have ea : ((⟨blk, off, none⟩ : Addr).add (i / 8 * 8)).add (i % 8) = ⟨blk, off + i, none⟩ := by
      unfold Addr.add
      have : i / 8 * 8 + i % 8 = i := by omega
      split <;> split <;> simp_all <;> omega
    rw [ea, List.getElem?_eq_getElem (by omega)] at h5
    have hcell := h2.cell (i % 8) (by rw [av_cells_len]; omega) (by omega)
    refine ⟨_, h5, fun hh => ?_, hcell.2⟩
    have hf := fl_avs l (i / 8) (i % 8) hq (by omega)
    have hi8 : i / 8 * 8 + i % 8 = i := by omega
    rw [hi8, List.getElem?_eq_getElem hh, List.getElem?_eq_getElem (by rw [av_cells_len]; omega)] at hf
    rw [Option.some.inj hf]
    exact hcell.1
  have hav : (Re.avs l).length = l.length := avs_len l
  rw [← hav]
  refine .sl 8 (Re.avs l) blk off cap (fun i => (W.cell? ⟨blk, off + i, none⟩).getD Go.undef) (avs_cells l) (by rw [hav]; exact hc) (fun i hi => ?_) (fun i hi => ?_) (fun i hi => ?_)
  · obtain ⟨v, h1, _⟩ := key i hi
    show W.cell? ⟨blk, off + i, none⟩ = some ((W.cell? ⟨blk, off + i, none⟩).getD Go.undef)
    rw [h1]; rfl
  · obtain ⟨v, h1, h2, _⟩ := key i hi
    simp only [h1, Option.getD_some]
    exact h2 hi
  · obtain ⟨v, h1, _, h3⟩ := key i hi
    simp only [h1, Option.getD_some]
    exact h3
set_option maxRecDepth 100000 in
theorem re_open : ∀ (fuel : Nat) (cs : List Value) (y : DataW H × List MemPlace), DataW.trod enc Tryd.prog W 0 (fun _ => true) true fuel 36 cs = some y → ∃ x : Re, x.words ∧ ReAt W x cs := by
  intro fuel
  induction fuel using Nat.strongRecOn with
  | _ fuel ih =>
    intro cs y h
    obtain ⟨xs, n, rfl, _, hcl, hxl, hf⟩ := DataW.trod_struct Tryd.underlying36 h
    rw [cells36] at hcl
    have hxl : xs.length = 5 := hxl
    have some' : ∀ i, i < 5 → ∃ z, xs[i]? = some z := fun i hi => ⟨xs[i]'(by omega), List.getElem?_eq_getElem _⟩
    match cs, hcl with
    | [c0, c1, c2, c3, c4, c5, c6, c7], _ =>
      obtain ⟨z0, e0⟩ := some' 0 (by omega)
      obtain ⟨z1, e1⟩ := some' 1 (by omega)
      obtain ⟨z2, e2⟩ := some' 2 (by omega)
      obtain ⟨z3, e3⟩ := some' 3 (by omega)
      obtain ⟨z4, e4⟩ := some' 4 (by omega)
      have g0 : DataW.trod enc Tryd.prog W 0 (fun _ => true) true n 3 [c0] = xs[0]? := by
        have q : DataW.trod enc Tryd.prog W 0 (fun _ => true) true n 3 (([c0, c1, c2, c3, c4, c5, c6, c7].drop 0).take (Tryd.prog.cellsOf 3)) = xs[0]? := hf 0 _ rfl
        rw [cells3] at q
        exact q
      have g1 : DataW.trod enc Tryd.prog W 0 (fun _ => true) true n 33 [c1, c2, c3, c4] = xs[1]? := by
        have q : DataW.trod enc Tryd.prog W 0 (fun _ => true) true n 33 (([c0, c1, c2, c3, c4, c5, c6, c7].drop 1).take (Tryd.prog.cellsOf 33)) = xs[1]? := hf 1 _ rfl
        rw [cells33] at q
        exact q
      have g2 : DataW.trod enc Tryd.prog W 0 (fun _ => true) true n 3 [c5] = xs[2]? := by
        have q : DataW.trod enc Tryd.prog W 0 (fun _ => true) true n 3 (([c0, c1, c2, c3, c4, c5, c6, c7].drop 5).take (Tryd.prog.cellsOf 3)) = xs[2]? := hf 2 _ rfl
        rw [cells3] at q
        exact q
      have g3 : DataW.trod enc Tryd.prog W 0 (fun _ => true) true n 3 [c6] = xs[3]? := by
        have q : DataW.trod enc Tryd.prog W 0 (fun _ => true) true n 3 (([c0, c1, c2, c3, c4, c5, c6, c7].drop 6).take (Tryd.prog.cellsOf 3)) = xs[3]? := hf 3 _ rfl
        rw [cells3] at q
        exact q
      have g4 : DataW.trod enc Tryd.prog W 0 (fun _ => true) true n 34 [c7] = xs[4]? := by
        have q : DataW.trod enc Tryd.prog W 0 (fun _ => true) true n 34 (([c0, c1, c2, c3, c4, c5, c6, c7].drop 7).take (Tryd.prog.cellsOf 34)) = xs[4]? := hf 4 _ rfl
        rw [cells34] at q
        exact q
      rw [e0] at g0
      rw [e1] at g1
      rw [e2] at g2
      rw [e3] at g3
      rw [e4] at g4
      obtain ⟨k, hk, _, _⟩ := DataW.trod_int Tryd.underlying3 g0
      obtain ⟨mn, hmn, _, _⟩ := DataW.trod_int Tryd.underlying3 g2
      obtain ⟨mx, hmx, _, _⟩ := DataW.trod_int Tryd.underlying3 g3
      obtain ⟨ws, m, _, _, _, hwl, hw⟩ := DataW.trod_array Tryd.underlying33 g1
      have somew : ∀ i, i < 4 → ∃ z, ws[i]? = some z := fun i hi => ⟨ws[i]'(by omega), List.getElem?_eq_getElem _⟩
      have w0 := hw 0 (by omega)
      have w1 := hw 1 (by omega)
      have w2 := hw 2 (by omega)
      have w3 := hw 3 (by omega)
      obtain ⟨y0, f0⟩ := somew 0 (by omega)
      obtain ⟨y1, f1⟩ := somew 1 (by omega)
      obtain ⟨y2, f2⟩ := somew 2 (by omega)
      obtain ⟨y3, f3⟩ := somew 3 (by omega)
      rw [f0] at w0
      rw [f1] at w1
      rw [f2] at w2
      rw [f3] at w3
      simp only [cells31, Nat.zero_mul, Nat.one_mul, Nat.mul_one] at w0 w1 w2 w3
      have w0 : DataW.trod enc Tryd.prog W 0 (fun _ => true) true m 31 [c1] = some y0 := w0
      have w1 : DataW.trod enc Tryd.prog W 0 (fun _ => true) true m 31 [c2] = some y1 := w1
      have w2 : DataW.trod enc Tryd.prog W 0 (fun _ => true) true m 31 [c3] = some y2 := w2
      have w3 : DataW.trod enc Tryd.prog W 0 (fun _ => true) true m 31 [c4] = some y3 := w3
      obtain ⟨a, ha, _, ha'⟩ := DataW.trod_int Tryd.underlying31 w0
      obtain ⟨b, hb, _, hb'⟩ := DataW.trod_int Tryd.underlying31 w1
      obtain ⟨c, hc, _, hc'⟩ := DataW.trod_int Tryd.underlying31 w2
      obtain ⟨d, hd, _, hd'⟩ := DataW.trod_int Tryd.underlying31 w3
      cases hk; cases hmn; cases hmx; cases ha; cases hb; cases hc; cases hd
      have fin (l : List Re) (hl : Re.wordsL l) (hr : R (ghost0 W) (.sl (Re.avs l)) c7) (h1 : c7.oneCell' = true) : ∃ x : Re, x.words ∧ ReAt W x [.int .i64 k, .int .u64 a, .int .u64 b, .int .u64 c, .int .u64 d, .int .i64 mn, .int .i64 mx, c7] :=
        ⟨.mk k a b c d mn mx l, ⟨wfI rfl ha', wfI rfl hb', wfI rfl hc', wfI rfl hd', hl⟩, c7, rfl, hr, h1⟩
      rcases DataW.trod_slice Tryd.underlying34 g4 with ⟨hs, _⟩ | ⟨ad, len, cap, elems, rest, q, hq, hs, _, _, hle, _, hel, hall, hsp, _⟩
      · cases hs
        exact fin [] trivial (.nils none) rfl
      · cases hs
        rw [cells36] at hall hsp
        have hsp := hsp rfl
        have hone : ∀ i, i < len → ∃ cs, W.cells? 0 (ad.add (i * 8)) 8 = some cs ∧ DataW.trod enc Tryd.prog W 0 (fun _ => true) true q 36 cs = some (elems.getD i (.nil, [])) := by
          intro i hi
          have := hall i hi
          rw [List.getElem?_eq_getElem (by omega)] at this
          obtain ⟨cs', h1, h2⟩ := Option.bind_eq_some_iff.1 this
          refine ⟨cs', h1, ?_⟩
          rw [h2]
          simp [List.getD, List.getElem?_eq_getElem (show i < elems.length by omega)]
        by_cases z : cap = 0
        · obtain rfl : len = 0 := by omega
          subst z
          exact fin [] trivial (.nils _) rfl
        · have hspot : ad.spot = none := by
            by_cases z1 : len = 0
            · subst z1
              have := hsp.2 0 (by omega)
              rw [List.getElem?_eq_getElem (by omega)] at this
              obtain ⟨cs', h1, _⟩ := Option.bind_eq_some_iff.1 this
              rw [Nat.add_zero, Nat.zero_mul] at h1
              exact spot_none h1
            · obtain ⟨cs', h1, _⟩ := hone 0 (by omega)
              rw [Nat.zero_mul] at h1
              exact spot_none h1
          obtain ⟨l, hl, hwl', hcl'⟩ := re_list (enc := enc) hspot (ih q (by omega)) hone
          exact fin l hwl' (re_slice hspot hle hl hcl') rfl
end
end Go.Proofs.YtdiphholophdcaaDoor.T
end
section
/-
  DERIVED: THE SHELF's CONTRACTS AT THIS DUMP, IN PLAIN WORDS (tools/lay-plain.mjs out of 'TrydShelfB.lean', which tools/lay-shelf.mjs wrote): THE SAME DECLARATIONS UNDER THE SAME NAMES: 'import', 'namespace', 'open', 'def', 'theorem' AND NOTHING ELSE: no command of the shelf's: FOR A HAND-IN. Each laying: the table of numbers ('.._ren') and one theorem, a field a fact of the dump's own or the kernel's comparison; each contract: ONE APPLICATION.
-/
namespace Go.Proofs
open Go.Shelf
def Tryd.lays156_ren : Go.Shelf.Ren := ⟨fun | 156 => 73 | 165 => 90 | 166 => 43 | 169 => 44 | 240 => 66 | 241 => 100 | 276 => 84 | 277 => 108 | n => n, fun | 31 => 53 | 9 => 9 | 3 => 3 | 4 => 4 | 0 => 0 | 20 => 20 | 72 => 59 | 76 => 63 | 70 => 56 | 37 => 57 | 75 => 61 | 127 => 79 | 164 => 92 | 5 => 5 | 80 => 65 | n => n, fun | n => n⟩
theorem Tryd.lays156 : Go.Proofs.Lays.n156 Tryd.prog Tryd.lays156_ren := {
  mixed := by kernel_rfl
  f156 := Tryd.func73.trans (congrArg some (by kernel_rfl))
  f165 := Tryd.func90.trans (congrArg some (by kernel_rfl))
  f166 := Tryd.func43.trans (congrArg some (by kernel_rfl))
  f169 := Tryd.func44.trans (congrArg some (by kernel_rfl))
  f240 := Tryd.func66.trans (congrArg some (by kernel_rfl))
  f241 := Tryd.func100.trans (congrArg some (by kernel_rfl))
  f276 := Tryd.func84.trans (congrArg some (by kernel_rfl))
  f277 := Tryd.func108.trans (congrArg some (by kernel_rfl))
  t0 := Tryd.underlying0
  a0 := Tryd.isAgg0
  z0 := Tryd.sizeOf0
  v0 := Tryd.zeroValue0
  t3 := Tryd.underlying3
  a3 := Tryd.isAgg3
  z3 := Tryd.sizeOf3
  v3 := Tryd.zeroValue3
  t4 := Tryd.underlying4
  a4 := Tryd.isAgg4
  z4 := Tryd.sizeOf4
  v4 := Tryd.zeroValue4
  t9 := Tryd.underlying9
  a9 := Tryd.isAgg9
  z9 := Tryd.sizeOf9
  v9 := Tryd.zeroValue9
  t20 := Tryd.underlying20
  a20 := Tryd.isAgg20
  z20 := Tryd.sizeOf20
  v20 := Tryd.zeroValue20
  t31 := Tryd.underlying53
  a31 := Tryd.isAgg53
  z31 := Tryd.sizeOf53
  v31 := Tryd.zeroValue53
  t37 := Tryd.underlying57
  a37 := Tryd.isAgg57
  z37 := Tryd.sizeOf57
  v37 := Tryd.zeroValue57
  t70 := Tryd.underlying56
  a70 := Tryd.isAgg56
  z70 := Tryd.sizeOf56
  v70 := Tryd.zeroValue56
  t72 := Tryd.underlying59
  a72 := Tryd.isAgg59
  z72 := Tryd.sizeOf59
  v72 := Tryd.zeroValue59
  t75 := Tryd.underlying61
  a75 := Tryd.isAgg61
  z75 := Tryd.sizeOf61
  v75 := Tryd.zeroValue61
  t76 := Tryd.underlying63
  a76 := Tryd.isAgg63
  z76 := Tryd.sizeOf63
  v76 := Tryd.zeroValue63
  t127 := Tryd.underlying79
  a127 := Tryd.isAgg79
  z127 := Tryd.sizeOf79
  v127 := Tryd.zeroValue79
  t164 := Tryd.underlying92
  a164 := Tryd.isAgg92
  z164 := Tryd.sizeOf92
  v164 := Tryd.zeroValue92 }
theorem Tryd.Builder_Extra_156 : Builder.Extra Tryd.prog Tryd.lays156_ren := {
  sizeBuilder := by kernel_rfl
  liesBuilder := by kernel_rfl
  t5 := Tryd.underlying5
  a5 := Tryd.isAgg5
  z5 := Tryd.sizeOf5
  v5 := Tryd.zeroValue5
  infoByte := by kernel_rfl
  cellsByte := by kernel_rfl
  sizeByte := by kernel_rfl
  neB5 := by decide }
open Go.RowKit in
/-- strings.Join (LAID: no walk: one application.) -/
theorem Tryd.strings_Join_none (a : Option Addr) (k : Nat) (sep : ByteArray) (w : World) : Calls Tryd.prog 73 #[.slice a 0 k, .string sep] w fun e w' => e = .returned (.string ⟨#[]⟩) ∧ w' = w := Any.strings_Join_none Tryd.lays156 Tryd.Builder_Extra_156 a k sep w
open Go.RowKit in
/-- strings.Join (LAID: no walk: one application.) -/
theorem Tryd.strings_Join (bk o k : Nat) (xs : List ByteArray) (sep : ByteArray) (w : World) (hcells : ∀ (j : Nat) x, xs[j]? = some x → w.cell? ⟨bk, o + j, none⟩ = some (.string x)) (hbk : bk < w.heap.size) (hN : xs.length ≤ 140737488355328) (hcap : xs.length ≤ k) (hlen : (Lib.join (xs.map (·.data.toList)) sep.data.toList).length ≤ 281474976710656) :
    Calls Tryd.prog 73 #[.slice (some ⟨bk, o, none⟩) xs.length k, .string sep] w fun e w' => e = .returned (.string ⟨(Lib.join (xs.map (·.data.toList)) sep.data.toList).toArray⟩) ∧ Below w.heap.size w w' := Any.strings_Join_48 Tryd.lays156 Tryd.Builder_Extra_156 bk o k xs sep w hcells hbk hN hcap hlen
end Go.Proofs
end
section
open Go Go.Ab
namespace Go.Proofs.YtdiphholophdcaaDoor.T
set_option maxHeartbeats 1000000 in
set_option maxRecDepth 100000 in
theorem copyCheck_used (b : Nat) (w : World) (h0 : w.cell? ⟨b, 0, none⟩ = some (.pointer (some ⟨b, 0, none⟩))) :
    Calls Tryd.prog 66 #[.pointer (some ⟨b, 0, none⟩)] w fun e w' => e = .returned (.tuple #[]) ∧ w' = w := by
  have sz : (Tryd.prog.info? 59).map (·.size) = some 2 := by kernel_rfl
  obtain ⟨j, hj, _⟩ := Option.map_eq_some_iff.1 sz
  go_enter Tryd.func66, Tryd.ntmps66
  go_wp2
  rw [Lib.run_neq_ptr_same w _ (by kernel_rfl : Tryd.prog.underlying 56 = some (.pointer 59)) hj]
  go_wp2
  go_end0
  exact ⟨rfl, rfl⟩

set_option maxHeartbeats 1000000 in
set_option maxRecDepth 100000 in
theorem copyCheck_fresh (b : Nat) (w : World) (h0 : w.cell? ⟨b, 0, none⟩ = some (.pointer none)) (hsh : w.shape? b = some (59, 2)) (hfz : w.frozen? ⟨b, 0, none⟩ = false) :
    Calls Tryd.prog 66 #[.pointer (some ⟨b, 0, none⟩)] w fun e w' => e = .returned (.tuple #[]) ∧ w' = w.setCell ⟨b, 0, none⟩ (.pointer (some ⟨b, 0, none⟩)) := by
  have sz : (Tryd.prog.info? 59).map (·.size) = some 2 := by kernel_rfl
  have lies : liesAt Tryd.prog Tryd.prog.depth 59 (2 / Tryd.prog.cellsOf 59) 0 59 1 = true := by kernel_rfl
  obtain ⟨j, hj, hjs⟩ := Option.map_eq_some_iff.1 sz
  have u56 : Tryd.prog.underlying 56 = some (.pointer 59) := by kernel_rfl
  have u92 : Tryd.prog.underlying 92 = some .unsafePointer := by kernel_rfl
  go_enter Tryd.func66, Tryd.ntmps66
  go_wp2
  rw [Lib.run_to_unsafe w ⟨b, 0, none⟩ u56 u92 hj (by rw [hjs]; decide) hsh (Nat.zero_lt_succ 1)]
  simp only [Result.andThen]
  rw [Oper.upon_value]
  go_wp2
  rw [run_callFunc_extern Tryd.func84 (by kernel_rfl) (by kernel_rfl) (by kernel_rfl) (e := Extern.AbiNoEscape.same) (by kernel_rfl)]
  rw [Lib.run_noEscape]
  simp only [Result.andThen]
  rw [Oper.upon_value]
  go_wp2
  rw [Lib.run_from_unsafe w ⟨b, 0, none⟩ u92 u56 hj hsh lies]
  simp only [Result.andThen]
  rw [Oper.upon_value]
  go_wp2
  go_end0
  exact ⟨rfl, rfl⟩
theorem enter66 (vs : Array Value) (w : World) : (callFunc 66 vs).run cx.P w = .ok (.enter 66 vs) w := enter_run Tryd.func66 (hname 66 _ Tryd.func66) (k := bodyOf Tryd.f66) rfl vs w
theorem sound66 : SpecSound cx 66 (specCopyCheck 59 5) := copyCheck_sound enter66 copyCheck_fresh copyCheck_used
theorem ext66 : ExtSound cx 66 (extCopyCheck 59) := extCopyCheck_sound enter66 copyCheck_fresh copyCheck_used
theorem sound93 : SpecSound cx 93 specIndexByteString := indexByteString_sound Tryd.func93 (hname 93 _ Tryd.func93) (by kernel_rfl) (by kernel_rfl) (by kernel_rfl)
theorem ext93 : ExtSound cx 93 extIndexByteString := extIndexByteString_sound Tryd.func93 (hname 93 _ Tryd.func93) (by kernel_rfl) (by kernel_rfl) (by kernel_rfl)
theorem ext73 : ExtSound cx 73 extJoin := extJoin_sound (fun vs w => enter_run Tryd.func73 (hname 73 _ Tryd.func73) (k := bodyOf Tryd.f73) rfl vs w) (fun a k sep w => Tryd.strings_Join_none a k sep w) fun bk o k xs sep w h1 h2 h3 h4 h5 => Tryd.strings_Join bk o k xs sep w h1 h2 h3 h4 h5
theorem sound73 : SpecSound cx 73 specJoin := specJoin_sound ext73
theorem sound118 : SpecSound cx 118 specFail := specFail_sound
theorem sound119 : SpecSound cx 119 specFail := specFail_sound
theorem sound120 : SpecSound cx 120 specFail := specFail_sound
theorem sound130 : SpecSound cx 130 specFail := specFail_sound
/-- the functions that the run is given -/
def extT : FuncId → Option ExtFn
  | 66 => some (extCopyCheck 59)
  | 73 => some extJoin
  | 93 => some extIndexByteString
  | _ => none
theorem extT_sound : ∀ f g, extT f = some g → ExtSound cx f g := by
  intro f g h
  unfold extT at h
  split at h
  · cases h; exact ext66
  · cases h; exact ext73
  · cases h; exact ext93
  · cases h
theorem runs (n : Nat) : CallSound cx (Ctx.call cx pre extT n) := run_sound hm hname extT_sound n
end Go.Proofs.YtdiphholophdcaaDoor.T
end
section
open Go Go.Ab
namespace Go.Proofs.YtdiphholophdcaaDoor.T
theorem fns_ok : FnsOk cx.P [(6, d6), (7, d7), (8, d8), (19, d19), (20, d20), (21, d21), (22, d22), (23, d23), (24, d24), (25, d25), (26, d26), (27, d27), (28, d28), (29, d29), (30, d30), (42, d42), (44, d44), (45, d45), (46, d46), (47, d47), (48, d48), (49, d49), (50, d50), (51, d51), (53, d53), (54, d54), (55, d55), (67, d67), (68, d68), (69, d69), (70, d70), (71, d71), (72, d72), (74, d74), (75, d75), (76, d76), (77, d77), (78, d78), (79, d79), (85, d85), (86, d86), (87, d87), (88, d88), (89, d89), (91, d91), (92, d92), (98, d98), (99, d99), (101, d101), (102, d102), (107, d107), (109, d109), (110, d110), (111, d111), (112, d112), (113, d113), (117, d117), (121, d121), (122, d122), (123, d123), (124, d124), (132, d132), (133, d133)] :=
  .cons Tryd.func6 rfl (
  .cons Tryd.func7 rfl (
  .cons Tryd.func8 rfl (
  .cons Tryd.func19 rfl (
  .cons Tryd.func20 rfl (
  .cons Tryd.func21 rfl (
  .cons Tryd.func22 rfl (
  .cons Tryd.func23 rfl (
  .cons Tryd.func24 rfl (
  .cons Tryd.func25 rfl (
  .cons Tryd.func26 rfl (
  .cons Tryd.func27 rfl (
  .cons Tryd.func28 rfl (
  .cons Tryd.func29 rfl (
  .cons Tryd.func30 rfl (
  .cons Tryd.func42 rfl (
  .cons Tryd.func44 rfl (
  .cons Tryd.func45 rfl (
  .cons Tryd.func46 rfl (
  .cons Tryd.func47 rfl (
  .cons Tryd.func48 rfl (
  .cons Tryd.func49 rfl (
  .cons Tryd.func50 rfl (
  .cons Tryd.func51 rfl (
  .cons Tryd.func53 rfl (
  .cons Tryd.func54 rfl (
  .cons Tryd.func55 rfl (
  .cons Tryd.func67 rfl (
  .cons Tryd.func68 rfl (
  .cons Tryd.func69 rfl (
  .cons Tryd.func70 rfl (
  .cons Tryd.func71 rfl (
  .cons Tryd.func72 rfl (
  .cons Tryd.func74 rfl (
  .cons Tryd.func75 rfl (
  .cons Tryd.func76 rfl (
  .cons Tryd.func77 rfl (
  .cons Tryd.func78 rfl (
  .cons Tryd.func79 rfl (
  .cons Tryd.func85 rfl (
  .cons Tryd.func86 rfl (
  .cons Tryd.func87 rfl (
  .cons Tryd.func88 rfl (
  .cons Tryd.func89 rfl (
  .cons Tryd.func91 rfl (
  .cons Tryd.func92 rfl (
  .cons Tryd.func98 rfl (
  .cons Tryd.func99 rfl (
  .cons Tryd.func101 rfl (
  .cons Tryd.func102 rfl (
  .cons Tryd.func107 rfl (
  .cons Tryd.func109 rfl (
  .cons Tryd.func110 rfl (
  .cons Tryd.func111 rfl (
  .cons Tryd.func112 rfl (
  .cons Tryd.func113 rfl (
  .cons Tryd.func117 rfl (
  .cons Tryd.func121 rfl (
  .cons Tryd.func122 rfl (
  .cons Tryd.func123 rfl (
  .cons Tryd.func124 rfl (
  .cons Tryd.func132 rfl (
  .cons Tryd.func133 rfl (
  .nil)))))))))))))))))))))))))))))))))))))))))))))))))))))))))))))))
theorem exts_ok : ExtsOk cx [(66, specCopyCheck 59 5), (73, specJoin), (93, specIndexByteString), (118, specFail), (119, specFail), (120, specFail), (130, specFail)] :=
  .cons sound66 (.cons sound73 (.cons sound93 (.cons sound118 (.cons sound119 (.cons sound120 (.cons sound130 (.nil)))))))
theorem fits : lay.Fits := ⟨hm, hname, fun _ _ h => fns_ok.mem (fnsL_mem h), fun _ _ h => exts_ok.mem (extL_mem h)⟩
end Go.Proofs.YtdiphholophdcaaDoor.T
end
section
/- THE PLAIN WRAP WITH BOTH: what the row lists, and the world's shape. -/
namespace Go.Ab
open Go.RowKit
variable {H : Type} {enc : TypeId × Value → H}
theorem returnsInHanded_and_shaped {a : Assume} {C : Checked} {os : Os} {f : FuncId} {fn : Func} {s : ChangeSpec} {conds : List PathCond} {apart fresh handsOn again : Bool} {X : World → Array Value → Prop}
    (hX : ∀ (w w' : World) (args : Array Value), w.heap = w'.heap → X w args → X w' args)
    (own : ownKnob C.prog.godebug = none) (started : os.Started) (noInit : C.prog.inits.idxOf? f = none) (hfn : C.prog.funcs[f]? = some fn)
    (witness : ∃ (w : World) (tape : Tape) (i : Input), w.os = os ∧ (w.forCall tape i).Shaped C.prog ∧ i.vars = [] ∧ Input.okWide C.prog (w.forCall tape i) .any w.heap.size f i ∧
      ((s.pre enc C.prog fn conds apart (w.forCall tape i).memory i.args ∧ X (w.forCall tape i).memory i.args) ∧ sizedMet enc C.prog fn (OpenSpec.ofChange s) apart (w.forCall tape i).memory i.args) ∧ a.holds C.prog (lone (Frame.enter C.prog f i.args .normal) [] (w.forCall tape i)))
    (contract : ∀ (W : World) (base : Nat) (args : Array Value) (ds gs : List (DataW H)) (before : List MemPlace),
      (∀ (j : Nat) t v, fn.params[j]? = some t → args[j]? = some v → Value.okWide C.prog W .any base t v) →
      DataW.Whole enc C.prog fn.params.toList s.vars apart W args.toList ds gs before →
      conds.all (PathCond.test C.prog ⟨fn.params.toList, ds, s.plain.varTypes C.prog, gs⟩) = true →
      (DataW.weightsEach C.prog (fn.params.toList ++ s.plain.varTypes C.prog) (ds ++ gs)).all (· ≤ reachBytes) = true → X W args → W.ShapedOpen C.prog →
      a.holds C.prog (lone (Frame.enter C.prog f args .normal) [] W) →
      Calls C.prog f args W fun e W' => ∃ v, e = .returned v ∧ s.post enc C.prog fn apart fresh handsOn again W args v W') :
    ReturnsInHanded a C os f .any (fun w args => (s.pre enc C.prog fn conds apart w args ∧ X w args) ∧ sizedMet enc C.prog fn (OpenSpec.ofChange s) apart w args) (s.post enc C.prog fn apart fresh handsOn again) := by
  refine returnsInHanded_of_calls own started noInit witness ?_
  intro w tape i _ hsh _ hok hpre hholds
  obtain ⟨_, _, _, fn', hfn', _, _, _, _, hval⟩ := hok
  have e : fn' = fn := Option.some.inj (hfn'.symm.trans hfn)
  subst e
  obtain ⟨⟨⟨ds, gs, before, hw, hc⟩, hx⟩, hz⟩ := hpre
  have hw' := DataW.Whole.of_heap (w' := w.forCall tape i) (by rfl) hw
  refine (contract (w.forCall tape i) w.heap.size i.args ds gs before hval hw' hc (hz.weights hw) (hX _ _ _ (by rfl) hx) hsh hholds).mono fun e W' ⟨v, he, hp⟩ => ?_
  subst he
  exact ChangeSpec.post_blind hp
/-- a variable's row, whose type and size the world's shape tells -/
theorem tyOf_global {P : Program} {W : World} {g : Nat} {t : TypeId} {zero : Array Value} (h : W.ShapedOpen P) (hg : g < P.globals.size)
    (h0 : ((begin P (fun _ _ => 0) default).world.heap[g]?).bind Obj.row? = some (zero, t)) : ∃ t', tyOf W g = some (t', zero.size) := by
  obtain ⟨cs, hh, hs, hr⟩ := h.1 g zero t hg h0
  exact ⟨t, by simp [tyOf, hh, hs]⟩
end Go.Ab
end
