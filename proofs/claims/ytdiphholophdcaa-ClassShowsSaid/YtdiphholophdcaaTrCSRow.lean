/- ClassShows returns true for every set and every two texts, and changes nothing that it was handed; no condition. -/
import Derived.Test.YtdiphholophdcaaXCTrCP
import Derived.Test.YtdiphholophdcaaRows
import Derived.WalkKit
import Derived.ProofKit
import Derived.OpenShut
import Derived.ShutString
import Derived.ChangeOld
import Derived.Below
import Derived.SizedLaws
import Derived.Carry
set_option linter.all false
open Go Go.Ab
namespace Go.Proofs.Ytdiphholophdcaa.T
def wf (w : Int) : Prop := 0 ≤ w ∧ w < 2 ^ 64
theorem knowOk {W : World} : KnowOk cx W := fun _ _ _ _ => trivial
section
open Go.ChangeShapes Go.WideShapes
/-- an array of numbers, read -/
theorem open_arr {H : Type} {enc : TypeId × Value → H} {P : Program} {w : World} {base : Nat} {spare : Nat → Bool} {held : Bool} {t e : TypeId} {n : Nat} {k : IntKind} {v : Value} {d : DataW H} {ps : List MemPlace}
    (ht : P.underlying t = some (.array n e)) (he : P.underlying e = some (.int k)) (hc : P.cellsOf e = 1) (hct : P.cellsOf t = n) (hn : 2 ≤ n) (hd : DataW.Trod enc P w base spare held t v d ps) :
    ∃ ns : List Int, ns.length = n ∧ v = .agg (ns.map (Value.int k)).toArray ∧ ∀ x ∈ ns, (Lit.int k x).wf = true := by
  obtain ⟨fuel, hf⟩ := hd
  obtain ⟨xs, m, rfl, hx, hl, hxl, hall⟩ := Go.DataW.trod_array ht hf
  rw [hct] at hl
  have hv : v = .agg v.cells := by
    cases v <;> first | rfl | (simp [Value.cells] at hl; omega)
  generalize hcs : v.cells.toList = cs at *
  have hi : ∀ i (h : i < cs.length), ∃ q, cs[i] = .int k q ∧ (Lit.int k q).wf = true := by
    intro i h
    have h1 := hall i (by omega)
    rw [hc, Nat.mul_one] at h1
    have hsome : ∃ y, xs[i]? = some y := ⟨xs[i]'(by omega), List.getElem?_eq_getElem _⟩
    obtain ⟨y, hy⟩ := hsome
    rw [hy] at h1
    obtain ⟨q, hq, _, hw⟩ := DataW.trod_int he h1
    refine ⟨q, ?_, hw⟩
    have h2 : (List.take 1 (List.drop i cs))[0]? = some (.int k q) := by rw [hq]; rfl
    rw [List.getElem?_take_of_lt (by omega), List.getElem?_drop, Nat.add_zero, List.getElem?_eq_getElem h] at h2
    exact Option.some.inj h2
  refine ⟨cs.map fun x => match x with | .int _ q => q | _ => 0, by simpa using hl, ?_, ?_⟩
  · rw [hv]
    congr 1
    apply Array.toList_inj.1
    rw [hcs]
    apply List.ext_getElem
    · simp
    · intro i h1 h2
      obtain ⟨q, hq, _⟩ := hi i h1
      simp [hq]
  · intro x hx
    obtain ⟨y, hy, rfl⟩ := List.mem_map.1 hx
    obtain ⟨i, h, rfl⟩ := List.getElem_of_mem hy
    obtain ⟨q, hq, hw⟩ := hi i h
    simp [hq, hw]
theorem wf_u64 {x : Int} (h : (Lit.int .u64 x).wf = true) : wf x := by
  simp [Lit.wf, IntKind.min, IntKind.max, IntKind.signed, IntKind.bits] at h
  unfold wf; omega
theorem wf_u8 {x : Int} (h : (Lit.int .u8 x).wf = true) : 0 ≤ x ∧ x < 256 := by
  simp [Lit.wf, IntKind.min, IntKind.max, IntKind.signed, IntKind.bits] at h
  omega
end
theorem rargs3 {G : Gh} {T : List Nat} {x y z : SV} {u v w : Value} (hx : RS G T x u) (hy : RS G T y v) (hz : RS G T z w) : RArgs G T [x, y, z] #[u, v, w] := ⟨rfl, fun i h1 h2 => by
  have e : i = 0 ∨ i = 1 ∨ i = 2 := by simp at h1; omega
  rcases e with rfl | rfl | rfl
  · exact hx
  · exact hy
  · exact hz⟩
theorem arr_arg (G : Gh) (T : List Nat) (k : IntKind) (ns : List Int) : RS G T (.agg (ns.map (AV.int k)), .no) (.agg (ns.map (Value.int k)).toArray) := by
  refine .no (.agg _ _ (by simp) fun i h1 h2 => ?_)
  simp
  exact .int _ _
theorem walkShows (la : List Int) (ha : la.length = 4) (wa : ∀ x ∈ la, wf x) (s t : ByteArray) (ht : t.size ≤ 140737488351232) (W : World) :
    Calls Try.prog 5 #[.agg (la.map (Value.int .u64)).toArray, .string s, .string t] W fun e w' => e = .returned (.bool true) ∧ Go.RowKit.Below W.heap.size W w' := by
  match la, ha with
  | [a, b, c, d], _ =>
    simp only [List.mem_cons, List.not_mem_nil, or_false, forall_eq_or_imp, forall_eq] at wa
    obtain ⟨wa, wb, wc, wd⟩ := wa
    obtain ⟨a, rfl⟩ := Int.eq_ofNat_of_zero_le wa.1
    obtain ⟨b, rfl⟩ := Int.eq_ofNat_of_zero_le wb.1
    obtain ⟨c, rfl⟩ := Int.eq_ofNat_of_zero_le wc.1
    obtain ⟨d, rfl⟩ := Int.eq_ofNat_of_zero_le wd.1
    have h := classShows_wp (a := a) (b := b) (c := c) (d := d) (by have := wa.2; omega) (by have := wb.2; omega) (by have := wc.2; omega) (by have := wd.2; omega) s.data.toList t.data.toList (by rw [show t.data.toList.length = t.size from by cases t; exact Array.length_toList]; exact ht)
    exact walk_of_tree (L := lay) fits h5 (args := [(.agg [.int .u64 (a : Nat), .int .u64 (b : Nat), .int .u64 (c : Nat), .int .u64 (d : Nat)], .no), (.str s.data.toList, .no), (.str t.data.toList, .no)]) (tg := .no) (S' := ⟨[], []⟩) h _ W ⟨fun _ _ h => (by cases h), knowOk⟩
      (rargs3 (arr_arg _ _ .u64 [(a : Int), b, c, d]) (str_arg _ _ s) (str_arg _ _ t))
end Go.Proofs.Ytdiphholophdcaa.T
namespace Go.Proofs.Ytdiphholophdcaa.classShows
open Go.ChangeShapes Go.WideShapes Go.ChangeAt Go.RowKit
open Go.ChangeMaps (open_string shut_string)
theorem own : ownKnob Try.prog.godebug = none := by kernel_rfl
theorem laid : laidOutB Try.prog = true := by kernel_rfl
set_option maxRecDepth 100000 in
theorem lifted (os : Os) (started : os.Started) (H : Type) (enc : TypeId × Value → H) :
    ReturnsInHanded {} Try.checked os 5 .any (Rows.classShowsSpec.pre6 enc Try.prog Try.f5 Rows.classShowsRow.domain false) (Rows.classShowsSpec.post enc Try.prog Try.f5 false true false false) := by
  refine returnsInHanded_of_change_sized (C := Try.checked) own started (by kernel_rfl) Try.func5
    (ChangeSpec.witness6 (enc := enc) (C := Try.checked) false ⟨#[], #[.agg #[.int .u64 0, .int .u64 0, .int .u64 0, .int .u64 0], .string ByteArray.empty, .string ByteArray.empty], []⟩ 8 (by kernel_rfl) (by kernel_rfl) (by kernel_rfl) (by kernel_rfl)) ?_
  intro W base args ds gs before hval0 hW hcnd hsz0 _
  have hsz : (DataW.weightsEach Try.prog (Try.f5.params.toList ++ Rows.classShowsSpec.plain.varTypes Try.prog) (ds ++ gs)).all (· ≤ reachBytes) = true := hsz0
  have hval : ∀ (j : Nat) t v, Try.f5.params[j]? = some t → args[j]? = some v → Value.okWide Try.prog W .any base t v := hval0
  have hW' := hW
  obtain ⟨p, q, hA0, hV, rfl, hfz, hnd⟩ := hW
  have hA : DataW.TrodAll enc Try.prog W 0 (fun _ => true) true Try.f5.params.toList args.toList ds p := hA0
  rw [Try.params5] at hA hval hsz
  obtain ⟨v0, vs0, d0, ds0, p0, q0, hargs, rfl, rfl, h0, r0⟩ := trodAll_cons hA
  obtain ⟨v1, vs1, d1, ds1, p1, q1, rfl, rfl, rfl, h1, r1⟩ := trodAll_cons r0
  obtain ⟨v2, vs2, d2, ds2, p2, q2, rfl, rfl, rfl, h2, r2⟩ := trodAll_cons r1
  obtain ⟨rfl, rfl, rfl⟩ := trodAll_nil r2
  obtain rfl : args = #[v0, v1, v2] := by cases args; simp_all
  obtain ⟨rfl, rfl⟩ := trodVars_none hV
  have k0 := h0
  have l0 : ∀ x ∈ p0, x.block < W.heap.size := fun x hx => hW'.lt x (by simp [hx])
  obtain ⟨la, ha, rfl, wa⟩ := T.open_arr Try.underlying24 Try.underlying22 (by kernel_rfl) (by kernel_rfl) (by decide) h0
  obtain ⟨s1, rfl, rfl, rfl, y1⟩ := open_string Try.underlying9 (hval 1 9 v1 rfl rfl) h1
  obtain ⟨s2, rfl, rfl, rfl, y2⟩ := open_string Try.underlying9 (hval 2 9 v2 rfl rfl) h2
  have w2 : s2.size ≤ 140737488351232 := by
    have z := sized_string hsz (j := 2) (t := 9) rfl rfl
    rw [Array.length_toList] at z
    exact z
  clear hA0 hval0 hsz0 hsz
  refine (T.walkShows la ha (fun x hx => T.wf_u64 (wa x hx)) s1 s2 w2 W).mono fun e W' ⟨he, bel⟩ => ?_
  subst he
  exact ⟨_, rfl, _, _, _, [], _, [], hW', trodAll_mk1 (shut_bool Try.underlying4 _), (trodAll_cons_mk (Below.trod laid (by kernel_rfl) (of_decide_eq_true (by kernel_rfl)) k0 bel l0) (trodAll_cons_mk (shut_string Try.underlying9 y1) (trodAll_cons_mk (shut_string Try.underlying9 y2) trodAll_mk0))), rfl, bel.frame _, fun h => by cases h⟩
theorem over : Rows.classShowsRow.holds Go.Proofs.Ytdiphholophdcaa.Try.pinned (OpenSpec.ofChange Rows.classShowsSpec) :=
  OpenClaim.holds_of_wide 5 Try.f5 rfl rfl rfl rfl rfl rfl rfl ⟨rfl, rfl, rfl, rfl, rfl⟩ rfl rfl rfl rfl rfl (by kernel_rfl) Try.func5 (by kernel_rfl)
    (of_decide_eq_true (by kernel_rfl)) (by unfold Func.isWrapper; first | (rw [if_pos (by decide +kernel)]; kernel_rfl) | (rw [if_neg (by decide +kernel)]; exact ⟨rfl, rfl⟩))
    (fun os started H enc _ => lifted os started H enc)
end Go.Proofs.Ytdiphholophdcaa.classShows
namespace Go.Proofs.Ytdiphholophdcaa
/-- The row, under a short name, for the claim. -/
theorem classShows_holds : Rows.ClassShowsSaid := classShows.over
#print axioms classShows_holds
end Go.Proofs.Ytdiphholophdcaa


