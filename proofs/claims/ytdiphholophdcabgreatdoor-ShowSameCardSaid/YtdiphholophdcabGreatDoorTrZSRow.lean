/- THE STATEMENT ShowSame. No condition. -/
import Derived.Test.YtdiphholophdcabGreatDoorXSAbB4
import Derived.Deep.Upon
import Derived.Carry
import Derived.Test.YtdiphholophdcabGreatDoorXSTrZShelf
import Derived.Test.YtdiphholophdcabGreatDoorTie
import Derived.Test.YtdiphholophdcabGreatDoorCards
import Derived.ProofKit
import Derived.LaidMore
import Derived.Lay
import Derived.Stop.LaidErr
import Derived.OpenShut
import Derived.Stop.Joined
import Derived.SevenTiedAt
import Derived.Lib.LaidTab
set_option linter.all false
open Go Go.Ab
namespace Go.Proofs.YtdiphholophdcabGreatDoor.T
set_option maxRecDepth 100000
theorem tab_eq : @Rows.laid_strings_asciiSpace Unit = Lib.tabData .u8 Lib.asciiSpaceTab := by kernel_rfl
theorem knowOk {W : World} (hsh : W.ShapedOpen Tryz.prog) (hL : laidMetH Tryz.prog Rows.showSameRow.laid W) : KnowOk cx W := by
  intro I ty hI hty
  have hL2 : laidMet Tryz.prog Rows.showSameRow.laid W := by
    rw [MakeChecks.laidMetH_plain _ _ _ (by kernel_rfl)] at hL
    exact hL
  have hT : Lib.TabIs Tryz.prog W "strings.asciiSpace" .u8 Lib.asciiSpaceTab := by
    have h := laidMet.tail (laidMet.tail hL2)
    rw [tab_eq] at h
    exact Lib.tabIs_of_head (g := 4) (by kernel_rfl) (by kernel_rfl) Tryz.underlying214 Tryz.underlying5 (by kernel_rfl) (by kernel_rfl) h
  refine ⟨?_, ?_, fun i hi => hI _ _ _ (hT.cell (by kernel_rfl) i hi)⟩
  · obtain ⟨m, hm⟩ := cell_of_shapedOpen_int (P := Tryz.prog) (g := 1) (t := 3) (zero := #[.int .i64 0]) hsh (of_decide_eq_true (by kernel_rfl)) (by kernel_rfl) rfl (by kernel_rfl) (by kernel_rfl) Tryz.underlying3
    exact ⟨m, hI _ _ _ hm⟩
  · obtain ⟨t, ht⟩ := tyOf_global (P := Tryz.prog) (g := 4) (t := 214) (zero := (List.replicate 256 (Value.int .u8 0)).toArray) hsh (of_decide_eq_true (by kernel_rfl)) (by kernel_rfl)
    exact ⟨t, hty _ _ (by rw [ht, Lib.asciiSpaceTab_length]; simp)⟩
theorem rargs2 {G : Gh} {T : List Nat} {x y : SV} {v u : Value} (h : RS G T x v) (h2 : RS G T y u) : RArgs G T [x, y] #[v, u] := ⟨rfl, fun i h1 h3 => by
  have e : i = 0 ∨ i = 1 := by simp at h1; omega
  rcases e with rfl | rfl
  · exact h
  · exact h2⟩
theorem nd_arg {W : World} {x : Nd} {v : Value} (h : NdAt W x v.cells.toList) : RS (ghost0 W) [] (x.av, .no) v := by
  have hl := h.len
  have hc := h.cell
  have hv : v = .agg v.cells := by
    cases v <;> first | rfl | (simp [Value.cells] at hl; done)
  obtain ⟨k, s, n, a, l, p, rfl⟩ := outN x
  rw [hv]
  refine .no (.agg _ _ (by simpa using hl.symm) fun i h1 h2 => ?_)
  have := (hc i h1 (by simpa using h2)).1
  rw [Array.getElem_toList] at this
  exact this
theorem walkShowSame {W : World} (hsh : W.ShapedOpen Tryz.prog) (hL : laidMetH Tryz.prog Rows.showSameRow.laid W) {x y : Nd} (hx : x.pok) (hy : y.pok) {v u : Value} (h : NdAt W x v.cells.toList) (h2 : NdAt W y u.cells.toList) :
    Calls Tryz.prog 4 #[v, u] W fun e w' => e = .returned (.bool true) ∧ Go.RowKit.Below W.heap.size W w' := by
  have ha := rargs2 (nd_arg h) (nd_arg h2)
  have hwp := showSame_wp x y hx hy
  obtain ⟨k, s, n, a, l, p, rfl⟩ := outN x
  obtain ⟨k2, s2, n2, a2, l2, p2, rfl⟩ := outN y
  exact walk_of_tree (L := lay) fits h4 (args := [((Nd.mk k s n a l p).av, .no), ((Nd.mk k2 s2 n2 a2 l2 p2).av, .no)]) (tg := .no) (S' := ⟨[], []⟩) hwp _ W ⟨fun _ _ h => (by cases h), knowOk hsh hL⟩ ha
theorem laidOut : laidOutB Tryz.prog = true := by kernel_rfl
theorem weigh {H : Type} {t1 t2 : TypeId} {d1 d2 : DataW H} {ts : List TypeId} {gs : List (DataW H)} (h : (DataW.weightsEach Tryz.prog (t1 :: t2 :: ts) (d1 :: d2 :: gs)).all (· ≤ reachBytes) = true) :
    (∀ m ∈ DataW.weights Tryz.prog t1 d1, m ≤ reachBytes) ∧ (∀ m ∈ DataW.weights Tryz.prog t2 d2, m ≤ reachBytes) := by
  simp only [DataW.weightsEach, List.all_append, Bool.and_eq_true, List.all_eq_true, decide_eq_true_eq] at h
  exact ⟨h.1, h.2.1⟩
end Go.Proofs.YtdiphholophdcabGreatDoor.T
namespace Go.Proofs.YtdiphholophdcabGreatDoor.showSame
open Go.ChangeShapes Go.WideShapes Go.ChangeAt Go.RowKit
open Go.ChangeMaps (open_string shut_string)
theorem own : ownKnob Tryz.prog.godebug = none := by kernel_rfl
set_option maxRecDepth 100000 in
theorem lifted (os : Os) (started : os.Started) (H : Type) (enc : TypeId × Value → H) :
    ReturnsInHanded {} Tryz.checked os 4 .any (fun w args => (Rows.showSameSpec.pre enc Tryz.prog Tryz.f4 Rows.showSameRow.domain false w args ∧ laidMetH Tryz.prog Rows.showSameRow.laid w) ∧ sizedMet enc Tryz.prog Tryz.f4 (OpenSpec.ofChange Rows.showSameSpec) false w args)
      (Rows.showSameSpec.post enc Tryz.prog Tryz.f4 false true false false) := by
  refine Go.Ab.returnsInHanded_and_shaped (C := Tryz.checked) (X := fun w _ => laidMetH Tryz.prog Rows.showSameRow.laid w) (fun _ _ _ hh h => h.of_heap hh) own started (by kernel_rfl) Tryz.func4
    (ChangeSpec.witness_shaped (enc := enc) (C := Tryz.checked) (os := os) (X := fun w _ => laidMetH Tryz.prog Rows.showSameRow.laid w) false (World.laidAll Tryz.prog os Rows.showSameRow.laid) #[.agg #[.int .i64 0, .string ByteArray.empty, .int .i64 0, .int .i64 0, .slice none 0 0, .slice none 0 0], .agg #[.int .i64 0, .string ByteArray.empty, .int .i64 0, .int .i64 0, .slice none 0 0, .slice none 0 0]] 8 (World.laidAll_os _ _ _)
      (World.shaped_of_ZipB (by kernel_rfl) (by kernel_rfl)) (by kernel_rfl) (by kernel_rfl) (by kernel_rfl)
      (by rw [MakeChecks.laidMetH_plain _ _ _ (by kernel_rfl)]; exact laidMet_laidAll _ (by kernel_rfl) (by kernel_rfl))) ?_
  intro W base args ds gs before hval0 hW hcnd hsz0 hL hsh _
  have hsz : (DataW.weightsEach Tryz.prog (Tryz.f4.params.toList ++ Rows.showSameSpec.plain.varTypes Tryz.prog) (ds ++ gs)).all (· ≤ reachBytes) = true := hsz0
  have hval : ∀ (j : Nat) t v, Tryz.f4.params[j]? = some t → args[j]? = some v → Value.okWide Tryz.prog W .any base t v := hval0
  have hW' := hW
  obtain ⟨p, q, hA0, hV, rfl, hfz, hnd⟩ := hW
  have hA : DataW.TrodAll enc Tryz.prog W 0 (fun _ => true) true Tryz.f4.params.toList args.toList ds p := hA0
  rw [Tryz.params4] at hA hval hsz
  obtain ⟨v0, vs0, d0, ds0, p0, q0, hargs, rfl, rfl, h0, r0⟩ := trodAll_cons hA
  obtain ⟨v1, vs1, d1, ds1, p1, q1, rfl, rfl, rfl, h1, r1⟩ := trodAll_cons r0
  obtain ⟨rfl, rfl, rfl⟩ := trodAll_nil r1
  obtain rfl : args = #[v0, v1] := by cases args; simp_all
  obtain ⟨rfl, rfl⟩ := trodVars_none hV
  have k0 := h0
  have l0 : ∀ x ∈ p0, x.block < W.heap.size := fun x hx => hW'.lt x (by simp [hx])
  have k1 := h1
  have l1 : ∀ x ∈ p1, x.block < W.heap.size := fun x hx => hW'.lt x (by simp [hx])
  obtain ⟨w0, w1⟩ := T.weigh hsz
  obtain ⟨fu, hfu⟩ := h0
  obtain ⟨fu1, hfu1⟩ := h1
  obtain ⟨x0, hx0, hr0⟩ := T.nd_open fu _ _ hfu w0
  obtain ⟨x1, hx1, hr1⟩ := T.nd_open fu1 _ _ hfu1 w1
  refine (T.walkShowSame hsh hL hx0 hx1 hr0 hr1).mono fun e W' ⟨he, bel⟩ => ?_
  subst he
  exact ⟨_, rfl, _, _, _, [], _, [], hW', trodAll_mk1 (shut_bool Tryz.underlying4 _), (trodAll_cons_mk (Below.trod T.laidOut (by kernel_rfl) (of_decide_eq_true (by kernel_rfl)) k0 bel l0) (trodAll_cons_mk (Below.trod T.laidOut (by kernel_rfl) (of_decide_eq_true (by kernel_rfl)) k1 bel l1) trodAll_mk0)), rfl, bel.frame _, fun h => by cases h⟩
theorem over : Rows.showSameRow.holds Go.Proofs.YtdiphholophdcabGreatDoor.Tryz.pinned (OpenSpec.ofChange Rows.showSameSpec) :=
  OpenClaim.holds_of_wide 4 Tryz.f4 rfl rfl rfl rfl rfl rfl rfl ⟨rfl, rfl, rfl, rfl, rfl⟩ rfl rfl rfl rfl rfl (by kernel_rfl) Tryz.func4 (by kernel_rfl)
    (of_decide_eq_true (by kernel_rfl)) (by unfold Func.isWrapper; first | (rw [if_pos (by decide +kernel)]; kernel_rfl) | (rw [if_neg (by decide +kernel)]; exact ⟨rfl, rfl⟩))
    (fun os started H enc _ => lifted os started H enc)
end Go.Proofs.YtdiphholophdcabGreatDoor.showSame
namespace Go.Proofs.YtdiphholophdcabGreatDoor
/-- THE TIED CARD. -/
theorem showSame_holds : Rows.ShowSameCardSaid :=
  Claim7.holds_tied_plain_at .later [] [.data, .listed, .data, .pinned] true (true, "ea8271113d08cb2a3277a229eadfcb6de50067d10d97bd2d0c34377382f2ea62") true
    showSame.over (fun _ h => by cases h) (by kernel_rfl) (fun _ h => by cases h) showSame_row_tie rfl ⟨rfl, rfl⟩ (by kernel_rfl) rfl
    (fun f fn hf hfn => by
      obtain rfl : f = 4 := Option.some.inj ((show Tryz.prog.funcNamed Rows.showSameRow.func = some 4 by kernel_rfl).symm.trans hf) |>.symm
      obtain rfl : fn = Tryz.f4 := (Option.some.inj (Tryz.func4.symm.trans hfn)).symm
      exact ⟨by kernel_rfl, fun j t ht => by
        rw [Tryz.params4] at ht
        have hm : t ∈ [25] := by simpa using Array.mem_of_getElem? ht
        have hall : ([25].all fun u => !Tryz.prog.wantsStandIn u) = true := by kernel_rfl
        exact (show Tryz.prog.wantsStandIn t = false by simpa using List.all_eq_true.1 hall t hm)⟩)
    (by kernel_rfl)
#print axioms showSame_holds
end Go.Proofs.YtdiphholophdcabGreatDoor


