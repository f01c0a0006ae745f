/- THE STATEMENT LexOrder: tokens' places rise, and each token stands where it says, but for texts and patterns. No condition. -/
import Derived.Test.YtdiphholophdcaaDoorXTrLO
import Derived.Test.YtdiphholophdcaaDoorTie
import Derived.Test.YtdiphholophdcaaDoorCards
import Derived.ProofKit
import Derived.LaidMore
import Derived.Stop.LaidErr
import Derived.OpenShut
import Derived.Stop.Joined
import Derived.SevenTiedAt
set_option linter.all false
open Go Go.Ab
namespace Go.Proofs.YtdiphholophdcaaDoor.T
set_option maxRecDepth 100000
theorem tab_eq : @Rows.laid_strings_asciiSpace Unit = Lib.tabData .u8 Lib.asciiSpaceTab := by kernel_rfl
theorem knowOk {W : World} (hsh : W.ShapedOpen Tryd.prog) (hL : laidMetH Tryd.prog [("unicode.White_Space", Rows.laid_unicode_White_Space), ("strings.asciiSpace", Rows.laid_strings_asciiSpace)] W) : KnowOk cx W := by
  intro I ty hI hty
  have hL2 : laidMet Tryd.prog [("unicode.White_Space", Rows.laid_unicode_White_Space), ("strings.asciiSpace", Rows.laid_strings_asciiSpace)] W := by
    rw [MakeChecks.laidMetH_plain _ _ _ (by kernel_rfl)] at hL
    exact hL
  have hT : Lib.TabIs Tryd.prog W "strings.asciiSpace" .u8 Lib.asciiSpaceTab := by
    have h := laidMet.tail hL2
    rw [tab_eq] at h
    exact Lib.tabIs_of_head (g := 0) (by kernel_rfl) (by kernel_rfl) Tryd.underlying103 Tryd.underlying5 (by kernel_rfl) (by kernel_rfl) h
  refine ⟨?_, ?_, fun i hi => hI _ _ _ (hT.cell (by kernel_rfl) i hi)⟩
  · obtain ⟨m, hm⟩ := cell_of_shapedOpen_int (P := Tryd.prog) (g := 1) (t := 3) (zero := #[.int .i64 0]) hsh (of_decide_eq_true (by kernel_rfl)) (by kernel_rfl) rfl (by kernel_rfl) (by kernel_rfl) Tryd.underlying3
    exact ⟨m, hI _ _ _ hm⟩
  · obtain ⟨t, ht⟩ := tyOf_global (P := Tryd.prog) (g := 0) (t := 103) (zero := (List.replicate 256 (Value.int .u8 0)).toArray) hsh (of_decide_eq_true (by kernel_rfl)) (by kernel_rfl)
    exact ⟨t, hty _ _ (by rw [ht, Lib.asciiSpaceTab_length]; simp)⟩
theorem rargs1 {G : Gh} {T : List Nat} {x : SV} {v : Value} (h : RS G T x v) : RArgs G T [x] #[v] := ⟨rfl, fun i h1 h2 => by
  have e : i = 0 := by simp at h1; omega
  subst e
  exact h⟩
theorem walkLexOrder (W : World) (hsh : W.ShapedOpen Tryd.prog) (hL : laidMetH Tryd.prog [("unicode.White_Space", Rows.laid_unicode_White_Space), ("strings.asciiSpace", Rows.laid_strings_asciiSpace)] W) (a : ByteArray) (ha : a.size ≤ 140737488351232) :
    Calls Tryd.prog 3 #[.string a] W fun e w' => e = .returned (.bool true) ∧ Go.RowKit.Below W.heap.size W w' :=
  walk_of_tree (L := lay) fits h3 (args := [(.str a.data.toList, .no)]) (tg := .no) (S' := ⟨[], []⟩) (lexOrder_wp a.data.toList (by rw [show a.data.toList.length = a.size from by cases a; exact Array.length_toList]; exact Nat.le_trans ha (by decide))) _ W ⟨fun _ _ h => (by cases h), knowOk hsh hL⟩ (rargs1 (str_arg _ _ a))
end Go.Proofs.YtdiphholophdcaaDoor.T
namespace Go.Proofs.YtdiphholophdcaaDoor.lexOrder
open Go.ChangeShapes Go.WideShapes Go.ChangeAt Go.RowKit
open Go.ChangeMaps (open_string shut_string)
theorem own : ownKnob Tryd.prog.godebug = none := by kernel_rfl
/-- the door's own heap meets the condition -/
theorem door_met (os : Os) (args : Array Value) : laidMetH Tryd.prog Rows.lexOrderRow.laid ((World.doorLaid Tryd.prog 48 os).forCall (fun _ _ => 0) ⟨#[], args, []⟩).memory :=
  laidMetH_of_parts3 (fuel := 8) (laidMet_of_run' 8 (by kernel_rfl) (by kernel_rfl)) (by kernel_rfl) (by kernel_rfl)
set_option maxRecDepth 100000 in
theorem lifted (os : Os) (started : os.Started) (H : Type) (enc : TypeId × Value → H) :
    ReturnsInHanded {} Tryd.checked os 3 .any (fun w args => (Rows.lexOrderSpec.pre enc Tryd.prog Tryd.f3 Rows.lexOrderRow.domain false w args ∧ laidMetH Tryd.prog Rows.lexOrderRow.laid w) ∧ sizedMet enc Tryd.prog Tryd.f3 (OpenSpec.ofChange Rows.lexOrderSpec) false w args)
      (Rows.lexOrderSpec.post enc Tryd.prog Tryd.f3 false true false false) := by
  refine Go.Ab.returnsInHanded_and_shaped (C := Tryd.checked) (X := fun w _ => laidMetH Tryd.prog Rows.lexOrderRow.laid w) (fun _ _ _ hh h => h.of_heap hh) own started (by kernel_rfl) Tryd.func3
    (ChangeSpec.witness_shaped (enc := enc) (C := Tryd.checked) (os := os) (X := fun w _ => laidMetH Tryd.prog Rows.lexOrderRow.laid w) false (World.doorLaid Tryd.prog 48 os) #[.string ByteArray.empty] 8 rfl (World.shaped_of_RefB (by kernel_rfl) (by kernel_rfl)) (by kernel_rfl) (by kernel_rfl) (by kernel_rfl) (door_met os _)) ?_
  intro W base args ds gs before hval0 hW hcnd hsz0 hL hsh _
  have hsz : (DataW.weightsEach Tryd.prog (Tryd.f3.params.toList ++ Rows.lexOrderSpec.plain.varTypes Tryd.prog) (ds ++ gs)).all (· ≤ reachBytes) = true := hsz0
  have hval : ∀ (j : Nat) t v, Tryd.f3.params[j]? = some t → args[j]? = some v → Value.okWide Tryd.prog W .any base t v := hval0
  have hW' := hW
  obtain ⟨p, q, hA0, hV, rfl, hfz, hnd⟩ := hW
  have hA : DataW.TrodAll enc Tryd.prog W 0 (fun _ => true) true Tryd.f3.params.toList args.toList ds p := hA0
  rw [Tryd.params3] at hA hval hsz
  obtain ⟨v0, vs0, d0, ds0, p0, q0, hargs, rfl, rfl, h0, r0⟩ := trodAll_cons hA
  obtain ⟨rfl, rfl, rfl⟩ := trodAll_nil r0
  obtain rfl : args = #[v0] := by cases args; simp_all
  obtain ⟨rfl, rfl⟩ := trodVars_none hV
  obtain ⟨a0, rfl, rfl, rfl, y0⟩ := open_string Tryd.underlying9 (hval 0 9 v0 rfl rfl) h0
  have w0 : a0.size ≤ 140737488351232 := by
    have z := sized_string hsz (j := 0) (t := 9) rfl rfl
    rw [Array.length_toList] at z
    exact z
  clear hA0 hval0 hsz0 hsz
  refine (T.walkLexOrder W hsh hL a0 w0).mono fun e W' ⟨he, bel⟩ => ?_
  subst he
  exact ⟨_, rfl, _, _, _, [], _, [], hW', trodAll_mk1 (shut_bool Tryd.underlying4 _), (trodAll_cons_mk (shut_string Tryd.underlying9 y0) trodAll_mk0), rfl, bel.frame _, fun h => by cases h⟩
theorem over : Rows.lexOrderRow.holds Go.Proofs.YtdiphholophdcaaDoor.Tryd.pinned (OpenSpec.ofChange Rows.lexOrderSpec) :=
  OpenClaim.holds_of_wide 3 Tryd.f3 rfl rfl rfl rfl rfl rfl rfl ⟨rfl, rfl, rfl, rfl, rfl⟩ rfl rfl rfl rfl rfl (by kernel_rfl) Tryd.func3 (by kernel_rfl)
    (of_decide_eq_true (by kernel_rfl)) (by unfold Func.isWrapper; first | (rw [if_pos (by decide +kernel)]; kernel_rfl) | (rw [if_neg (by decide +kernel)]; exact ⟨rfl, rfl⟩))
    (fun os started H enc _ => lifted os started H enc)
end Go.Proofs.YtdiphholophdcaaDoor.lexOrder
namespace Go.Proofs.YtdiphholophdcaaDoor
/-- THE TIED CARD. -/
theorem lexOrder_holds : Rows.LexOrderCardSaid :=
  Claim7.holds_tied_plain_at .later [] [.listed, .data] true (true, "350c0e4d6bf826b623e914e7767bec0860582de50f42811b05effc9990174ea7") true
    lexOrder.over (fun _ h => by cases h) (by kernel_rfl) (fun _ h => by cases h) lexOrder_row_tie rfl ⟨rfl, rfl⟩ (by kernel_rfl) rfl
    (fun f fn hf hfn => by
      obtain rfl : f = 3 := Option.some.inj ((show Tryd.prog.funcNamed Rows.lexOrderRow.func = some 3 by kernel_rfl).symm.trans hf) |>.symm
      obtain rfl : fn = Tryd.f3 := (Option.some.inj (Tryd.func3.symm.trans hfn)).symm
      exact ⟨by kernel_rfl, fun j t ht => by
        rw [Tryd.params3] at ht
        have hm : t ∈ [9] := by simpa using Array.mem_of_getElem? ht
        have hall : ([9].all fun u => !Tryd.prog.wantsStandIn u) = true := by kernel_rfl
        exact (show Tryd.prog.wantsStandIn t = false by simpa using List.all_eq_true.1 hall t hm)⟩)
    (by kernel_rfl)
#print axioms lexOrder_holds
end Go.Proofs.YtdiphholophdcaaDoor

