/- THE STATEMENT EreBack. No condition. -/
import Derived.Test.YtdiphholophdcaaDoorXKTrEH1
import Derived.Deep.Upon
import Derived.Carry
import Derived.Test.YtdiphholophdcaaDoorTie
import Derived.Test.YtdiphholophdcaaDoorCards
import Derived.ProofKit
import Derived.LaidMore
import Derived.Stop.LaidErr
import Derived.OpenShut
import Derived.Stop.Joined
import Derived.SevenTiedAt
set_option linter.all false
open Go Go.Ab
namespace Go.Proofs.YtdiphholophdcaaDoor.T
set_option maxRecDepth 100000
theorem knowOk {W : World} : KnowOk cx W := fun _ _ _ _ => trivial
theorem rargs1 {G : Gh} {T : List Nat} {x : SV} {v : Value} (h : RS G T x v) : RArgs G T [x] #[v] := ⟨rfl, fun i h1 h2 => by
  have e : i = 0 := by simp at h1; omega
  subst e
  exact h⟩
theorem re_arg {W : World} {x : Re} {v : Value} (h : ReAt W x v.cells.toList) : RS (ghost0 W) [] (x.av, .no) v := by
  have hl := h.len
  have hc := h.cell
  have hv : v = .agg v.cells := by
    cases v <;> first | rfl | (simp [Value.cells] at hl; done)
  obtain ⟨k, a, b, c, d, mn, mx, l, rfl⟩ := outR x
  rw [hv]
  refine .no (.agg _ _ (by simpa using hl.symm) fun i h1 h2 => ?_)
  have := (hc i h1 (by simpa using h2)).1
  rw [Array.getElem_toList] at this
  exact this
theorem walkEreBack {W : World} {x : Re} (hw : x.words) {v : Value} (h : ReAt W x v.cells.toList) :
    Calls Tryd.prog 7 #[v] W fun e w' => e = .returned (.bool true) ∧ Go.RowKit.Below W.heap.size W w' := by
  have ha := rargs1 (re_arg h)
  have hwp := ereBack_wp x hw
  obtain ⟨k, a, b, c, d, mn, mx, l, rfl⟩ := outR x
  exact walk_of_tree (L := lay) fits h7 (args := [((Re.mk k a b c d mn mx l).av, .no)]) (tg := .no) (S' := ⟨[], []⟩) hwp _ W ⟨fun _ _ h => (by cases h), knowOk⟩ ha
theorem laidOut : laidOutB Tryd.prog = true := by kernel_rfl
end Go.Proofs.YtdiphholophdcaaDoor.T
namespace Go.Proofs.YtdiphholophdcaaDoor.ereBack
open Go.ChangeShapes Go.WideShapes Go.ChangeAt Go.RowKit
open Go.ChangeMaps (open_string shut_string)
theorem own : ownKnob Tryd.prog.godebug = none := by kernel_rfl
/-- the door's own heap meets the condition -/
theorem door_met (os : Os) (args : Array Value) : laidMetH Tryd.prog Rows.ereBackRow.laid ((World.doorLaid Tryd.prog 48 os).forCall (fun _ _ => 0) ⟨#[], args, []⟩).memory :=
  laidMetH_of_parts3 (fuel := 8) (laidMet_of_run' 8 (by kernel_rfl) (by kernel_rfl)) (by kernel_rfl) (by kernel_rfl)
set_option maxRecDepth 100000 in
theorem lifted (os : Os) (started : os.Started) (H : Type) (enc : TypeId × Value → H) :
    ReturnsInHanded {} Tryd.checked os 7 .any (fun w args => (Rows.ereBackSpec.pre enc Tryd.prog Tryd.f7 Rows.ereBackRow.domain false w args ∧ laidMetH Tryd.prog Rows.ereBackRow.laid w) ∧ sizedMet enc Tryd.prog Tryd.f7 (OpenSpec.ofChange Rows.ereBackSpec) false w args)
      (Rows.ereBackSpec.post enc Tryd.prog Tryd.f7 false true false false) := by
  refine Go.Ab.returnsInHanded_and_shaped (C := Tryd.checked) (X := fun w _ => laidMetH Tryd.prog Rows.ereBackRow.laid w) (fun _ _ _ hh h => h.of_heap hh) own started (by kernel_rfl) Tryd.func7
    (ChangeSpec.witness_shaped (enc := enc) (C := Tryd.checked) (os := os) (X := fun w _ => laidMetH Tryd.prog Rows.ereBackRow.laid w) false (World.doorLaid Tryd.prog 48 os) #[.agg #[.int .i64 0, .int .u64 0, .int .u64 0, .int .u64 0, .int .u64 0, .int .i64 0, .int .i64 0, .slice none 0 0]] 8 rfl (World.shaped_of_RefB (by kernel_rfl) (by kernel_rfl)) (by kernel_rfl) (by kernel_rfl) (by kernel_rfl) (door_met os _)) ?_
  intro W base args ds gs before hval0 hW hcnd hsz0 hL hsh _
  have hsz : (DataW.weightsEach Tryd.prog (Tryd.f7.params.toList ++ Rows.ereBackSpec.plain.varTypes Tryd.prog) (ds ++ gs)).all (· ≤ reachBytes) = true := hsz0
  have hval : ∀ (j : Nat) t v, Tryd.f7.params[j]? = some t → args[j]? = some v → Value.okWide Tryd.prog W .any base t v := hval0
  have hW' := hW
  obtain ⟨p, q, hA0, hV, rfl, hfz, hnd⟩ := hW
  have hA : DataW.TrodAll enc Tryd.prog W 0 (fun _ => true) true Tryd.f7.params.toList args.toList ds p := hA0
  rw [Tryd.params7] at hA hval hsz
  obtain ⟨v0, vs0, d0, ds0, p0, q0, hargs, rfl, rfl, h0, r0⟩ := trodAll_cons hA
  obtain ⟨rfl, rfl, rfl⟩ := trodAll_nil r0
  obtain rfl : args = #[v0] := by cases args; simp_all
  obtain ⟨rfl, rfl⟩ := trodVars_none hV
  have k0 := h0
  have l0 : ∀ x ∈ p0, x.block < W.heap.size := fun x hx => hW'.lt x (by simp [hx])
  obtain ⟨fu, hfu⟩ := h0
  obtain ⟨x0, hx0, hr0⟩ := T.re_open fu _ _ hfu
  refine (T.walkEreBack hx0 hr0).mono fun e W' ⟨he, bel⟩ => ?_
  subst he
  exact ⟨_, rfl, _, _, _, [], _, [], hW', trodAll_mk1 (shut_bool Tryd.underlying4 _), (trodAll_cons_mk (Below.trod T.laidOut (by kernel_rfl) (of_decide_eq_true (by kernel_rfl)) k0 bel l0) trodAll_mk0), rfl, bel.frame _, fun h => by cases h⟩
theorem over : Rows.ereBackRow.holds Go.Proofs.YtdiphholophdcaaDoor.Tryd.pinned (OpenSpec.ofChange Rows.ereBackSpec) :=
  OpenClaim.holds_of_wide 7 Tryd.f7 rfl rfl rfl rfl rfl rfl rfl ⟨rfl, rfl, rfl, rfl, rfl⟩ rfl rfl rfl rfl rfl (by kernel_rfl) Tryd.func7 (by kernel_rfl)
    (of_decide_eq_true (by kernel_rfl)) (by unfold Func.isWrapper; first | (rw [if_pos (by decide +kernel)]; kernel_rfl) | (rw [if_neg (by decide +kernel)]; exact ⟨rfl, rfl⟩))
    (fun os started H enc _ => lifted os started H enc)
end Go.Proofs.YtdiphholophdcaaDoor.ereBack
namespace Go.Proofs.YtdiphholophdcaaDoor
/-- THE TIED CARD. -/
theorem ereBack_holds : Rows.EreBackCardSaid :=
  Claim7.holds_tied_plain_at .later [] [.data, .data, .data] true (true, "350c0e4d6bf826b623e914e7767bec0860582de50f42811b05effc9990174ea7") true
    ereBack.over (fun _ h => by cases h) (by kernel_rfl) (fun _ h => by cases h) ereBack_row_tie rfl ⟨rfl, rfl⟩ (by kernel_rfl) rfl
    (fun f fn hf hfn => by
      obtain rfl : f = 7 := Option.some.inj ((show Tryd.prog.funcNamed Rows.ereBackRow.func = some 7 by kernel_rfl).symm.trans hf) |>.symm
      obtain rfl : fn = Tryd.f7 := (Option.some.inj (Tryd.func7.symm.trans hfn)).symm
      exact ⟨by kernel_rfl, fun j t ht => by
        rw [Tryd.params7] at ht
        have hm : t ∈ [36] := by simpa using Array.mem_of_getElem? ht
        have hall : ([36].all fun u => !Tryd.prog.wantsStandIn u) = true := by kernel_rfl
        exact (show Tryd.prog.wantsStandIn t = false by simpa using List.all_eq_true.1 hall t hm)⟩)
    (by kernel_rfl)
#print axioms ereBack_holds
end Go.Proofs.YtdiphholophdcaaDoor


