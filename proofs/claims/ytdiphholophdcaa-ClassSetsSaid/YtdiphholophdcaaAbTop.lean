import Derived.Test.YtdiphholophdcaaAbDraw4
set_option linter.unusedVariables false
set_option linter.unusedSimpArgs false
/- FROM THE PURE RUN TO THE ROW's WALK. -/
namespace Go.Ab
open Go.RowKit

/-- the ghost of a world in which all that is there stays as it is -/
def ghost0 (W : World) : Gh := ⟨[], fun d o => W.cell? ⟨d, o, none⟩, []⟩
def GlobOk (c : Ctx) (W : World) : Prop := ∀ (g : Nat) (cs : List AV), c.glob g = some cs → R (ghost0 W) (.iptr cs) (.pointer (some ⟨g, 0, none⟩)) ∧ (AV.iptr cs).low 0 = true

theorem inv0 {c : Ctx} {W : World} (h : GlobOk c W) : Inv c ⟨(· < W.heap.size), (ghost0 W).I⟩ W (ghost0 W) ⟨[], []⟩ W where
  below := .refl _ _
  base := fun d hd h => Nat.lt_irrefl d (Nat.lt_of_lt_of_le h hd)
  iD := fun _ _ _ => rfl
  lenφ := rfl
  lenO := rfl
  inj := fun i j d h => by simp [ghost0] at h
  low := fun b cells h => by simp at h
  tag := fun b cells h => by simp at h
  blk := fun b d cells h => by simp at h
  imm := fun d o v h => ⟨h, fun b hb => by simp [ghost0] at hb⟩
  own := fun id ow h => by simp [ghost0] at h
  dis := fun i j oi oj d o o' _ h => by simp [ghost0] at h
  glob := h

/-- WHAT A ROW's WALK ASKS. -/
theorem walk_of_run {c : Ctx} {call : CallFn} (hs : CallSound c call) {f : FuncId} {args : List SV} {tg : Tag} {S' : St} (h : call f args ⟨[], []⟩ = some (.ret (.bool true, tg), S')) {fn : Func} {k : Code} (hf : c.P.funcs[f]? = some fn) (hb : fn.body = some k)
    (hn : (fn.name == "runtime.NumGoroutine") = false) (vs : Array Value) (W : World) (hg : GlobOk c W) (ha : RArgs (ghost0 W) [] args vs) : Calls c.P f vs W fun e w' => e = .returned (.bool true) ∧ Below W.heap.size W w' := by
  rcases hs f args _ _ _ h ⟨(· < W.heap.size), (ghost0 W).I⟩ W (ghost0 W) W vs (inv0 hg) ha with ⟨_, hc⟩ | ⟨v, w', hr, _⟩
  · refine hc.mono fun e w' ⟨G', i', _, ho⟩ => ?_
    cases e with
    | returned v =>
      have h1 : R G' (.bool true) v := ho.1
      cases h1
      exact ⟨rfl, i'.below.os, i'.below.tape, i'.below.output, i'.below.size, i'.below.block⟩
    | panicked => exact ho.elim
    | outgrown => exact ho.elim
  · rw [enter_run hf hn hb] at hr; cases hr

theorem str_arg (G : Gh) (T : List Nat) (s : ByteArray) : RS G T (.str s.data.toList, .no) (.string s) := by
  have h : R G (.str s.data.toList) (.string ⟨⟨s.data.toList⟩⟩) := .str _
  exact .no h
end Go.Ab
