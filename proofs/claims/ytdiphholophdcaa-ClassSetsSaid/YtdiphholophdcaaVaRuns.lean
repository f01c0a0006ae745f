import Derived.Test.YtdiphholophdcaaVaBase
set_option linter.unusedVariables false
set_option linter.unusedSimpArgs false
namespace Go.Proofs.Ytdiphholophdcaa.V
open Go Go.Ab
theorem run18_0 : Ctx.call cx noPre (fun _ => none) 400 18 [(.str (nm 0), .no)] ⟨[], []⟩ = some (.ret (.tup [setOf (wds 0), .bool true], .agg [.no, .no]), ⟨[], []⟩) := by kernel_rfl
theorem run18_1 : Ctx.call cx noPre (fun _ => none) 400 18 [(.str (nm 1), .no)] ⟨[], []⟩ = some (.ret (.tup [setOf (wds 1), .bool true], .agg [.no, .no]), ⟨[], []⟩) := by kernel_rfl
theorem run18_2 : Ctx.call cx noPre (fun _ => none) 400 18 [(.str (nm 2), .no)] ⟨[], []⟩ = some (.ret (.tup [setOf (wds 2), .bool true], .agg [.no, .no]), ⟨[], []⟩) := by kernel_rfl
theorem run18_3 : Ctx.call cx noPre (fun _ => none) 400 18 [(.str (nm 3), .no)] ⟨[], []⟩ = some (.ret (.tup [setOf (wds 3), .bool true], .agg [.no, .no]), ⟨[], []⟩) := by kernel_rfl
theorem run18_4 : Ctx.call cx noPre (fun _ => none) 400 18 [(.str (nm 4), .no)] ⟨[], []⟩ = some (.ret (.tup [setOf (wds 4), .bool true], .agg [.no, .no]), ⟨[], []⟩) := by kernel_rfl
theorem run18_5 : Ctx.call cx noPre (fun _ => none) 400 18 [(.str (nm 5), .no)] ⟨[], []⟩ = some (.ret (.tup [setOf (wds 5), .bool true], .agg [.no, .no]), ⟨[], []⟩) := by kernel_rfl
theorem run18_6 : Ctx.call cx noPre (fun _ => none) 400 18 [(.str (nm 6), .no)] ⟨[], []⟩ = some (.ret (.tup [setOf (wds 6), .bool true], .agg [.no, .no]), ⟨[], []⟩) := by kernel_rfl
theorem run18_7 : Ctx.call cx noPre (fun _ => none) 400 18 [(.str (nm 7), .no)] ⟨[], []⟩ = some (.ret (.tup [setOf (wds 7), .bool true], .agg [.no, .no]), ⟨[], []⟩) := by kernel_rfl
theorem run18_8 : Ctx.call cx noPre (fun _ => none) 400 18 [(.str (nm 8), .no)] ⟨[], []⟩ = some (.ret (.tup [setOf (wds 8), .bool true], .agg [.no, .no]), ⟨[], []⟩) := by kernel_rfl
theorem run18_9 : Ctx.call cx noPre (fun _ => none) 400 18 [(.str (nm 9), .no)] ⟨[], []⟩ = some (.ret (.tup [setOf (wds 9), .bool true], .agg [.no, .no]), ⟨[], []⟩) := by kernel_rfl
theorem run18_10 : Ctx.call cx noPre (fun _ => none) 400 18 [(.str (nm 10), .no)] ⟨[], []⟩ = some (.ret (.tup [setOf (wds 10), .bool true], .agg [.no, .no]), ⟨[], []⟩) := by kernel_rfl
theorem run18_11 : Ctx.call cx noPre (fun _ => none) 400 18 [(.str (nm 11), .no)] ⟨[], []⟩ = some (.ret (.tup [setOf (wds 11), .bool true], .agg [.no, .no]), ⟨[], []⟩) := by kernel_rfl
theorem run9 : Ctx.call cx noPre (fun _ => none) 400 9 [] ⟨[], []⟩ = some (.ret (.bool true, .no), ⟨[], []⟩) := by kernel_rfl
end Go.Proofs.Ytdiphholophdcaa.V
