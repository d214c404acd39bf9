/-
  some answers of the evaluator, by the kernel.
-/
import Derived.KernelRfl
import Derived.Test.YteckonifhmdemaaGreatDoorC0
set_option linter.all false
/-
  Some answers of the evaluator, by the kernel.
-/
namespace Go.Rg
open Go Go.Pv Go.Proofs.Tryz
set_option maxRecDepth 1000000
theorem sf_early (h : H) : (iter C18 2000).call 52 sa_early h = some (sv_early, h) := by kernel_rfl
theorem sf_growth (h : H) : (iter C18 2000).call 34 sa_growth h = some (sv_growth, h) := by kernel_rfl
theorem sf_others (h : H) : (iter C18 2000).call 34 sa_others h = some (sv_others, h) := by kernel_rfl
theorem sf_wrong (h : H) : (iter C18 2000).call 34 sa_wrong h = some (sv_wrong, h) := by kernel_rfl
theorem sf_join1 (h : H) : (iter C18 2000).call 26 sa_join1 h = some (sv_join1, h) := by kernel_rfl
theorem sf_join2 (h : H) : (iter C18 2000).call 26 sa_join2 h = some (sv_join2, h) := by kernel_rfl
end Go.Rg
