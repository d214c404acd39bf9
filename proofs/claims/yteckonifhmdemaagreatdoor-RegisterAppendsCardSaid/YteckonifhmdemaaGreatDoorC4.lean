/-
  some answers of the evaluator, by the kernel.
-/
import Derived.KernelRfl
import Derived.Test.YteckonifhmdemaaGreatDoorC0
set_option linter.all false
/-
  Some answers of the evaluator, by the kernel.
-/
namespace Go.Rg
open Go Go.Pv Go.Proofs.Tryz
set_option maxRecDepth 1000000
theorem sf_con3 (h : H) : (iter C18 2000).call 22 sa_con3 h = some (sv_con3, h) := by kernel_rfl
theorem sf_con4 (h : H) : (iter C18 2000).call 22 sa_con4 h = some (sv_con4, h) := by kernel_rfl
theorem sf_gen1 (h : H) : (iter C18 2000).call 40 sa_gen1 h = some (sv_gen1, h) := by kernel_rfl
theorem sf_gen2 (h : H) : (iter C18 2000).call 40 sa_gen2 h = some (sv_gen2, h) := by kernel_rfl
theorem sf_bad (h : H) : (iter C18 2000).call 24 sa_bad h = some (sv_bad, h) := by kernel_rfl
end Go.Rg
