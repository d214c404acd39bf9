/-
  some answers of the evaluator, by the kernel.
-/
import Derived.KernelRfl
import Derived.Test.YteckonifhmdemaaGreatDoorC0
set_option linter.all false
/-
  Some answers of the evaluator, by the kernel.
-/
namespace Go.Rg
open Go Go.Pv Go.Proofs.Tryz
set_option maxRecDepth 1000000
theorem sf_p (h : H) : (iter C18 2000).call 52 sa_p h = some (sv_p, h) := by kernel_rfl
theorem sf_first (h : H) : (iter C18 2000).call 52 sa_first h = some (sv_first, h) := by kernel_rfl
theorem sf_second (h : H) : (iter C18 2000).call 52 sa_second h = some (sv_second, h) := by kernel_rfl
theorem sf_a (h : H) : (iter C18 2000).call 52 sa_a h = some (sv_a, h) := by kernel_rfl
theorem sf_b (h : H) : (iter C18 2000).call 52 sa_b h = some (sv_b, h) := by kernel_rfl
theorem sf_whole (h : H) : (iter C18 2000).call 52 sa_whole h = some (sv_whole, h) := by kernel_rfl
end Go.Rg
