/-
  some answers of the evaluator, by the kernel.
-/
import Derived.KernelRfl
import Derived.Test.YteckonifhmdemaaGreatDoorC0
set_option linter.all false
/-
  Some answers of the evaluator, by the kernel.
-/
namespace Go.Rg
open Go Go.Pv Go.Proofs.Tryz
set_option maxRecDepth 1000000
theorem sf_ext1 (h : H) : (iter C18 2000).call 35 sa_ext1 h = some (sv_ext1, h) := by kernel_rfl
theorem sf_ext2 (h : H) : (iter C18 2000).call 35 sa_ext2 h = some (sv_ext2, h) := by kernel_rfl
theorem sf_ext3 (h : H) : (iter C18 2000).call 35 sa_ext3 h = some (sv_ext3, h) := by kernel_rfl
theorem sf_con1 (h : H) : (iter C18 2000).call 22 sa_con1 h = some (sv_con1, h) := by kernel_rfl
theorem sf_con2 (h : H) : (iter C18 2000).call 22 sa_con2 h = some (sv_con2, h) := by kernel_rfl
end Go.Rg
