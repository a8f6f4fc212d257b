/- The abstract code is the code of the program: each function is checked. -/
import Derived.Test.YtoiehfgdjjmakaaDoorCode1
import Derived.Test.YtoiehfgdjjmakaaDoorProg
import Derived.KernelRfl
namespace Go.Ab
set_option maxRecDepth 100000
theorem k84 : chkFn Go.Proofs.Tryd.prog 1 84 c84 = true := by kernel_rfl
theorem k85 : chkFn Go.Proofs.Tryd.prog 1 85 c85 = true := by kernel_rfl
theorem k86 : chkFn Go.Proofs.Tryd.prog 1 86 c86 = true := by kernel_rfl
theorem k87 : chkFn Go.Proofs.Tryd.prog 1 87 c87 = true := by kernel_rfl
theorem k88 : chkFn Go.Proofs.Tryd.prog 1 88 c88 = true := by kernel_rfl
theorem k89 : chkFn Go.Proofs.Tryd.prog 1 89 c89 = true := by kernel_rfl
theorem k90 : chkFn Go.Proofs.Tryd.prog 1 90 c90 = true := by kernel_rfl
theorem k91 : chkFn Go.Proofs.Tryd.prog 1 91 c91 = true := by kernel_rfl
theorem k92 : chkFn Go.Proofs.Tryd.prog 1 92 c92 = true := by kernel_rfl
theorem k93 : chkFn Go.Proofs.Tryd.prog 1 93 c93 = true := by kernel_rfl
theorem k94 : chkFn Go.Proofs.Tryd.prog 1 94 c94 = true := by kernel_rfl
theorem k95 : chkFn Go.Proofs.Tryd.prog 1 95 c95 = true := by kernel_rfl
theorem k96 : chkFn Go.Proofs.Tryd.prog 1 96 c96 = true := by kernel_rfl
theorem k97 : chkFn Go.Proofs.Tryd.prog 1 97 c97 = true := by kernel_rfl
theorem k98 : chkFn Go.Proofs.Tryd.prog 1 98 c98 = true := by kernel_rfl
theorem k100 : chkFn Go.Proofs.Tryd.prog 1 100 c100 = true := by kernel_rfl
theorem k101 : chkFn Go.Proofs.Tryd.prog 1 101 c101 = true := by kernel_rfl
theorem k102 : chkFn Go.Proofs.Tryd.prog 1 102 c102 = true := by kernel_rfl
theorem k103 : chkFn Go.Proofs.Tryd.prog 1 103 c103 = true := by kernel_rfl
theorem k104 : chkFn Go.Proofs.Tryd.prog 1 104 c104 = true := by kernel_rfl
theorem k105 : chkFn Go.Proofs.Tryd.prog 1 105 c105 = true := by kernel_rfl
theorem k107 : chkFn Go.Proofs.Tryd.prog 1 107 c107 = true := by kernel_rfl
theorem k108 : chkFn Go.Proofs.Tryd.prog 1 108 c108 = true := by kernel_rfl
theorem k109 : chkFn Go.Proofs.Tryd.prog 1 109 c109 = true := by kernel_rfl
theorem k110 : chkFn Go.Proofs.Tryd.prog 1 110 c110 = true := by kernel_rfl
end Go.Ab
