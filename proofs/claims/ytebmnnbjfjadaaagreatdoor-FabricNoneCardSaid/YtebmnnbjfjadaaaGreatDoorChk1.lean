/- The abstract code is the code of the program: each function is checked. -/
import Derived.Test.YtebmnnbjfjadaaaGreatDoorCode1
import Derived.Test.YtebmnnbjfjadaaaGreatDoorProg
import Derived.KernelRfl
namespace Go.Ab
set_option maxRecDepth 100000
theorem k60 : chkFn Go.Proofs.Tryz.prog 1 60 c60 = true := by kernel_rfl
theorem k61 : chkFn Go.Proofs.Tryz.prog 1 61 c61 = true := by kernel_rfl
theorem k62 : chkFn Go.Proofs.Tryz.prog 1 62 c62 = true := by kernel_rfl
theorem k63 : chkFn Go.Proofs.Tryz.prog 1 63 c63 = true := by kernel_rfl
theorem k64 : chkFn Go.Proofs.Tryz.prog 1 64 c64 = true := by kernel_rfl
theorem k65 : chkFn Go.Proofs.Tryz.prog 1 65 c65 = true := by kernel_rfl
theorem k66 : chkFn Go.Proofs.Tryz.prog 1 66 c66 = true := by kernel_rfl
theorem k67 : chkFn Go.Proofs.Tryz.prog 1 67 c67 = true := by kernel_rfl
theorem k68 : chkFn Go.Proofs.Tryz.prog 1 68 c68 = true := by kernel_rfl
theorem k69 : chkFn Go.Proofs.Tryz.prog 1 69 c69 = true := by kernel_rfl
theorem k70 : chkFn Go.Proofs.Tryz.prog 1 70 c70 = true := by kernel_rfl
theorem k71 : chkFn Go.Proofs.Tryz.prog 1 71 c71 = true := by kernel_rfl
theorem k72 : chkFn Go.Proofs.Tryz.prog 1 72 c72 = true := by kernel_rfl
theorem k73 : chkFn Go.Proofs.Tryz.prog 1 73 c73 = true := by kernel_rfl
theorem k74 : chkFn Go.Proofs.Tryz.prog 1 74 c74 = true := by kernel_rfl
theorem k75 : chkFn Go.Proofs.Tryz.prog 1 75 c75 = true := by kernel_rfl
theorem k76 : chkFn Go.Proofs.Tryz.prog 1 76 c76 = true := by kernel_rfl
theorem k77 : chkFn Go.Proofs.Tryz.prog 1 77 c77 = true := by kernel_rfl
theorem k78 : chkFn Go.Proofs.Tryz.prog 1 78 c78 = true := by kernel_rfl
theorem k79 : chkFn Go.Proofs.Tryz.prog 1 79 c79 = true := by kernel_rfl
theorem k80 : chkFn Go.Proofs.Tryz.prog 1 80 c80 = true := by kernel_rfl
theorem k81 : chkFn Go.Proofs.Tryz.prog 1 81 c81 = true := by kernel_rfl
theorem k82 : chkFn Go.Proofs.Tryz.prog 1 82 c82 = true := by kernel_rfl
theorem k83 : chkFn Go.Proofs.Tryz.prog 1 83 c83 = true := by kernel_rfl
theorem k84 : chkFn Go.Proofs.Tryz.prog 1 84 c84 = true := by kernel_rfl
theorem k85 : chkFn Go.Proofs.Tryz.prog 1 85 c85 = true := by kernel_rfl
theorem k86 : chkFn Go.Proofs.Tryz.prog 1 86 c86 = true := by kernel_rfl
theorem k87 : chkFn Go.Proofs.Tryz.prog 1 87 c87 = true := by kernel_rfl
theorem k88 : chkFn Go.Proofs.Tryz.prog 1 88 c88 = true := by kernel_rfl
theorem k89 : chkFn Go.Proofs.Tryz.prog 1 89 c89 = true := by kernel_rfl
theorem k90 : chkFn Go.Proofs.Tryz.prog 1 90 c90 = true := by kernel_rfl
theorem k91 : chkFn Go.Proofs.Tryz.prog 1 91 c91 = true := by kernel_rfl
theorem k92 : chkFn Go.Proofs.Tryz.prog 1 92 c92 = true := by kernel_rfl
theorem k93 : chkFn Go.Proofs.Tryz.prog 1 93 c93 = true := by kernel_rfl
theorem k94 : chkFn Go.Proofs.Tryz.prog 1 94 c94 = true := by kernel_rfl
theorem k95 : chkFn Go.Proofs.Tryz.prog 1 95 c95 = true := by kernel_rfl
theorem k96 : chkFn Go.Proofs.Tryz.prog 1 96 c96 = true := by kernel_rfl
theorem k97 : chkFn Go.Proofs.Tryz.prog 1 97 c97 = true := by kernel_rfl
theorem k98 : chkFn Go.Proofs.Tryz.prog 1 98 c98 = true := by kernel_rfl
theorem k99 : chkFn Go.Proofs.Tryz.prog 1 99 c99 = true := by kernel_rfl
theorem k100 : chkFn Go.Proofs.Tryz.prog 1 100 c100 = true := by kernel_rfl
theorem k101 : chkFn Go.Proofs.Tryz.prog 1 101 c101 = true := by kernel_rfl
theorem k102 : chkFn Go.Proofs.Tryz.prog 1 102 c102 = true := by kernel_rfl
theorem k103 : chkFn Go.Proofs.Tryz.prog 1 103 c103 = true := by kernel_rfl
theorem k104 : chkFn Go.Proofs.Tryz.prog 1 104 c104 = true := by kernel_rfl
theorem k105 : chkFn Go.Proofs.Tryz.prog 1 105 c105 = true := by kernel_rfl
theorem k106 : chkFn Go.Proofs.Tryz.prog 1 106 c106 = true := by kernel_rfl
theorem k107 : chkFn Go.Proofs.Tryz.prog 1 107 c107 = true := by kernel_rfl
theorem k108 : chkFn Go.Proofs.Tryz.prog 1 108 c108 = true := by kernel_rfl
theorem k109 : chkFn Go.Proofs.Tryz.prog 1 109 c109 = true := by kernel_rfl
theorem k110 : chkFn Go.Proofs.Tryz.prog 1 110 c110 = true := by kernel_rfl
theorem k111 : chkFn Go.Proofs.Tryz.prog 1 111 c111 = true := by kernel_rfl
theorem k112 : chkFn Go.Proofs.Tryz.prog 1 112 c112 = true := by kernel_rfl
theorem k113 : chkFn Go.Proofs.Tryz.prog 1 113 c113 = true := by kernel_rfl
end Go.Ab
