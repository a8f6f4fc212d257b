/- The abstract code is the code of the program: each function is checked. -/
import Derived.Test.YtoiehfgdjjmakaaDoorCode0
import Derived.Test.YtoiehfgdjjmakaaDoorProg
import Derived.KernelRfl
namespace Go.Ab
set_option maxRecDepth 100000
theorem k4 : chkFn Go.Proofs.Tryd.prog 1 4 c4 = true := by kernel_rfl
theorem k8 : chkFn Go.Proofs.Tryd.prog 1 8 c8 = true := by kernel_rfl
theorem k9 : chkFn Go.Proofs.Tryd.prog 1 9 c9 = true := by kernel_rfl
theorem k10 : chkFn Go.Proofs.Tryd.prog 1 10 c10 = true := by kernel_rfl
theorem k12 : chkFn Go.Proofs.Tryd.prog 1 12 c12 = true := by kernel_rfl
theorem k14 : chkFn Go.Proofs.Tryd.prog 1 14 c14 = true := by kernel_rfl
theorem k15 : chkFn Go.Proofs.Tryd.prog 1 15 c15 = true := by kernel_rfl
theorem k16 : chkFn Go.Proofs.Tryd.prog 1 16 c16 = true := by kernel_rfl
theorem k18 : chkFn Go.Proofs.Tryd.prog 1 18 c18 = true := by kernel_rfl
theorem k20 : chkFn Go.Proofs.Tryd.prog 1 20 c20 = true := by kernel_rfl
theorem k22 : chkFn Go.Proofs.Tryd.prog 1 22 c22 = true := by kernel_rfl
theorem k25 : chkFn Go.Proofs.Tryd.prog 1 25 c25 = true := by kernel_rfl
theorem k27 : chkFn Go.Proofs.Tryd.prog 1 27 c27 = true := by kernel_rfl
theorem k28 : chkFn Go.Proofs.Tryd.prog 1 28 c28 = true := by kernel_rfl
theorem k29 : chkFn Go.Proofs.Tryd.prog 1 29 c29 = true := by kernel_rfl
theorem k30 : chkFn Go.Proofs.Tryd.prog 1 30 c30 = true := by kernel_rfl
theorem k31 : chkFn Go.Proofs.Tryd.prog 1 31 c31 = true := by kernel_rfl
theorem k32 : chkFn Go.Proofs.Tryd.prog 1 32 c32 = true := by kernel_rfl
theorem k33 : chkFn Go.Proofs.Tryd.prog 1 33 c33 = true := by kernel_rfl
theorem k35 : chkFn Go.Proofs.Tryd.prog 1 35 c35 = true := by kernel_rfl
theorem k36 : chkFn Go.Proofs.Tryd.prog 1 36 c36 = true := by kernel_rfl
theorem k37 : chkFn Go.Proofs.Tryd.prog 1 37 c37 = true := by kernel_rfl
theorem k38 : chkFn Go.Proofs.Tryd.prog 1 38 c38 = true := by kernel_rfl
theorem k39 : chkFn Go.Proofs.Tryd.prog 1 39 c39 = true := by kernel_rfl
theorem k40 : chkFn Go.Proofs.Tryd.prog 1 40 c40 = true := by kernel_rfl
theorem k41 : chkFn Go.Proofs.Tryd.prog 1 41 c41 = true := by kernel_rfl
theorem k42 : chkFn Go.Proofs.Tryd.prog 1 42 c42 = true := by kernel_rfl
theorem k43 : chkFn Go.Proofs.Tryd.prog 1 43 c43 = true := by kernel_rfl
theorem k44 : chkFn Go.Proofs.Tryd.prog 1 44 c44 = true := by kernel_rfl
theorem k45 : chkFn Go.Proofs.Tryd.prog 1 45 c45 = true := by kernel_rfl
theorem k46 : chkFn Go.Proofs.Tryd.prog 1 46 c46 = true := by kernel_rfl
theorem k48 : chkFn Go.Proofs.Tryd.prog 1 48 c48 = true := by kernel_rfl
theorem k50 : chkFn Go.Proofs.Tryd.prog 1 50 c50 = true := by kernel_rfl
theorem k52 : chkFn Go.Proofs.Tryd.prog 1 52 c52 = true := by kernel_rfl
theorem k54 : chkFn Go.Proofs.Tryd.prog 1 54 c54 = true := by kernel_rfl
theorem k55 : chkFn Go.Proofs.Tryd.prog 1 55 c55 = true := by kernel_rfl
theorem k56 : chkFn Go.Proofs.Tryd.prog 1 56 c56 = true := by kernel_rfl
theorem k58 : chkFn Go.Proofs.Tryd.prog 1 58 c58 = true := by kernel_rfl
theorem k59 : chkFn Go.Proofs.Tryd.prog 1 59 c59 = true := by kernel_rfl
theorem k60 : chkFn Go.Proofs.Tryd.prog 1 60 c60 = true := by kernel_rfl
theorem k61 : chkFn Go.Proofs.Tryd.prog 1 61 c61 = true := by kernel_rfl
theorem k62 : chkFn Go.Proofs.Tryd.prog 1 62 c62 = true := by kernel_rfl
theorem k63 : chkFn Go.Proofs.Tryd.prog 1 63 c63 = true := by kernel_rfl
theorem k64 : chkFn Go.Proofs.Tryd.prog 1 64 c64 = true := by kernel_rfl
theorem k65 : chkFn Go.Proofs.Tryd.prog 1 65 c65 = true := by kernel_rfl
theorem k66 : chkFn Go.Proofs.Tryd.prog 1 66 c66 = true := by kernel_rfl
theorem k67 : chkFn Go.Proofs.Tryd.prog 1 67 c67 = true := by kernel_rfl
theorem k68 : chkFn Go.Proofs.Tryd.prog 1 68 c68 = true := by kernel_rfl
theorem k69 : chkFn Go.Proofs.Tryd.prog 1 69 c69 = true := by kernel_rfl
theorem k70 : chkFn Go.Proofs.Tryd.prog 1 70 c70 = true := by kernel_rfl
theorem k71 : chkFn Go.Proofs.Tryd.prog 1 71 c71 = true := by kernel_rfl
theorem k72 : chkFn Go.Proofs.Tryd.prog 1 72 c72 = true := by kernel_rfl
theorem k73 : chkFn Go.Proofs.Tryd.prog 1 73 c73 = true := by kernel_rfl
theorem k74 : chkFn Go.Proofs.Tryd.prog 1 74 c74 = true := by kernel_rfl
theorem k75 : chkFn Go.Proofs.Tryd.prog 1 75 c75 = true := by kernel_rfl
theorem k76 : chkFn Go.Proofs.Tryd.prog 1 76 c76 = true := by kernel_rfl
theorem k77 : chkFn Go.Proofs.Tryd.prog 1 77 c77 = true := by kernel_rfl
theorem k78 : chkFn Go.Proofs.Tryd.prog 1 78 c78 = true := by kernel_rfl
theorem k79 : chkFn Go.Proofs.Tryd.prog 1 79 c79 = true := by kernel_rfl
theorem k80 : chkFn Go.Proofs.Tryd.prog 1 80 c80 = true := by kernel_rfl
theorem k81 : chkFn Go.Proofs.Tryd.prog 1 81 c81 = true := by kernel_rfl
theorem k82 : chkFn Go.Proofs.Tryd.prog 1 82 c82 = true := by kernel_rfl
end Go.Ab
