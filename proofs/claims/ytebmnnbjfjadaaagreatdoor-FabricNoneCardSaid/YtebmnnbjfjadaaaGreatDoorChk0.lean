/- The abstract code is the code of the program: each function is checked. -/
import Derived.Test.YtebmnnbjfjadaaaGreatDoorCode0
import Derived.Test.YtebmnnbjfjadaaaGreatDoorProg
import Derived.KernelRfl
namespace Go.Ab
set_option maxRecDepth 100000
theorem k3 : chkFn Go.Proofs.Tryz.prog 1 3 c3 = true := by kernel_rfl
theorem k4 : chkFn Go.Proofs.Tryz.prog 1 4 c4 = true := by kernel_rfl
theorem k5 : chkFn Go.Proofs.Tryz.prog 1 5 c5 = true := by kernel_rfl
theorem k6 : chkFn Go.Proofs.Tryz.prog 1 6 c6 = true := by kernel_rfl
theorem k7 : chkFn Go.Proofs.Tryz.prog 1 7 c7 = true := by kernel_rfl
theorem k8 : chkFn Go.Proofs.Tryz.prog 1 8 c8 = true := by kernel_rfl
theorem k9 : chkFn Go.Proofs.Tryz.prog 1 9 c9 = true := by kernel_rfl
theorem k10 : chkFn Go.Proofs.Tryz.prog 1 10 c10 = true := by kernel_rfl
theorem k11 : chkFn Go.Proofs.Tryz.prog 1 11 c11 = true := by kernel_rfl
theorem k12 : chkFn Go.Proofs.Tryz.prog 1 12 c12 = true := by kernel_rfl
theorem k13 : chkFn Go.Proofs.Tryz.prog 1 13 c13 = true := by kernel_rfl
theorem k14 : chkFn Go.Proofs.Tryz.prog 1 14 c14 = true := by kernel_rfl
theorem k15 : chkFn Go.Proofs.Tryz.prog 1 15 c15 = true := by kernel_rfl
theorem k16 : chkFn Go.Proofs.Tryz.prog 1 16 c16 = true := by kernel_rfl
theorem k17 : chkFn Go.Proofs.Tryz.prog 1 17 c17 = true := by kernel_rfl
theorem k18 : chkFn Go.Proofs.Tryz.prog 1 18 c18 = true := by kernel_rfl
theorem k19 : chkFn Go.Proofs.Tryz.prog 1 19 c19 = true := by kernel_rfl
theorem k20 : chkFn Go.Proofs.Tryz.prog 1 20 c20 = true := by kernel_rfl
theorem k21 : chkFn Go.Proofs.Tryz.prog 1 21 c21 = true := by kernel_rfl
theorem k22 : chkFn Go.Proofs.Tryz.prog 1 22 c22 = true := by kernel_rfl
theorem k23 : chkFn Go.Proofs.Tryz.prog 1 23 c23 = true := by kernel_rfl
theorem k24 : chkFn Go.Proofs.Tryz.prog 1 24 c24 = true := by kernel_rfl
theorem k25 : chkFn Go.Proofs.Tryz.prog 1 25 c25 = true := by kernel_rfl
theorem k26 : chkFn Go.Proofs.Tryz.prog 1 26 c26 = true := by kernel_rfl
theorem k27 : chkFn Go.Proofs.Tryz.prog 1 27 c27 = true := by kernel_rfl
theorem k28 : chkFn Go.Proofs.Tryz.prog 1 28 c28 = true := by kernel_rfl
theorem k29 : chkFn Go.Proofs.Tryz.prog 1 29 c29 = true := by kernel_rfl
theorem k30 : chkFn Go.Proofs.Tryz.prog 1 30 c30 = true := by kernel_rfl
theorem k31 : chkFn Go.Proofs.Tryz.prog 1 31 c31 = true := by kernel_rfl
theorem k32 : chkFn Go.Proofs.Tryz.prog 1 32 c32 = true := by kernel_rfl
theorem k33 : chkFn Go.Proofs.Tryz.prog 1 33 c33 = true := by kernel_rfl
theorem k34 : chkFn Go.Proofs.Tryz.prog 1 34 c34 = true := by kernel_rfl
theorem k35 : chkFn Go.Proofs.Tryz.prog 1 35 c35 = true := by kernel_rfl
theorem k36 : chkFn Go.Proofs.Tryz.prog 1 36 c36 = true := by kernel_rfl
theorem k37 : chkFn Go.Proofs.Tryz.prog 1 37 c37 = true := by kernel_rfl
theorem k38 : chkFn Go.Proofs.Tryz.prog 1 38 c38 = true := by kernel_rfl
theorem k39 : chkFn Go.Proofs.Tryz.prog 1 39 c39 = true := by kernel_rfl
theorem k40 : chkFn Go.Proofs.Tryz.prog 1 40 c40 = true := by kernel_rfl
theorem k41 : chkFn Go.Proofs.Tryz.prog 1 41 c41 = true := by kernel_rfl
theorem k42 : chkFn Go.Proofs.Tryz.prog 1 42 c42 = true := by kernel_rfl
theorem k43 : chkFn Go.Proofs.Tryz.prog 1 43 c43 = true := by kernel_rfl
theorem k44 : chkFn Go.Proofs.Tryz.prog 1 44 c44 = true := by kernel_rfl
theorem k45 : chkFn Go.Proofs.Tryz.prog 1 45 c45 = true := by kernel_rfl
theorem k46 : chkFn Go.Proofs.Tryz.prog 1 46 c46 = true := by kernel_rfl
theorem k47 : chkFn Go.Proofs.Tryz.prog 1 47 c47 = true := by kernel_rfl
theorem k48 : chkFn Go.Proofs.Tryz.prog 1 48 c48 = true := by kernel_rfl
theorem k49 : chkFn Go.Proofs.Tryz.prog 1 49 c49 = true := by kernel_rfl
theorem k50 : chkFn Go.Proofs.Tryz.prog 1 50 c50 = true := by kernel_rfl
theorem k51 : chkFn Go.Proofs.Tryz.prog 1 51 c51 = true := by kernel_rfl
theorem k52 : chkFn Go.Proofs.Tryz.prog 1 52 c52 = true := by kernel_rfl
theorem k53 : chkFn Go.Proofs.Tryz.prog 1 53 c53 = true := by kernel_rfl
theorem k54 : chkFn Go.Proofs.Tryz.prog 1 54 c54 = true := by kernel_rfl
theorem k55 : chkFn Go.Proofs.Tryz.prog 1 55 c55 = true := by kernel_rfl
theorem k56 : chkFn Go.Proofs.Tryz.prog 1 56 c56 = true := by kernel_rfl
theorem k57 : chkFn Go.Proofs.Tryz.prog 1 57 c57 = true := by kernel_rfl
theorem k58 : chkFn Go.Proofs.Tryz.prog 1 58 c58 = true := by kernel_rfl
theorem k59 : chkFn Go.Proofs.Tryz.prog 1 59 c59 = true := by kernel_rfl
end Go.Ab
