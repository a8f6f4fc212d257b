/- Each function of the table is the program's. -/
import Derived.Test.YtoiehfgdjjmakaaDoorChk0
import Derived.Test.YtoiehfgdjjmakaaDoorChk1
import Derived.Test.YtoiehfgdjjmakaaDoorTab
import Derived.Test.YtoiehfgdjjmakaaDoorFB
import Derived.KernelRfl
namespace Go.Ab
set_option maxRecDepth 100000
theorem tblOk : allOk Go.Proofs.Tryd.prog 1 tbl := ⟨k4, k8, k9, k10, k12, k14, k15, k16, k18, k20, k22, k25, k27, k28, k29, k30, k31, k32, k33, k35, k36, k37, k38, k39, k40, k41, k42, k43, k44, k45, k46, k48, k50, k52, k54, k55, k56, k58, k59, k60, k61, k62, k63, k64, k65, k66, k67, k68, k69, k70, k71, k72, k73, k74, k75, k76, k77, k78, k79, k80, k81, k82, k84, k85, k86, k87, k88, k89, k90, k91, k92, k93, k94, k95, k96, k97, k98, k100, k101, k102, k103, k104, k105, k107, k108, k109, k110, trivial⟩
theorem mtabOk : mAll Go.Proofs.Tryd.prog mtab := trivial
end Go.Ab
