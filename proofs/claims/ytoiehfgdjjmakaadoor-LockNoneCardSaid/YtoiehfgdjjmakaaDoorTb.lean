/- The program's abstract functions, with the function List and the methods. -/
import Derived.Test.YtoiehfgdjjmakaaDoorTab
import Derived.Test.YtoiehfgdjjmakaaDoorFB
import Derived.Test.YtoiehfgdjjmakaaDoorGA
import Derived.KernelRfl
namespace Go.Ab
open Go
set_option maxRecDepth 100000 in
def T : AProg := { fn := tblFind tbl, prim := fun f => if f = 83 then some listPrim else none, meth := mFind mtab }
theorem T_s : SProg 1 T := sprog_of rfl rfl (by kernel_rfl)
end Go.Ab
