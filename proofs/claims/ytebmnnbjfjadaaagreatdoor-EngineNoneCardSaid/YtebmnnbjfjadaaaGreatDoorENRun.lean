/- EngineNone, at any thread and any call: true. -/
import Derived.Test.YtebmnnbjfjadaaaGreatDoorOk
import Derived.Test.YtebmnnbjfjadaaaGreatDoorFu
import Derived.KernelRfl
namespace Go.Ab
open Go
theorem none_run1 (t op n : Int) : isTrue (evFn T 100 3 [.int .i64 t, .agg #[.int .i64 op, .int .i64 n, .slice none 0 0]] ⟨H1.tr, 1, 1⟩) = true := by kernel_rfl
theorem none_run2 (t op n : Int) (len : Nat) : isTrue (evFn T 100 3 [.int .i64 t, .agg #[.int .i64 op, .int .i64 n, .slice (some ⟨1, 0, none⟩) len len]] ⟨H1.tr, 2, 2⟩) = true := by kernel_rfl
end Go.Ab
