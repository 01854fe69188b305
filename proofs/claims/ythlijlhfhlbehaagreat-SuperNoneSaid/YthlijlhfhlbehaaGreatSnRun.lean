/- SuperNone, run at any head and slot: it answers true, where the heads' own check does. -/
import Derived.Test.YthlijlhfhlbehaaGreatSnCode
import Derived.Test.YthlijlhfhlbehaaGreatZyFrame
import Derived.KernelRfl
namespace Go.Zy.S
def isT' : AVal → Bool | .bool b => b | _ => false
set_option maxRecDepth 10000000
set_option maxHeartbeats 0
theorem run9 (e p g c z slot : Int) : (call T (known 55 (withExt X)) 3000 100 (.func (.func 9) [] []) [.agg [.int .u64 e, .int .i64 p, .int .u64 g, .int .i64 c, .int .i64 z], .int .i64 slot] Heap.empty (fun v _ => isT' v = true)) = (true = true) := by kernel_rfl
end Go.Zy.S
