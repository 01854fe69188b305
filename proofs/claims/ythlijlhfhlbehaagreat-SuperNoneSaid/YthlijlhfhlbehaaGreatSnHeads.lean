/- The heads' own check, run: it answers true. -/
import Derived.Test.YthlijlhfhlbehaaGreatSnCode
import Derived.KernelRfl
namespace Go.Zy.S
def isT : AVal → Bool | .bool b => b | _ => false
set_option maxRecDepth 10000000
set_option maxHeartbeats 0
theorem run55 : (call T (withExt X) 3000 100 (.func (.func 55) [] []) [] Heap.empty (fun v _ => isT v = true)) = (true = true) := by kernel_rfl
end Go.Zy.S
