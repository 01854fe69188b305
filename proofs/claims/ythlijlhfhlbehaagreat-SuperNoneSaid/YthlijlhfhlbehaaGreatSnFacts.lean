/- SuperNone's row fits the program. -/
import Derived.Test.YthlijlhfhlbehaaGreatRows
import Derived.KernelRfl
import Derived.JoinedOf
namespace Go.Proofs.YthlijlhfhlbehaaGreat
set_option maxRecDepth 1000000
set_option maxHeartbeats 0
theorem superNone_closed : joinedFacts Tryz.checked.prog 9 Tryz.f9 Rows.superNoneSpec Rows.superNoneRow = true := by kernel_rfl
end Go.Proofs.YthlijlhfhlbehaaGreat
