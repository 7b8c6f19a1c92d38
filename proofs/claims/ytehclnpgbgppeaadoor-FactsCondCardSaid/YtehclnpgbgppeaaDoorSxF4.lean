/- a part of the executor and of its soundness -/
import Derived.Test.YtehclnpgbgppeaaDoorSxF3
namespace Go.Proofs
open Go Sx
namespace FC
noncomputable section
theorem condRun8 : ex (Tryd.CX su2) 20000 (.call 4 [fl 0, fl 5, .s (.int .u8 (.v 0))]) (st0 (GC 8)) (endv isT) = true := by kernel_rfl
theorem condRun9 : ex (Tryd.CX su2) 20000 (.call 4 [fl 0, fl 5, .s (.int .u8 (.v 0))]) (st0 (GC 9)) (endv isT) = true := by kernel_rfl
theorem condRun10 : ex (Tryd.CX su2) 20000 (.call 4 [fl 0, fl 5, .s (.int .u8 (.v 0))]) (st0 (GC 10)) (endv isT) = true := by kernel_rfl
theorem condRun11 : ex (Tryd.CX su2) 20000 (.call 4 [fl 0, fl 5, .s (.int .u8 (.v 0))]) (st0 (GC 11)) (endv isT) = true := by kernel_rfl
theorem condRun12 : ex (Tryd.CX su2) 20000 (.call 4 [fl 0, fl 5, .s (.int .u8 (.v 0))]) (st0 (GC 12)) (endv isT) = true := by kernel_rfl
theorem condRun13 : ex (Tryd.CX su2) 20000 (.call 4 [fl 0, fl 5, .s (.int .u8 (.v 0))]) (st0 (GC 13)) (endv isT) = true := by kernel_rfl
theorem condRun14 : ex (Tryd.CX su2) 20000 (.call 4 [fl 0, fl 5, .s (.int .u8 (.v 0))]) (st0 (GC 14)) (endv isT) = true := by kernel_rfl
theorem condRun15 : ex (Tryd.CX su2) 20000 (.call 4 [fl 0, fl 5, .s (.int .u8 (.v 0))]) (st0 (GC 15)) (endv isT) = true := by kernel_rfl
end
end FC
end Go.Proofs
