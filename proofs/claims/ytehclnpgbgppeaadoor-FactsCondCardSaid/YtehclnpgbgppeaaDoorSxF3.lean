/- a part of the executor and of its soundness -/
import Derived.Test.YtehclnpgbgppeaaDoorSxF2
namespace Go.Proofs
open Go Sx
namespace FC
noncomputable section
def GC (k : Int) : Gam := ⟨(T.e : T (Int × Int)).set 0 (0, 255), [
  (.eq (.op .rem .u8 (.v 0) (.c 16)) (.c k), true), (.eq (.op .rem .u8 (.v 0) (.c 2)) (.c (k % 2)), true), (.eq (.op .rem .u8 (.op .xor .u8 (.v 0) (.c 1)) (.c 16)) (.c (k + 1 - 2 * (k % 2))), true)]⟩
theorem condRun0 : ex (Tryd.CX su2) 20000 (.call 4 [fl 0, fl 5, .s (.int .u8 (.v 0))]) (st0 (GC 0)) (endv isT) = true := by kernel_rfl
theorem condRun1 : ex (Tryd.CX su2) 20000 (.call 4 [fl 0, fl 5, .s (.int .u8 (.v 0))]) (st0 (GC 1)) (endv isT) = true := by kernel_rfl
theorem condRun2 : ex (Tryd.CX su2) 20000 (.call 4 [fl 0, fl 5, .s (.int .u8 (.v 0))]) (st0 (GC 2)) (endv isT) = true := by kernel_rfl
theorem condRun3 : ex (Tryd.CX su2) 20000 (.call 4 [fl 0, fl 5, .s (.int .u8 (.v 0))]) (st0 (GC 3)) (endv isT) = true := by kernel_rfl
theorem condRun4 : ex (Tryd.CX su2) 20000 (.call 4 [fl 0, fl 5, .s (.int .u8 (.v 0))]) (st0 (GC 4)) (endv isT) = true := by kernel_rfl
theorem condRun5 : ex (Tryd.CX su2) 20000 (.call 4 [fl 0, fl 5, .s (.int .u8 (.v 0))]) (st0 (GC 5)) (endv isT) = true := by kernel_rfl
theorem condRun6 : ex (Tryd.CX su2) 20000 (.call 4 [fl 0, fl 5, .s (.int .u8 (.v 0))]) (st0 (GC 6)) (endv isT) = true := by kernel_rfl
theorem condRun7 : ex (Tryd.CX su2) 20000 (.call 4 [fl 0, fl 5, .s (.int .u8 (.v 0))]) (st0 (GC 7)) (endv isT) = true := by kernel_rfl
end
end FC
end Go.Proofs
