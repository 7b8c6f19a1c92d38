/- a part of the executor and of its soundness -/
import Derived.Test.YtehclnpgbgppeaaDoorSxR3
namespace Go.Proofs
open Go Sx
namespace FC
theorem stackRun_4_0_0_255 : stackRun (4) (4) (0) (255) (0) (255) = true := by kernel_rfl
theorem stackRun_13_0_0_255 : stackRun (13) (13) (0) (255) (0) (255) = true := by kernel_rfl
theorem stackRun_17_3_0_255 : stackRun (17) (17) (3) (255) (0) (255) = true := by kernel_rfl
theorem stackRun_22_0_0_255 : stackRun (22) (22) (0) (255) (0) (255) = true := by kernel_rfl
theorem stackRun_31_0_0_255 : stackRun (31) (31) (0) (1) (0) (255) = true := by kernel_rfl
theorem stackRun_38_0_0_255 : stackRun (38) (38) (0) (255) (0) (255) = true := by kernel_rfl
end FC
end Go.Proofs
