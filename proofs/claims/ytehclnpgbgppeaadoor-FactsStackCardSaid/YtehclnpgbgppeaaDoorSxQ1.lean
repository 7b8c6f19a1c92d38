/- a part of the executor and of its soundness -/
import Derived.Test.YtehclnpgbgppeaaDoorSxR3
namespace Go.Proofs
open Go Sx
namespace FC
theorem stackRun_10_0_0_255 : stackRun (10) (10) (0) (255) (0) (255) = true := by kernel_rfl
theorem stackRun_14_0_0_255 : stackRun (14) (14) (0) (255) (0) (255) = true := by kernel_rfl
theorem stackRun_18_3_0_255 : stackRun (18) (18) (3) (255) (0) (255) = true := by kernel_rfl
theorem stackRun_30_0_0_255 : stackRun (30) (30) (0) (1) (0) (255) = true := by kernel_rfl
theorem stackRun_33_0_0_255 : stackRun (33) (33) (0) (255) (0) (255) = true := by kernel_rfl
end FC
end Go.Proofs
