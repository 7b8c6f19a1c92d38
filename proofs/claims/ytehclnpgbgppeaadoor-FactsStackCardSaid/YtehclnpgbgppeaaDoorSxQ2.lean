/- a part of the executor and of its soundness -/
import Derived.Test.YtehclnpgbgppeaaDoorSxR3
namespace Go.Proofs
open Go Sx
namespace FC
theorem stackRun_1_0_0_255 : stackRun (1) (1) (0) (255) (0) (255) = true := by kernel_rfl
theorem stackRun_12_0_0_255 : stackRun (12) (12) (0) (255) (0) (255) = true := by kernel_rfl
theorem stackRun_18_2_0_255 : stackRun (18) (18) (2) (2) (0) (255) = true := by kernel_rfl
theorem stackRun_31_3_0_255 : stackRun (31) (31) (3) (255) (0) (255) = true := by kernel_rfl
theorem stackRun_32_0_0_255 : stackRun (32) (32) (0) (255) (0) (255) = true := by kernel_rfl
theorem stackRun_34_0_0_255 : stackRun (34) (34) (0) (255) (0) (255) = true := by kernel_rfl
end FC
end Go.Proofs
