/- a part of the executor and of its soundness -/
import Derived.Test.YtehclnpgbgppeaaDoorSxR3
namespace Go.Proofs
open Go Sx
namespace FC
theorem stackRun_5_0_0_255 : stackRun (5) (5) (0) (255) (0) (255) = true := by kernel_rfl
theorem stackRun_8_0_0_255 : stackRun (8) (8) (0) (255) (0) (255) = true := by kernel_rfl
theorem stackRun_18_0_0_255 : stackRun (18) (18) (0) (1) (0) (255) = true := by kernel_rfl
theorem stackRun_23_0_0_255 : stackRun (23) (23) (0) (255) (0) (255) = true := by kernel_rfl
theorem stackRun_26_0_0_255 : stackRun (26) (26) (0) (255) (0) (255) = true := by kernel_rfl
theorem stackRun_31_2_0_255 : stackRun (31) (31) (2) (2) (0) (255) = true := by kernel_rfl
end FC
end Go.Proofs
