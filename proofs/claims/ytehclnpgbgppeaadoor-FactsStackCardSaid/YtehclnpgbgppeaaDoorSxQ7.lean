/- a part of the executor and of its soundness -/
import Derived.Test.YtehclnpgbgppeaaDoorSxR3
namespace Go.Proofs
open Go Sx
namespace FC
theorem stackRun_9_0_0_255 : stackRun (9) (9) (0) (255) (0) (255) = true := by kernel_rfl
theorem stackRun_16_3_0_255 : stackRun (16) (16) (3) (255) (0) (255) = true := by kernel_rfl
theorem stackRun_20_0_0_255 : stackRun (20) (20) (0) (1) (0) (255) = true := by kernel_rfl
theorem stackRun_24_0_0_255 : stackRun (24) (24) (0) (255) (0) (255) = true := by kernel_rfl
theorem stackRun_28_0_0_255 : stackRun (28) (28) (0) (255) (0) (255) = true := by kernel_rfl
theorem stackRun_30_2_0_1 : stackRun (30) (30) (2) (2) (0) (1) = true := by kernel_rfl
end FC
end Go.Proofs
