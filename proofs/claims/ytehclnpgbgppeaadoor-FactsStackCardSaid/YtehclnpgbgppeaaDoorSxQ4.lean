/- a part of the executor and of its soundness -/
import Derived.Test.YtehclnpgbgppeaaDoorSxR3
namespace Go.Proofs
open Go Sx
namespace FC
theorem stackRun_2_0_0_255 : stackRun (2) (2) (0) (255) (0) (255) = true := by kernel_rfl
theorem stackRun_15_0_0_255 : stackRun (15) (15) (0) (255) (0) (255) = true := by kernel_rfl
theorem stackRun_16_2_0_255 : stackRun (16) (16) (2) (2) (0) (255) = true := by kernel_rfl
theorem stackRun_19_3_0_255 : stackRun (19) (19) (3) (255) (0) (255) = true := by kernel_rfl
theorem stackRun_21_0_0_255 : stackRun (21) (21) (0) (255) (0) (255) = true := by kernel_rfl
theorem stackRun_39_0_0_255 : stackRun (39) (39) (0) (255) (0) (255) = true := by kernel_rfl
end FC
end Go.Proofs
