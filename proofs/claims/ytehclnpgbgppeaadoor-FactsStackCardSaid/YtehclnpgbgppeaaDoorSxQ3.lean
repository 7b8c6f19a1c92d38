/- a part of the executor and of its soundness -/
import Derived.Test.YtehclnpgbgppeaaDoorSxR3
namespace Go.Proofs
open Go Sx
namespace FC
theorem stackRun_16_0_0_255 : stackRun (16) (16) (0) (1) (0) (255) = true := by kernel_rfl
theorem stackRun_19_2_0_255 : stackRun (19) (19) (2) (2) (0) (255) = true := by kernel_rfl
theorem stackRun_30_2_3_255 : stackRun (30) (30) (2) (2) (3) (255) = true := by kernel_rfl
theorem stackRun_30_3_0_255 : stackRun (30) (30) (3) (255) (0) (255) = true := by kernel_rfl
theorem stackRun_37_0_0_255 : stackRun (37) (37) (0) (255) (0) (255) = true := by kernel_rfl
end FC
end Go.Proofs
