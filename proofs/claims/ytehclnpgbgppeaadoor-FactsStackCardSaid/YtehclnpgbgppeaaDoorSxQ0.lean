/- a part of the executor and of its soundness -/
import Derived.Test.YtehclnpgbgppeaaDoorSxR3
namespace Go.Proofs
open Go Sx
namespace FC
theorem stackRun_11_0_0_255 : stackRun (11) (11) (0) (255) (0) (255) = true := by kernel_rfl
theorem stackRun_19_0_0_255 : stackRun (19) (19) (0) (1) (0) (255) = true := by kernel_rfl
theorem stackRun_30_2_2_2 : stackRun (30) (30) (2) (2) (2) (2) = true := by kernel_rfl
theorem stackRun_35_0_0_255 : stackRun (35) (35) (0) (255) (0) (255) = true := by kernel_rfl
theorem stackRun_40_0_0_255 : stackRun (40) (255) (0) (255) (0) (255) = true := by kernel_rfl
end FC
end Go.Proofs
