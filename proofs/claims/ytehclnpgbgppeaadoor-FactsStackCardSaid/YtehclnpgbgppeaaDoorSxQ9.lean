/- a part of the executor and of its soundness -/
import Derived.Test.YtehclnpgbgppeaaDoorSxR3
namespace Go.Proofs
open Go Sx
namespace FC
theorem stackRun_0_0_0_255 : stackRun (0) (0) (0) (255) (0) (255) = true := by kernel_rfl
theorem stackRun_6_0_0_255 : stackRun (6) (6) (0) (255) (0) (255) = true := by kernel_rfl
theorem stackRun_7_0_0_255 : stackRun (7) (7) (0) (255) (0) (255) = true := by kernel_rfl
theorem stackRun_17_0_0_255 : stackRun (17) (17) (0) (1) (0) (255) = true := by kernel_rfl
theorem stackRun_20_2_0_255 : stackRun (20) (20) (2) (2) (0) (255) = true := by kernel_rfl
theorem stackRun_25_0_0_255 : stackRun (25) (25) (0) (255) (0) (255) = true := by kernel_rfl
end FC
end Go.Proofs
