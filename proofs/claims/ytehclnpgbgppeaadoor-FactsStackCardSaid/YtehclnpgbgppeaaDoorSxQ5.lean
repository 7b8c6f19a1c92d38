/- a part of the executor and of its soundness -/
import Derived.Test.YtehclnpgbgppeaaDoorSxR3
namespace Go.Proofs
open Go Sx
namespace FC
theorem stackRun_3_0_0_255 : stackRun (3) (3) (0) (255) (0) (255) = true := by kernel_rfl
theorem stackRun_17_2_0_255 : stackRun (17) (17) (2) (2) (0) (255) = true := by kernel_rfl
theorem stackRun_20_3_0_255 : stackRun (20) (20) (3) (255) (0) (255) = true := by kernel_rfl
theorem stackRun_27_0_0_255 : stackRun (27) (27) (0) (255) (0) (255) = true := by kernel_rfl
theorem stackRun_29_0_0_255 : stackRun (29) (29) (0) (255) (0) (255) = true := by kernel_rfl
theorem stackRun_36_0_0_255 : stackRun (36) (36) (0) (255) (0) (255) = true := by kernel_rfl
end FC
end Go.Proofs
