/- a part of the executor and of its soundness -/
import Derived.Test.YtehclnpgbgppeaaDoorSxS2
namespace Go.Proofs
open Go Sx
namespace FC
theorem rightRun : ex (Tryd.CX suIs) 60000 (.call 5 [.agg inV]) (st0 ⟨bdOf kin, []⟩) (endv isBV) = true := by kernel_rfl
theorem right {W : World} (ht : Tab W) {F : Nat → Int} (B : Nat → Bool) (h : ∀ (j : Nat) (k : IntKind), kin[j]? = some (some k) → k.has (F j)) :
    Calls Tryd.prog 5 #[.agg (flatV F B 0 kin).toArray] W fun e w' => ∃ b, e = .returned (.bool b) ∧ Go.RowKit.Below W.heap.size W w' := by
  have g : Sx.Good ⟨⟨only kin F, B⟩, fun g => g, W⟩ Tryd.prog (Tryd.CX suIs) := ⟨Tryd.tys _, ht.old _ _, Tryd.fns _, suIs_ok ht _, Tryd.mixed⟩
  refine (ex_alone g (vs := [.agg (flatV F B 0 kin).toArray]) rightRun (sat_bd B h) rfl).mono ?_
  rintro e w' ⟨v, h', G', cv, mu', rfl, hk, hcv, _, _, hb⟩
  obtain ⟨b, rfl⟩ := bool_of hk hcv
  exact ⟨b, rfl, hb⟩
end FC
end Go.Proofs
