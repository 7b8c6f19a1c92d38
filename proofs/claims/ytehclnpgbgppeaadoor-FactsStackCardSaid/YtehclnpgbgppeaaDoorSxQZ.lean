/- a part of the executor and of its soundness -/
import Derived.Test.YtehclnpgbgppeaaDoorSxQ0
import Derived.Test.YtehclnpgbgppeaaDoorSxQ1
import Derived.Test.YtehclnpgbgppeaaDoorSxQ2
import Derived.Test.YtehclnpgbgppeaaDoorSxQ3
import Derived.Test.YtehclnpgbgppeaaDoorSxQ4
import Derived.Test.YtehclnpgbgppeaaDoorSxQ5
import Derived.Test.YtehclnpgbgppeaaDoorSxQ6
import Derived.Test.YtehclnpgbgppeaaDoorSxQ7
import Derived.Test.YtehclnpgbgppeaaDoorSxQ8
import Derived.Test.YtehclnpgbgppeaaDoorSxQ9
namespace Go.Proofs
open Go Sx
namespace FC
theorem box_sat {V : Val} (h : Sat V ⟨bdOf kin, []⟩) {l0 h0 l3 h3 l11 h11 : Int} (e0 : l0 ≤ V.i 0 ∧ V.i 0 ≤ h0) (e3 : l3 ≤ V.i 3 ∧ V.i 3 ≤ h3) (e11 : l11 ≤ V.i 11 ∧ V.i 11 ≤ h11) :
    Sat V ⟨(((bdOf kin).set 0 (l0, h0)).set 3 (l3, h3)).set 11 (l11, h11), []⟩ := by
  refine ⟨fun i a b hi => ?_, fun p hp => by cases hp⟩
  by_cases q : i = 11
  · subst q; rw [T.get_set_same] at hi; cases hi; exact e11
  rw [T.get_set_ne q] at hi
  by_cases q : i = 3
  · subst q; rw [T.get_set_same] at hi; cases hi; exact e3
  rw [T.get_set_ne q] at hi
  by_cases q : i = 0
  · subst q; rw [T.get_set_same] at hi; cases hi; exact e0
  rw [T.get_set_ne q] at hi
  exact h.1 i a b hi
theorem box {W : World} (ht : Tab W) {F : Nat → Int} (B : Nat → Bool) (h : ∀ (j : Nat) (k : IntKind), kin[j]? = some (some k) → k.has (F j)) {l0 h0 l3 h3 l11 h11 : Int} (hr : stackRun l0 h0 l3 h3 l11 h11 = true)
    (e0 : l0 ≤ F 0 ∧ F 0 ≤ h0) (e3 : l3 ≤ F 3 ∧ F 3 ≤ h3) (e11 : l11 ≤ F 11 ∧ F 11 ≤ h11) :
    Calls Tryd.prog 3 #[.agg (flatV F B 0 kin).toArray] W fun e w' => e = .returned (.bool true) ∧ Go.RowKit.Below W.heap.size W w' := by
  have g : Sx.Good ⟨⟨only kin F, B⟩, fun g => g, W⟩ Tryd.prog (Tryd.CX suSt) := ⟨Tryd.tys _, ht.old _ _, Tryd.fns _, suSt_ok ht _, Tryd.mixed⟩
  refine (ex_alone g (vs := [.agg (flatV F B 0 kin).toArray]) hr (box_sat (sat_bd B h) e0 e3 e11) rfl).mono ?_
  rintro e w' ⟨v, h', G', cv, mu', rfl, hkv, hcv, _, _, hb⟩
  refine ⟨?_, hb⟩
  simp only [endv] at hkv
  match v, hkv with
  | .s (.bool b), hkv =>
    simp only [isT] at hkv
    subst hkv
    simp only [cav, csv, Option.some.injEq] at hcv
    rw [← hcv]
theorem stack {W : World} (ht : Tab W) {F : Nat → Int} (B : Nat → Bool) (h : ∀ (j : Nat) (k : IntKind), kin[j]? = some (some k) → k.has (F j)) :
    Calls Tryd.prog 3 #[.agg (flatV F B 0 kin).toArray] W fun e w' => e = .returned (.bool true) ∧ Go.RowKit.Below W.heap.size W w' := by
  have u8 : ∀ n, IntKind.u8.has n → 0 ≤ n ∧ n ≤ 255 := fun n hn => hn
  have a0 := u8 _ (h 0 .u8 rfl)
  have a3 := u8 _ (h 3 .u8 rfl)
  have a11 := u8 _ (h 11 .u8 rfl)
  rcases (by omega : F 0 = 0 ∨ F 0 = 1 ∨ F 0 = 2 ∨ F 0 = 3 ∨ F 0 = 4 ∨ F 0 = 5 ∨ F 0 = 6 ∨ F 0 = 7 ∨ F 0 = 8 ∨ F 0 = 9 ∨ F 0 = 10 ∨ F 0 = 11 ∨ F 0 = 12 ∨ F 0 = 13 ∨ F 0 = 14 ∨ F 0 = 15 ∨ F 0 = 16 ∨ F 0 = 17 ∨ F 0 = 18 ∨ F 0 = 19 ∨ F 0 = 20 ∨ F 0 = 21 ∨ F 0 = 22 ∨ F 0 = 23 ∨ F 0 = 24 ∨ F 0 = 25 ∨ F 0 = 26 ∨ F 0 = 27 ∨ F 0 = 28 ∨ F 0 = 29 ∨ F 0 = 30 ∨ F 0 = 31 ∨ F 0 = 32 ∨ F 0 = 33 ∨ F 0 = 34 ∨ F 0 = 35 ∨ F 0 = 36 ∨ F 0 = 37 ∨ F 0 = 38 ∨ F 0 = 39 ∨ 40 ≤ F 0) with c | c | c | c | c | c | c | c | c | c | c | c | c | c | c | c | c | c | c | c | c | c | c | c | c | c | c | c | c | c | c | c | c | c | c | c | c | c | c | c | c
  · exact box ht B h stackRun_0_0_0_255 (by omega) (by omega) (by omega)
  · exact box ht B h stackRun_1_0_0_255 (by omega) (by omega) (by omega)
  · exact box ht B h stackRun_2_0_0_255 (by omega) (by omega) (by omega)
  · exact box ht B h stackRun_3_0_0_255 (by omega) (by omega) (by omega)
  · exact box ht B h stackRun_4_0_0_255 (by omega) (by omega) (by omega)
  · exact box ht B h stackRun_5_0_0_255 (by omega) (by omega) (by omega)
  · exact box ht B h stackRun_6_0_0_255 (by omega) (by omega) (by omega)
  · exact box ht B h stackRun_7_0_0_255 (by omega) (by omega) (by omega)
  · exact box ht B h stackRun_8_0_0_255 (by omega) (by omega) (by omega)
  · exact box ht B h stackRun_9_0_0_255 (by omega) (by omega) (by omega)
  · exact box ht B h stackRun_10_0_0_255 (by omega) (by omega) (by omega)
  · exact box ht B h stackRun_11_0_0_255 (by omega) (by omega) (by omega)
  · exact box ht B h stackRun_12_0_0_255 (by omega) (by omega) (by omega)
  · exact box ht B h stackRun_13_0_0_255 (by omega) (by omega) (by omega)
  · exact box ht B h stackRun_14_0_0_255 (by omega) (by omega) (by omega)
  · exact box ht B h stackRun_15_0_0_255 (by omega) (by omega) (by omega)
  · rcases (by omega : (0 ≤ F 3 ∧ F 3 ≤ 1 ∧ 0 ≤ F 11 ∧ F 11 ≤ 255) ∨ (2 ≤ F 3 ∧ F 3 ≤ 2 ∧ 0 ≤ F 11 ∧ F 11 ≤ 255) ∨ (3 ≤ F 3 ∧ F 3 ≤ 255 ∧ 0 ≤ F 11 ∧ F 11 ≤ 255)) with c | c | c
    · exact box ht B h stackRun_16_0_0_255 (by omega) (by omega) (by omega)
    · exact box ht B h stackRun_16_2_0_255 (by omega) (by omega) (by omega)
    · exact box ht B h stackRun_16_3_0_255 (by omega) (by omega) (by omega)
  · rcases (by omega : (0 ≤ F 3 ∧ F 3 ≤ 1 ∧ 0 ≤ F 11 ∧ F 11 ≤ 255) ∨ (2 ≤ F 3 ∧ F 3 ≤ 2 ∧ 0 ≤ F 11 ∧ F 11 ≤ 255) ∨ (3 ≤ F 3 ∧ F 3 ≤ 255 ∧ 0 ≤ F 11 ∧ F 11 ≤ 255)) with c | c | c
    · exact box ht B h stackRun_17_0_0_255 (by omega) (by omega) (by omega)
    · exact box ht B h stackRun_17_2_0_255 (by omega) (by omega) (by omega)
    · exact box ht B h stackRun_17_3_0_255 (by omega) (by omega) (by omega)
  · rcases (by omega : (0 ≤ F 3 ∧ F 3 ≤ 1 ∧ 0 ≤ F 11 ∧ F 11 ≤ 255) ∨ (2 ≤ F 3 ∧ F 3 ≤ 2 ∧ 0 ≤ F 11 ∧ F 11 ≤ 255) ∨ (3 ≤ F 3 ∧ F 3 ≤ 255 ∧ 0 ≤ F 11 ∧ F 11 ≤ 255)) with c | c | c
    · exact box ht B h stackRun_18_0_0_255 (by omega) (by omega) (by omega)
    · exact box ht B h stackRun_18_2_0_255 (by omega) (by omega) (by omega)
    · exact box ht B h stackRun_18_3_0_255 (by omega) (by omega) (by omega)
  · rcases (by omega : (0 ≤ F 3 ∧ F 3 ≤ 1 ∧ 0 ≤ F 11 ∧ F 11 ≤ 255) ∨ (2 ≤ F 3 ∧ F 3 ≤ 2 ∧ 0 ≤ F 11 ∧ F 11 ≤ 255) ∨ (3 ≤ F 3 ∧ F 3 ≤ 255 ∧ 0 ≤ F 11 ∧ F 11 ≤ 255)) with c | c | c
    · exact box ht B h stackRun_19_0_0_255 (by omega) (by omega) (by omega)
    · exact box ht B h stackRun_19_2_0_255 (by omega) (by omega) (by omega)
    · exact box ht B h stackRun_19_3_0_255 (by omega) (by omega) (by omega)
  · rcases (by omega : (0 ≤ F 3 ∧ F 3 ≤ 1 ∧ 0 ≤ F 11 ∧ F 11 ≤ 255) ∨ (2 ≤ F 3 ∧ F 3 ≤ 2 ∧ 0 ≤ F 11 ∧ F 11 ≤ 255) ∨ (3 ≤ F 3 ∧ F 3 ≤ 255 ∧ 0 ≤ F 11 ∧ F 11 ≤ 255)) with c | c | c
    · exact box ht B h stackRun_20_0_0_255 (by omega) (by omega) (by omega)
    · exact box ht B h stackRun_20_2_0_255 (by omega) (by omega) (by omega)
    · exact box ht B h stackRun_20_3_0_255 (by omega) (by omega) (by omega)
  · exact box ht B h stackRun_21_0_0_255 (by omega) (by omega) (by omega)
  · exact box ht B h stackRun_22_0_0_255 (by omega) (by omega) (by omega)
  · exact box ht B h stackRun_23_0_0_255 (by omega) (by omega) (by omega)
  · exact box ht B h stackRun_24_0_0_255 (by omega) (by omega) (by omega)
  · exact box ht B h stackRun_25_0_0_255 (by omega) (by omega) (by omega)
  · exact box ht B h stackRun_26_0_0_255 (by omega) (by omega) (by omega)
  · exact box ht B h stackRun_27_0_0_255 (by omega) (by omega) (by omega)
  · exact box ht B h stackRun_28_0_0_255 (by omega) (by omega) (by omega)
  · exact box ht B h stackRun_29_0_0_255 (by omega) (by omega) (by omega)
  · rcases (by omega : (0 ≤ F 3 ∧ F 3 ≤ 1 ∧ 0 ≤ F 11 ∧ F 11 ≤ 255) ∨ (2 ≤ F 3 ∧ F 3 ≤ 2 ∧ 0 ≤ F 11 ∧ F 11 ≤ 1) ∨ (2 ≤ F 3 ∧ F 3 ≤ 2 ∧ 2 ≤ F 11 ∧ F 11 ≤ 2) ∨ (2 ≤ F 3 ∧ F 3 ≤ 2 ∧ 3 ≤ F 11 ∧ F 11 ≤ 255) ∨ (3 ≤ F 3 ∧ F 3 ≤ 255 ∧ 0 ≤ F 11 ∧ F 11 ≤ 255)) with c | c | c | c | c
    · exact box ht B h stackRun_30_0_0_255 (by omega) (by omega) (by omega)
    · exact box ht B h stackRun_30_2_0_1 (by omega) (by omega) (by omega)
    · exact box ht B h stackRun_30_2_2_2 (by omega) (by omega) (by omega)
    · exact box ht B h stackRun_30_2_3_255 (by omega) (by omega) (by omega)
    · exact box ht B h stackRun_30_3_0_255 (by omega) (by omega) (by omega)
  · rcases (by omega : (0 ≤ F 3 ∧ F 3 ≤ 1 ∧ 0 ≤ F 11 ∧ F 11 ≤ 255) ∨ (2 ≤ F 3 ∧ F 3 ≤ 2 ∧ 0 ≤ F 11 ∧ F 11 ≤ 255) ∨ (3 ≤ F 3 ∧ F 3 ≤ 255 ∧ 0 ≤ F 11 ∧ F 11 ≤ 255)) with c | c | c
    · exact box ht B h stackRun_31_0_0_255 (by omega) (by omega) (by omega)
    · exact box ht B h stackRun_31_2_0_255 (by omega) (by omega) (by omega)
    · exact box ht B h stackRun_31_3_0_255 (by omega) (by omega) (by omega)
  · exact box ht B h stackRun_32_0_0_255 (by omega) (by omega) (by omega)
  · exact box ht B h stackRun_33_0_0_255 (by omega) (by omega) (by omega)
  · exact box ht B h stackRun_34_0_0_255 (by omega) (by omega) (by omega)
  · exact box ht B h stackRun_35_0_0_255 (by omega) (by omega) (by omega)
  · exact box ht B h stackRun_36_0_0_255 (by omega) (by omega) (by omega)
  · exact box ht B h stackRun_37_0_0_255 (by omega) (by omega) (by omega)
  · exact box ht B h stackRun_38_0_0_255 (by omega) (by omega) (by omega)
  · exact box ht B h stackRun_39_0_0_255 (by omega) (by omega) (by omega)
  · exact box ht B h stackRun_40_0_0_255 (by omega) (by omega) (by omega)
end FC
end Go.Proofs
