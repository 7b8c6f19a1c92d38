/- a part of the executor and of its soundness -/
import Derived.Test.YtehclnpgbgppeaaDoorSxFL
import Derived.Test.YtehclnpgbgppeaaDoorSxZ
namespace Go.Proofs
open Go Sx
namespace FC
noncomputable section
def bdOf (ks : List (Option IntKind)) : T (Int × Int) := T.ofList (ks.map fun
  | some k => (kmin k, kmax k)
  | none => (0, 0))
def only (ks : List (Option IntKind)) (F : Nat → Int) : Nat → Int := fun j => match ks[j]? with
  | some (some _) => F j
  | _ => 0
theorem kmin_eq (k : IntKind) : k.min = kmin k := by cases k <;> rfl
theorem kmax_eq (k : IntKind) : k.max = kmax k := by cases k <;> rfl
theorem sat_bd {ks : List (Option IntKind)} {F : Nat → Int} (B : Nat → Bool) (h : ∀ (j : Nat) (k : IntKind), ks[j]? = some (some k) → k.has (F j)) : Sat ⟨only ks F, B⟩ ⟨bdOf ks, []⟩ := by
  refine ⟨fun i l u hi => ?_, fun p hp => (by cases hp)⟩
  have hi : (bdOf ks).get i = some (l, u) := hi
  unfold bdOf at hi
  rw [T.get_ofList, List.getElem?_map] at hi
  show l ≤ only ks F i ∧ only ks F i ≤ u
  unfold only
  cases hk : ks[i]? with
  | none => rw [hk] at hi; cases hi
  | some k =>
    rw [hk] at hi
    cases k with
    | none => cases hi; exact ⟨Int.le_refl _, Int.le_refl _⟩
    | some k =>
      cases hi
      have := h i k hk
      unfold IntKind.has at this
      rw [kmin_eq, kmax_eq] at this
      exact this
def kop : List (Option IntKind) := [some .u8, some .i64, some .i64, some .i64, some .i64, some .i64, none, some .i64]
def opV : List SV := [.int .u8 (.v 0), .int .i64 (.v 1), .int .i64 (.v 2), .int .i64 (.v 3), .int .i64 (.v 4), .int .i64 (.v 5), .bv 6, .int .i64 (.v 7)]
def isBV : AV → Bool
  | .s (.bool _) => true
  | .s (.bv _) => true
  | _ => false
/-- The words for kinds. -/
def kwords : List ByteArray := [⟨#[114]⟩, ⟨#[109]⟩, ⟨#[114, 109]⟩, ⟨#[105, 56]⟩, ⟨#[117, 56]⟩, ⟨#[105, 51, 50]⟩, ⟨#[105, 54, 52]⟩, ⟨#[120]⟩, ⟨#[120, 109]⟩, ⟨#[99, 108]⟩, ⟨#[45]⟩]
theorem isRun : kwords.all (fun s => ex (Tryd.CX noSu) 20000 (.call 20 [.agg opV, .s (.str s)]) (st0 ⟨bdOf kop, []⟩) (endv isBV)) = true := by kernel_rfl
theorem bool_of {E : Env} {mu : Mu} {v : AV} {cv : Value} (h : isBV v = true) (hv : cav E mu v = some cv) : ∃ b, cv = .bool b := by
  match v, h with
  | .s (.bool b), _ => simp only [cav, csv, Option.some.injEq] at hv; exact ⟨_, hv.symm⟩
  | .s (.bv i), _ => simp only [cav, csv, Option.some.injEq] at hv; exact ⟨_, hv.symm⟩
/-- 'is' answers some bool. -/
theorem isAny {W : World} (ht : Tab W) {F : Nat → Int} (B : Nat → Bool) (h : ∀ (j : Nat) (k : IntKind), kop[j]? = some (some k) → k.has (F j)) {s : ByteArray} (hs : s ∈ kwords) :
    Calls Tryd.prog 20 #[.agg (flatV F B 0 kop).toArray, .string s] W fun e w' => ∃ b, e = .returned (.bool b) ∧ Go.RowKit.Below W.heap.size W w' := by
  have hr := List.all_eq_true.1 isRun s hs
  refine (ex_alone (ht.good ⟨only kop F, B⟩) (vs := [.agg (flatV F B 0 kop).toArray, .string s]) hr (sat_bd B h) rfl).mono ?_
  rintro e w' ⟨v, h', G', cv, mu', rfl, hk, hcv, _, _, hb⟩
  obtain ⟨b, rfl⟩ := bool_of hk hcv
  exact ⟨b, rfl, hb⟩
end
end FC
end Go.Proofs
