/- a part of the executor and of its soundness -/
import Derived.Test.YtehclnpgbgppeaaDoorSxTabL
namespace Go.Proofs
open Go Sx
namespace FC
abbrev Su := Nat → List AV → Hp → Gam → Option (List (AV × Hp × Gam))
def noSu : Su := fun _ _ _ _ => none
def endv (f : AV → Bool) (o : Out) (_ : St) : Bool := match o with
  | .v v => f v
  | _ => false
def isT : AV → Bool
  | .s (.bool b) => b
  | _ => false
def st0 (G : Gam) : St := ⟨.e, 0, [], ⟨.e, 0⟩, G⟩
theorem wakesRun : ex (Tryd.CX noSu) 20000 (.call 6 []) (st0 ⟨.e, []⟩) (endv isT) = true := by kernel_rfl

/-- The two tables. -/
def Tab (W : World) : Prop := ∃ t0 f0 t1 f1, W.heap[0]? = some (.cells #[.int .u8 26, .int .u8 27, .int .u8 28, .int .u8 29] t0 f0) ∧
  W.heap[1]? = some (.cells #[.int .u8 8, .int .u8 1, .int .u8 2, .int .u8 3, .int .u8 4, .int .u8 16, .int .u8 12, .int .u8 14] t1 f1)
theorem lt_of_some {W : World} {b : Nat} {o : Obj} (h : W.heap[b]? = some o) : b < W.heap.size := (Array.getElem?_eq_some_iff.1 h).1
theorem Tab.past {W w : World} (h : Tab W) (hb : Go.RowKit.Below W.heap.size W w) : Tab w := by
  obtain ⟨t0, f0, t1, f1, h0, h1⟩ := h
  exact ⟨t0, f0, t1, f1, by rw [hb.block 0 (lt_of_some h0)]; exact h0, by rw [hb.block 1 (lt_of_some h1)]; exact h1⟩
theorem Tab.old {W : World} (h : Tab W) (su : Su) (V : Val) : OldOK (Tryd.CX su) ⟨V, fun g => g, W⟩ := by
  obtain ⟨t0, f0, t1, f1, h0, h1⟩ := h
  refine ⟨fun g o hg => ?_, fun _ _ => rfl⟩
  have hg' : Tryd.cgl.get g = some o := hg
  unfold Tryd.cgl at hg'
  rw [T.get_eqS] at hg'
  match g, hg' with
  | 0, hg' =>
    cases hg'
    exact ⟨_, lt_of_some h0, h0, by decide, by intro l hl; simp at hl; subst hl; rfl, _, rfl, [], rfl⟩
  | 1, hg' =>
    cases hg'
    exact ⟨_, lt_of_some h1, h1, by decide, by intro l hl; simp at hl; subst hl; rfl, _, rfl, [], rfl⟩
  | 2, hg' => cases hg'
  | n + 3, hg' =>
    exfalso
    simp only [T.getS] at hg'
    cases hb : Nat.beq ((n + 2) % 2) 0 <;> rw [hb] at hg'
    · simp [T.getS] at hg'
    · simp only [cond_true] at hg'
      have : (n + 2) / 2 = n / 2 + 1 := by omega
      rw [this] at hg'
      simp only [T.getS] at hg'
      cases hb2 : Nat.beq (n / 2 % 2) 0 <;> rw [hb2] at hg' <;> simp [T.getS] at hg'

theorem noSu_ok (E : Env) : SuOK E Tryd.prog (Tryd.CX noSu) := ⟨fun _ _ _ _ _ h => by cases h⟩
theorem Tab.good {W : World} (h : Tab W) (V : Val) : Sx.Good ⟨V, fun g => g, W⟩ Tryd.prog (Tryd.CX noSu) := ⟨Tryd.tys _, h.old _ V, Tryd.fns _, noSu_ok _, Tryd.mixed⟩

def V0 : Val := ⟨fun _ => 0, fun _ => false⟩
theorem sat0 (V : Val) : Sat V ⟨.e, []⟩ := ⟨fun i l h hi => (by rw [T.get_e] at hi; cases hi), fun p hp => (by cases hp)⟩
theorem wakes {W : World} (h : Tab W) : Calls Tryd.prog 6 #[] W fun e w' => e = .returned (.bool true) ∧ Go.RowKit.Below W.heap.size W w' := by
  refine (ex_alone (h.good V0) (vs := []) wakesRun (sat0 V0) rfl).mono ?_
  rintro e w' ⟨v, h', G', cv, mu', rfl, hk, hcv, _, _, hb⟩
  refine ⟨?_, hb⟩
  simp only [endv] at hk
  match v, hk with
  | .s (.bool b), hk =>
    simp only [isT] at hk
    subst hk
    simp only [cav, csv, Option.some.injEq] at hcv
    rw [← hcv]
end FC
end Go.Proofs
