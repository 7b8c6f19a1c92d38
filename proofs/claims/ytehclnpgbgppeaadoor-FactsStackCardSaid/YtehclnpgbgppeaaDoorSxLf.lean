/- a part of the executor and of its soundness -/
import Derived.Test.YtehclnpgbgppeaaDoorSxY
import Derived.Laws.StructEq
namespace Sx
open Go Go.RowKit
/-! ### Structs that are compared cell by cell -/
section
variable {P : Program}
def leafq (P : Program) (t : TypeId) (b : Bool) : Bool := match P.underlying t with
  | some .bool => b
  | some (.int _) => !b
  | _ => false
def flq (P : Program) : Nat → List Field → List Bool → Bool
  | _, [], [] => true
  | i, f :: fs, b :: lf => !(f.name == "_") && Nat.beq f.offset i && leafq P f.type b && flq P (i + 1) fs lf
  | _, _, _ => false
def leafsq (P : Program) (t : Nat) (ti : TI) : Bool := match P.underlying t with
  | some (.struct fs) => !P.eqGuardType P.depth t && !P.stoodInHeld t && flq P 0 fs.toList ti.lf
  | _ => false

theorem drop_cons {l : List Value} {i : Nat} {x : Value} {r : List Value} (h : l.drop i = x :: r) : l[i]? = some x ∧ l.drop (i + 1) = r := by
  constructor
  · have := congrArg (·[0]?) h
    simpa using this
  · rw [← List.drop_drop, h]; rfl

theorem eqFields_flat (d : Nat) (xs ys : Array Value) (w : World) : ∀ (fs : List Field) (lf : List Bool) (i : Nat), flq P i fs lf = true → shp lf (xs.toList.drop i) (ys.toList.drop i) →
    (Op.eqFields (d + 1) xs ys fs).run P w = .ok (veqs (xs.toList.drop i) (ys.toList.drop i)) w
  | [], lf, i, hq, hs => by
    cases lf with
    | nil =>
      cases hx : xs.toList.drop i <;> cases hy : ys.toList.drop i <;> rw [hx, hy] at hs <;> first | exact hs.elim | skip
      simp [Op.eqFields, veqs]
    | cons b lf => cases hq
  | f :: fs, lf, i, hq, hs => by
    cases lf with
    | nil => cases hq
    | cons b lf =>
      simp only [flq, Bool.and_eq_true] at hq
      obtain ⟨⟨⟨h1, h2⟩, h3⟩, h4⟩ := hq
      have hn : f.name ≠ "_" := by intro e; rw [e] at h1; simp at h1
      have ho := Nat.eq_of_beq_eq_true h2
      cases hx : xs.toList.drop i with
      | nil => rw [hx] at hs; cases b <;> exact hs.elim
      | cons x xr =>
        cases hy : ys.toList.drop i with
        | nil => rw [hx, hy] at hs; cases b <;> cases x <;> exact hs.elim
        | cons y yr =>
          obtain ⟨x1, x2⟩ := drop_cons hx
          obtain ⟨y1, y2⟩ := drop_cons hy
          have x1' : xs[i]? = some x := by simpa using x1
          have y1' : ys[i]? = some y := by simpa using y1
          rw [hx, hy] at hs
          have ih := eqFields_flat d xs ys w fs lf (i + 1) h4
          rw [x2, y2] at ih
          unfold leafq at h3
          split at h3
          · rename_i ht
            subst h3
            cases x <;> cases y <;> first | exact hs.elim | skip
            rename_i a b
            have ih := ih hs
            simp only [Op.eqFields, hn, ne_eq, not_false_eq_true, if_true, part, isAgg, Sem.run_bind, run_underlying ht, Result.andThen_ok, Sem.run_pure, Bool.false_eq_true, if_false, ho, x1', y1', Op.equalIn, veqs, veq]
            cases hab : (a == b)
            · simp
            · simpa using ih
          · rename_i k ht
            have hb : b = false := by simpa using h3
            subst hb
            cases x <;> cases y <;> first | exact hs.elim | skip
            rename_i k1 a k2 b
            obtain ⟨rfl, hs⟩ := hs
            have ih := ih hs
            simp only [Op.eqFields, hn, ne_eq, not_false_eq_true, if_true, part, isAgg, Sem.run_bind, run_underlying ht, Result.andThen_ok, Sem.run_pure, Bool.false_eq_true, if_false, ho, x1', y1', Op.equalIn, veqs, veq]
            cases hab : (a == b)
            · simp
            · simpa using ih
          · cases h3

theorem leafs_ok {t : Nat} {ti : TI} (h : leafsq P t ti = true) : P.eqGuardType P.depth t = false ∧ ∀ w xs ys, shp ti.lf xs.toList ys.toList → (Op.equalIn 10000 t (.agg xs) (.agg ys)).run P w = .ok (veqs xs.toList ys.toList) w := by
  unfold leafsq at h
  split at h
  · rename_i fs ht
    simp only [Bool.and_eq_true, Bool.not_eq_true'] at h
    obtain ⟨⟨h1, h2⟩, h3⟩ := h
    refine ⟨h1, fun w xs ys hs => ?_⟩
    have hf : P.fieldsOf t = fs := by simp [Program.fieldsOf, ht]
    rw [run_equalIn_struct w 9999 t xs ys (by rw [hf]; exact ht) h2, hf]
    have := eqFields_flat (P := P) 9998 xs ys w fs.toList ti.lf 0 h3 (by simpa using hs)
    simpa using this
  · cases h
theorem tys_okL {C : Cx} (h : allB (fun t ti => tyq P t ti && (noLeaf t ti || leafsq P t ti)) (fun i => i) C.ty = true) : TysOK P C := by
  intro t ti ht
  have := allP_get (allP_of (p := fun t ti => tyq P t ti = true ∧ (noLeaf t ti = true ∨ leafsq P t ti = true)) (fun i a ha => by simpa using ha) h) ht
  refine tyq_ok this.1 fun hne => ?_
  rcases this.2 with h2 | h2
  · unfold noLeaf at h2
    split at h2
    · rename_i he; exact absurd he hne
    · cases h2
  · exact leafs_ok h2
end
end Sx
