/- a part of the executor and of its soundness -/
import Derived.Test.YtehclnpgbgppeaaDoorSxFL
import Derived.Test.YtehclnpgbgppeaaDoorSxZ
namespace Go.Proofs
open Go Sx Go.ChangeShapes Go.WideShapes Go.ChangeAt Go.RowKit
namespace FC
theorem own : ownKnob Tryd.prog.godebug = none := by kernel_rfl
theorem laidOut : laidOutB Tryd.prog = true := by kernel_rfl
theorem gConds : Tryd.prog.globalNamed "sundial/facts.conds" = some 1 := by kernel_rfl
theorem gEnds : Tryd.prog.globalNamed "sundial/facts.ends" = some 0 := by kernel_rfl
theorem tConds : (Tryd.prog.globals[1]?).map (·.type) = some 61 := by kernel_rfl
theorem tEnds : (Tryd.prog.globals[0]?).map (·.type) = some 60 := by kernel_rfl
theorem c61 : Tryd.prog.cellsOf 61 = 8 := by kernel_rfl
theorem c60 : Tryd.prog.cellsOf 60 = 4 := by kernel_rfl
theorem c5 : Tryd.prog.cellsOf 5 = 1 := by kernel_rfl
abbrev lconds : DataW Unit := YtehclnpgbgppeaaDoor.Rows.laid_sundial_facts_conds
abbrev lends : DataW Unit := YtehclnpgbgppeaaDoor.Rows.laid_sundial_facts_ends
/-- What the rows' lists give. -/
theorem tab_of {W : World} (h : laidMetH Tryd.prog [("sundial/facts.conds", lconds), ("sundial/facts.ends", lends)] W) : Tab W := by
  have h : laidMet Tryd.prog [("sundial/facts.conds", lconds), ("sundial/facts.ends", lends)] W := h
  obtain ⟨ps, ⟨g', t', cs, fuel, p, q, hg', ht', hvar, hd, ⟨g2, t2, cs2, fuel2, p2, q2, hg2, ht2, hvar2, hd2, _, _⟩, _⟩, _⟩ := h
  obtain rfl := Option.some.inj (gConds.symm.trans hg')
  obtain rfl := Option.some.inj (tConds.symm.trans ht')
  obtain rfl := Option.some.inj (gEnds.symm.trans hg2)
  obtain rfl := Option.some.inj (tEnds.symm.trans ht2)
  have e1 := Lib.cells_of_tab (zs := [8, 1, 2, 3, 4, 16, 12, 14]) (k := .u8) Tryd.underlying61 Tryd.underlying5 c5 c61 hd
  have e2 := Lib.cells_of_tab (zs := [26, 27, 28, 29]) (k := .u8) Tryd.underlying60 Tryd.underlying5 c5 c60 hd2
  have f1 : ∃ t f, W.heap[1]? = some (.cells cs t f) := by
    simp only [World.var?, gConds, Option.bind_some] at hvar
    split at hvar
    · rename_i c t f hc; cases hvar; exact ⟨_, _, hc⟩
    · cases hvar
  have f0 : ∃ t f, W.heap[0]? = some (.cells cs2 t f) := by
    simp only [World.var?, gEnds, Option.bind_some] at hvar2
    split at hvar2
    · rename_i c t f hc; cases hvar2; exact ⟨_, _, hc⟩
    · cases hvar2
  obtain ⟨t1, fr1, f1⟩ := f1
  obtain ⟨t0, fr0, f0⟩ := f0
  have g1 : cs = #[.int .u8 8, .int .u8 1, .int .u8 2, .int .u8 3, .int .u8 4, .int .u8 16, .int .u8 12, .int .u8 14] := by
    apply Array.ext'; rw [e1]; rfl
  have g0 : cs2 = #[.int .u8 26, .int .u8 27, .int .u8 28, .int .u8 29] := by
    apply Array.ext'; rw [e2]; rfl
  subst g1; subst g0
  exact ⟨t0, fr0, t1, fr1, f0, f1⟩

/-- A world for the witness: the settled one, the tables laid. -/
def lay (cs : Array Value) : Obj → Obj
  | .cells _ t frozen => .cells cs t frozen
  | o => o
noncomputable def laidWorld (os : Os) : World :=
  { World.holding Tryd.prog os ⟨#[], #[], []⟩ with heap := ((World.holding Tryd.prog os ⟨#[], #[], []⟩).heap.modify 0 (lay #[.int .u8 26, .int .u8 27, .int .u8 28, .int .u8 29])).modify 1 (lay #[.int .u8 8, .int .u8 1, .int .u8 2, .int .u8 3, .int .u8 4, .int .u8 16, .int .u8 12, .int .u8 14]) }
end FC
end Go.Proofs
