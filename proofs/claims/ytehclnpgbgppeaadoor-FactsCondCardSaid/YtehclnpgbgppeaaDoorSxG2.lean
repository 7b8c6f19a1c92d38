/- FactsCond's card: for every pair of flags and every condition the call returns true and the arguments read as before; the two tables hold what the card lays. -/
import Derived.Test.YtehclnpgbgppeaaDoorSxF5
import Derived.Test.YtehclnpgbgppeaaDoorSxG1
import Derived.Test.YtehclnpgbgppeaaDoorCards
namespace Go.Proofs.YtehclnpgbgppeaaDoor
open Go Sx Go.ChangeShapes Go.WideShapes Go.ChangeAt Go.RowKit Go.Proofs.FC
namespace FCond
def five : List (Option IntKind) := [none, none, none, none, none]
theorem ct34 : Tryd.prog.cellTypes Tryd.prog.depth 34 = some [4, 4, 4, 4, 4] := by kernel_rfl
theorem k34 : ([4, 4, 4, 4, 4] : List TypeId).map Tryd.prog.underlying = five.map (fun k => some (kindD k)) := by
  simp only [List.map_cons, List.map_nil, five, kindD, Tryd.underlying4]
theorem cn34 : Tryd.prog.cellsOf 34 = 5 := by kernel_rfl

set_option maxRecDepth 100000 in
theorem contract (H : Type) (enc : TypeId × Value → H) (W : World) (base : Nat) (args : Array Value) (ds gs : List (DataW H)) (before : List MemPlace)
    (hval : ∀ (j : Nat) t v, Tryd.f4.params[j]? = some t → args[j]? = some v → Value.okWide Tryd.prog W .any base t v)
    (hW : DataW.Whole enc Tryd.prog Tryd.f4.params.toList Rows.factsCondSpec.vars false W args.toList ds gs before) (hL : laidMetH Tryd.prog Rows.factsCondRow.laid W) :
    Calls Tryd.prog 4 args W fun e W' => ∃ v, e = .returned v ∧ Rows.factsCondSpec.post enc Tryd.prog Tryd.f4 false true false false W args v W' := by
  have ht : Tab W := tab_of hL
  have hW' := hW
  obtain ⟨p, q, hA0, hV, rfl, hfz, hnd⟩ := hW
  have hA : DataW.TrodAll enc Tryd.prog W 0 (fun _ => true) true Tryd.f4.params.toList args.toList ds p := hA0
  rw [Tryd.params4] at hA hval
  obtain ⟨v0, vs0, d0, ds0, p0, q0, hargs, rfl, rfl, h0, r0⟩ := trodAll_cons hA
  obtain ⟨v1, vs1, d1, ds1, p1, q1, rfl, rfl, rfl, h1, r1⟩ := trodAll_cons r0
  obtain ⟨v2, vs2, d2, ds2, p2, q2, rfl, rfl, rfl, h2, r2⟩ := trodAll_cons r1
  obtain ⟨rfl, rfl, rfl⟩ := trodAll_nil r2
  obtain rfl : args = #[v0, v1, v2] := by apply Array.ext'; rw [hargs]
  obtain ⟨rfl, rfl⟩ := trodVars_none hV
  have kk0 := hval 0 _ _ rfl rfl
  have kk1 := hval 1 _ _ rfl rfl
  obtain ⟨F0, B0, rfl, _⟩ := open_flat (ks := five) Tryd.underlying34 ct34 cn34 k34 kk0
  obtain ⟨F1, B1, rfl, _⟩ := open_flat (ks := five) Tryd.underlying34 ct34 cn34 k34 kk1
  have k2 := hval 2 _ _ rfl rfl
  obtain ⟨n, rfl⟩ := okWide_int Tryd.underlying5 k2
  have hn : 0 ≤ n ∧ n ≤ 255 := by
    simp only [Value.okWide, Cell.okWide, Cell.ok] at k2
    have m1 : IntKind.u8.min = 0 := rfl
    have m2 : IntKind.u8.max = 255 := rfl
    have := k2.2
    unfold IntKind.has at this
    rw [m1, m2] at this
    exact this
  let b : Nat → Bool := fun i => if i < 5 then B0 i else B1 (i - 5)
  refine (cond ht hn.1 hn.2 b).mono fun e W' ⟨he, hb⟩ => ?_
  subst he
  exact ⟨_, rfl, law_post laidOut hW' rfl rfl (by rw [Tryd.params4]; kernel_rfl) hb rfl Tryd.underlying4⟩

def arg0 : Array Value := #[.agg #[.bool false, .bool false, .bool false, .bool false, .bool false], .agg #[.bool false, .bool false, .bool false, .bool false, .bool false], .int .u8 0]
theorem laid_met (os : Os) : laidMet Tryd.prog Rows.factsCondRow.laid ((laidWorld os).forCall (fun _ _ => 0) ⟨#[], arg0, []⟩).memory :=
  laidMet_of_run' 8 (by kernel_rfl) (by kernel_rfl)
theorem reads (os : Os) {H : Type} (enc : TypeId × Value → H) : ∃ x, DataW.whole enc Tryd.prog ((laidWorld os).forCall (fun _ _ => 0) ⟨#[], arg0, []⟩).memory Tryd.f4.params.toList Rows.factsCondSpec.vars false arg0.toList 8 = some x :=
  ⟨([.agg [.lit (.bool false), .lit (.bool false), .lit (.bool false), .lit (.bool false), .lit (.bool false)], .agg [.lit (.bool false), .lit (.bool false), .lit (.bool false), .lit (.bool false), .lit (.bool false)], .lit (.int .u8 0)], [], []), by kernel_rfl⟩

set_option maxRecDepth 100000 in
theorem lifted (os : Os) (started : os.Started) (H : Type) (enc : TypeId × Value → H) (F : Stop.Interp) :
    ReturnsInHanded {} Tryd.checked os 4 .any ((OpenSpec.ofChange Rows.factsCondSpec).preRow enc Tryd.prog Tryd.f4 Rows.factsCondRow.domain false Rows.factsCondRow.laid) (((OpenSpec.ofChange Rows.factsCondSpec).at F).post enc Tryd.prog Tryd.f4 false true false false) := by
  obtain ⟨x, hx⟩ := reads os enc
  refine returnsInHanded_of_row (C := Tryd.checked) (s := OpenSpec.ofChange Rows.factsCondSpec) own started (by kernel_rfl) Tryd.func4
    (witness_row_at (enc := enc) (C := Tryd.checked) false (laidWorld os) arg0 rfl (by kernel_rfl) (by kernel_rfl) (by kernel_rfl)
      (OpenSpec.preRow_of_cond 8 hx rfl (fun k hk => by cases hk) (by kernel_rfl) (laid_met os))) ?_
  intro W base args ds gs before hval hW _ _ _ hL _ _
  exact contract H enc W base args ds gs before hval hW hL

theorem said : Rows.FactsCondSaid :=
  OpenClaim.holds_of_cond 4 Tryd.f4 rfl rfl rfl rfl rfl rfl rfl ⟨rfl, rfl, rfl, rfl, rfl⟩ rfl rfl rfl rfl rfl (by kernel_rfl) Tryd.func4 (by kernel_rfl)
    (of_decide_eq_true (by kernel_rfl)) (by unfold Func.isWrapper; first | (rw [if_pos (by decide +kernel)]; kernel_rfl) | (rw [if_neg (by decide +kernel)]; exact ⟨rfl, rfl⟩))
    (fun os started H enc _ F => by rw [OpenClaim.pre_eq_preRow]; exact lifted os started H enc F)

theorem plain (f : FuncId) (fn : Func) (hf : Tryd.pinned.checked.prog.funcNamed "sundial/sundiallaw11.FactsCond" = some f) (hfn : Tryd.pinned.checked.prog.funcs[f]? = some fn) :
    false = Tryd.pinned.checked.prog.looks [] ∧ ∀ (j : Nat) t, fn.params[j]? = some t → Tryd.pinned.checked.prog.wantsStandIn t = false := by
  obtain rfl : f = 4 := Option.some.inj ((show Tryd.prog.funcNamed "sundial/sundiallaw11.FactsCond" = some 4 by kernel_rfl).symm.trans hf) |>.symm
  obtain rfl : fn = Tryd.f4 := (Option.some.inj (Tryd.func4.symm.trans hfn)).symm
  refine ⟨by kernel_rfl, fun j t ht => ?_⟩
  rw [Tryd.params4] at ht
  have hm : t = 34 ∨ t = 5 := by
    have := Array.mem_of_getElem? ht
    simpa using this
  rcases hm with rfl | rfl
  · exact (show Tryd.prog.wantsStandIn 34 = false by kernel_rfl)
  · exact (show Tryd.prog.wantsStandIn 5 = false by kernel_rfl)

/-- THE CARD. -/
theorem card : Rows.FactsCondCardSaid :=
  Claim7.holds_tied_plain_at .later [] _ _ _ _ said (fun _ h => by cases h) (by kernel_rfl) (fun _ h => by cases h) factsCond_row_tie rfl ⟨rfl, rfl⟩ (by kernel_rfl) rfl plain (by kernel_rfl)
end FCond
/-- The statement. -/
theorem factsCond_card : Rows.FactsCondCardSaid := FCond.card
#print axioms factsCond_card
end Go.Proofs.YtehclnpgbgppeaaDoor
