/- FactsStack's card: for every instruction the call returns true and the argument reads as before; the two tables hold what the card lays. -/
import Derived.Test.YtehclnpgbgppeaaDoorSxQZ
import Derived.Test.YtehclnpgbgppeaaDoorSxG1L
import Derived.Test.YtehclnpgbgppeaaDoorCards
namespace Go.Proofs.YtehclnpgbgppeaaDoor
open Go Sx Go.ChangeShapes Go.WideShapes Go.ChangeAt Go.RowKit Go.Proofs.FC
namespace FStack
theorem ct25 : Tryd.prog.cellTypes Tryd.prog.depth 25 = some [5, 5, 3, 5, 3, 3, 3, 3, 2, 4, 2, 5, 3, 3, 3, 3, 2, 4, 2, 5, 3] := by kernel_rfl
theorem k25 : ([5, 5, 3, 5, 3, 3, 3, 3, 2, 4, 2, 5, 3, 3, 3, 3, 2, 4, 2, 5, 3] : List TypeId).map Tryd.prog.underlying = kin.map (fun k => some (kindD k)) := by
  simp only [List.map_cons, List.map_nil, kin, kindD, Tryd.underlying5, Tryd.underlying4, Tryd.underlying3, Tryd.underlying2]
theorem cn25 : Tryd.prog.cellsOf 25 = 21 := by kernel_rfl

set_option maxRecDepth 100000 in
theorem contract (H : Type) (enc : TypeId × Value → H) (W : World) (base : Nat) (args : Array Value) (ds gs : List (DataW H)) (before : List MemPlace)
    (hval : ∀ (j : Nat) t v, Tryd.f3.params[j]? = some t → args[j]? = some v → Value.okWide Tryd.prog W .any base t v)
    (hW : DataW.Whole enc Tryd.prog Tryd.f3.params.toList Rows.factsStackSpec.vars false W args.toList ds gs before) (hL : laidMetH Tryd.prog Rows.factsStackRow.laid W) :
    Calls Tryd.prog 3 args W fun e W' => ∃ v, e = .returned v ∧ Rows.factsStackSpec.post enc Tryd.prog Tryd.f3 false true false false W args v W' := by
  have ht : Tab W := tab_of hL
  have hW' := hW
  obtain ⟨p, q, hA0, hV, rfl, hfz, hnd⟩ := hW
  have hA : DataW.TrodAll enc Tryd.prog W 0 (fun _ => true) true Tryd.f3.params.toList args.toList ds p := hA0
  rw [Tryd.params3] at hA hval
  obtain ⟨v0, vs0, d0, ds0, p0, q0, hargs, rfl, rfl, h0, r0⟩ := trodAll_cons hA
  obtain ⟨rfl, rfl, rfl⟩ := trodAll_nil r0
  obtain rfl : args = #[v0] := by apply Array.ext'; rw [hargs]
  obtain ⟨rfl, rfl⟩ := trodVars_none hV
  have kk0 := hval 0 _ _ rfl rfl
  obtain ⟨F0, B0, rfl, hk⟩ := open_flat (ks := kin) Tryd.underlying25 ct25 cn25 k25 kk0
  refine (stack ht B0 hk).mono fun e W' ⟨he, hb⟩ => ?_
  subst he
  exact ⟨_, rfl, law_post laidOut hW' rfl rfl (by rw [Tryd.params3]; kernel_rfl) hb rfl Tryd.underlying4⟩

def arg0 : Array Value := #[.agg #[.int .u8 0, .int .u8 0, .int .i64 0, .int .u8 0, .int .i64 0, .int .i64 0, .int .i64 0, .int .i64 0, .int .i64 0, .bool false, .int .i64 0, .int .u8 0, .int .i64 0, .int .i64 0, .int .i64 0, .int .i64 0, .int .i64 0, .bool false, .int .i64 0, .int .u8 0, .int .i64 0]]
theorem laid_met (os : Os) : laidMet Tryd.prog Rows.factsStackRow.laid ((laidWorld os).forCall (fun _ _ => 0) ⟨#[], arg0, []⟩).memory :=
  laidMet_of_run' 8 (by kernel_rfl) (by kernel_rfl)
theorem reads (os : Os) {H : Type} (enc : TypeId × Value → H) : ∃ x, DataW.whole enc Tryd.prog ((laidWorld os).forCall (fun _ _ => 0) ⟨#[], arg0, []⟩).memory Tryd.f3.params.toList Rows.factsStackSpec.vars false arg0.toList 8 = some x :=
  ⟨([.agg [.lit (.int .u8 0), .lit (.int .u8 0), .lit (.int .i64 0), .agg [.lit (.int .u8 0), .lit (.int .i64 0), .lit (.int .i64 0), .lit (.int .i64 0), .lit (.int .i64 0), .lit (.int .i64 0), .lit (.bool false), .lit (.int .i64 0)], .agg [.lit (.int .u8 0), .lit (.int .i64 0), .lit (.int .i64 0), .lit (.int .i64 0), .lit (.int .i64 0), .lit (.int .i64 0), .lit (.bool false), .lit (.int .i64 0)], .lit (.int .u8 0), .lit (.int .i64 0)]], [], []), by kernel_rfl⟩

set_option maxRecDepth 100000 in
theorem lifted (os : Os) (started : os.Started) (H : Type) (enc : TypeId × Value → H) (F : Stop.Interp) :
    ReturnsInHanded {} Tryd.checked os 3 .any ((OpenSpec.ofChange Rows.factsStackSpec).preRow enc Tryd.prog Tryd.f3 Rows.factsStackRow.domain false Rows.factsStackRow.laid) (((OpenSpec.ofChange Rows.factsStackSpec).at F).post enc Tryd.prog Tryd.f3 false true false false) := by
  obtain ⟨x, hx⟩ := reads os enc
  refine returnsInHanded_of_row (C := Tryd.checked) (s := OpenSpec.ofChange Rows.factsStackSpec) own started (by kernel_rfl) Tryd.func3
    (witness_row_at (enc := enc) (C := Tryd.checked) false (laidWorld os) arg0 rfl (by kernel_rfl) (by kernel_rfl) (by kernel_rfl)
      (OpenSpec.preRow_of_cond 8 hx rfl (fun k hk => by cases hk) (by kernel_rfl) (laid_met os))) ?_
  intro W base args ds gs before hval hW _ _ _ hL _ _
  exact contract H enc W base args ds gs before hval hW hL

theorem said : Rows.FactsStackSaid :=
  OpenClaim.holds_of_cond 3 Tryd.f3 rfl rfl rfl rfl rfl rfl rfl ⟨rfl, rfl, rfl, rfl, rfl⟩ rfl rfl rfl rfl rfl (by kernel_rfl) Tryd.func3 (by kernel_rfl)
    (of_decide_eq_true (by kernel_rfl)) (by unfold Func.isWrapper; first | (rw [if_pos (by decide +kernel)]; kernel_rfl) | (rw [if_neg (by decide +kernel)]; exact ⟨rfl, rfl⟩))
    (fun os started H enc _ F => by rw [OpenClaim.pre_eq_preRow]; exact lifted os started H enc F)

theorem plain (f : FuncId) (fn : Func) (hf : Tryd.pinned.checked.prog.funcNamed "sundial/sundiallaw11.FactsStack" = some f) (hfn : Tryd.pinned.checked.prog.funcs[f]? = some fn) :
    false = Tryd.pinned.checked.prog.looks [] ∧ ∀ (j : Nat) t, fn.params[j]? = some t → Tryd.pinned.checked.prog.wantsStandIn t = false := by
  obtain rfl : f = 3 := Option.some.inj ((show Tryd.prog.funcNamed "sundial/sundiallaw11.FactsStack" = some 3 by kernel_rfl).symm.trans hf) |>.symm
  obtain rfl : fn = Tryd.f3 := (Option.some.inj (Tryd.func3.symm.trans hfn)).symm
  refine ⟨by kernel_rfl, fun j t ht => ?_⟩
  rw [Tryd.params3] at ht
  have hm : t = 25 := by
    have := Array.mem_of_getElem? ht
    simpa using this
  subst hm
  exact (show Tryd.prog.wantsStandIn 25 = false by kernel_rfl)

/-- THE CARD. -/
theorem card : Rows.FactsStackCardSaid :=
  Claim7.holds_tied_plain_at .later [] _ _ _ _ said (fun _ h => by cases h) (by kernel_rfl) (fun _ h => by cases h) factsStack_row_tie rfl ⟨rfl, rfl⟩ (by kernel_rfl) rfl plain (by kernel_rfl)
end FStack
/-- The statement. -/
theorem factsStack_card : Rows.FactsStackCardSaid := FStack.card
#print axioms factsStack_card
end Go.Proofs.YtehclnpgbgppeaaDoor
