/- a part of the executor and of its soundness -/
import Derived.Test.YtehclnpgbgppeaaDoorSxR
namespace Sx
open Go Go.RowKit
section
variable {E : Env} {P : Program} {mu : Mu} {w : World} {C : Cx} {h : Hp} {G : Gam}

theorem doOp_pure (hr : HRel E mu h w) (hs : Sat E.V G) (hty : TysOK P C) (ho : OldOK C E) {tm : T AV} {a : Act} (ht : TmOK E mu tm a) (o : Oper) (hk : kindOf o.op = .pure) :
    PNSound E P mu h (execOp a.eval o) (doOp C G h tm o.op) := by
  obtain ⟨dst, op, type, pos, after, guard⟩ := o
  have e1 : ∀ {x v}, evo tm x = some v → cav E mu v = some (a.eval x) := fun hv => evo_okA ho ht hv
  have op1' : ∀ {s : Sem Next} {x : Operand} {k : AV → R}, (∀ v, evo tm x = some v → PNSound E P mu h s (k v)) → PNSound E P mu h s (op1 tm x k) := fun h' => op1_ok (S := PNSound E P mu h _) trivial h'
  have pv : ∀ {v : AV} {cv : Value}, cav E mu v = some cv → PNSound E P mu h (pure (.value cv)) (.val v h) := fun hv => ⟨rfl, _, hv, fun _ => rfl⟩
  cases op <;> simp only [doOp, execOp] <;> try trivial
  case move x => exact op1' fun v hv => pv (e1 hv)
  case assign x => exact op1' fun v hv => pv (e1 hv)
  case pick c x y =>
    refine op1' fun v hv => ?_
    split
    · rename_i b hb
      have hc := boolq_ok (mu := mu) hs hb
      have hcv := e1 hv
      rw [hc] at hcv
      refine op1' fun v' hv' => ⟨rfl, a.eval (bif b then x else y), e1 hv', fun w => ?_⟩
      simp only [Option.some.injEq] at hcv
      cases b <;> simp [← hcv, asBool]
    · rename_i e he; exact (boolq_ask he).pn _
  case build t ps =>
    split
    · rename_i l hl
      refine (doBuild_ok hty ?_).pn
      simpa using partsOf_ok ho ht hl
    · trivial
  case nilCheck x =>
    refine op1' fun v hv => ?_
    have hc := e1 hv
    generalize a.eval x = cx at hc
    cases v with
    | agg l => trivial
    | tup l => trivial
    | s y =>
      cases y <;> try trivial
      case ptr r off =>
        have hc' := hc
        simp only [cav, csv, Option.map_eq_some_iff] at hc'
        obtain ⟨b, _, rfl⟩ := hc'
        exact pv hc
      case fn f cp =>
        have hc' := hc
        simp only [cav, csv, Option.map_eq_some_iff] at hc'
        obtain ⟨b, _, rfl⟩ := hc'
        exact pv hc
  case binOp op t x y z => exact op1' fun v hv => op1' fun v' hv' => (doBin_ok hs hty (e1 hv) (e1 hv') x y).pn
  case unOp op t x => exact op1' fun v hv => (doUn_ok hs (e1 hv)).pn
  case convert s d x => exact op1' fun v hv => (doConvert_ok hs hty (e1 hv)).pn
  case makeFunc fn first cap =>
    split <;> try trivial
    rename_i f cap hop
    cases hop
    split
    · rename_i vs hvs
      split
      · rename_i ps hps
        have := ptrsOf_ok hps (evs_ok ho.glob ht hvs)
        refine ⟨rfl, .func (.func f) #[] (cap.map a.eval), ?_, fun w => by simp [Instr.makeFunc]⟩
        simp only [cav, csv, this, Option.map_some, Option.some.injEq, Value.func.injEq, true_and]
        apply Array.ext'; simp
      · trivial
    · trivial
  case slice t x lo hi mx =>
    refine op1' fun v hv => ?_
    split
    · rename_i vlo vhi vmx h1 h2 h3
      exact (doSlice_ok hr hs hty (e1 hv) (optOf_ok ho.glob ht h1) (optOf_ok ho.glob ht h2) (optOf_ok ho.glob ht h3)).pn
    · trivial
  case fieldAddr t x f => exact op1' fun v hv => (doFieldAddr_ok hty (e1 hv)).pn
  case field t x f => exact op1' fun v hv => (doField_ok hty (e1 hv)).pn
  case indexAddr t x i => exact op1' fun v hv => op1' fun v' hv' => (doIndexAddr_ok hs hty (e1 hv) (e1 hv')).pn
  case index t x i => exact op1' fun v hv => op1' fun v' hv' => (doIndex_ok hs hty (e1 hv) (e1 hv')).pn
  case extract x i => exact op1' fun v hv => (doExtract_ok (e1 hv) i).pn
  case call c =>
    simp only [kindOf] at hk
    have hmap : c.args.map a.eval = (c.args.toList.map a.eval).toArray := by apply Array.ext'; simp
    obtain ⟨b, hc, hb⟩ : ∃ b, c.callee = .builtin b ∧ (b = .max ∨ b = .min) := by
      obtain ⟨callee, args, ats⟩ := c
      cases callee <;> try (cases hk; done)
      rename_i b
      cases b <;> first | (cases hk; done) | exact ⟨_, rfl, .inl rfl⟩ | exact ⟨_, rfl, .inr rfl⟩
    have hrun : ∀ (s : Sem Next), (∀ w, (builtin b c.argTypes type (c.args.map fun | .const _ => true | _ => false) (c.args.toList.map a.eval).toArray).run P w = s.run P w) →
        ∀ w, (do let d ← resolve a.eval c type; invoke d.target d.args : Sem Next).run P w = s.run P w := fun s hs w => by
      rw [← hs w]
      simp only [resolve, hc, Sem.run_bind, Sem.run_pure, Result.andThen_ok, invoke, hmap]
      rfl
    have hcong : ∀ {s s' : Sem Next} {r : R}, (∀ w, s'.run P w = s.run P w) → PNSound E P mu h s r → PNSound E P mu h s' r := fun {s s' r} he hn => by
      cases r <;> try exact hn
      obtain ⟨e, cv, h1, h2⟩ := hn; exact ⟨e, cv, h1, fun w => (he w).trans (h2 w)⟩
    unfold doCall
    split
    · trivial
    · rename_i args hargs
      have ha := evs_ok ho.glob ht hargs
      rw [hc]
      rcases hb with rfl | rfl
      · exact hcong (hrun _ fun _ => rfl) (doPick_ok (ts := c.argTypes) (mx := true) hs ha type).pn
      · exact hcong (hrun _ fun _ => rfl) (doPick_ok (ts := c.argTypes) (mx := false) hs ha type).pn

theorem doOp_read (hr : HRel E mu h w) (hs : Sat E.V G) (hty : TysOK P C) (ho : OldOK C E) {tm : T AV} {a : Act} (ht : TmOK E mu tm a) (o : Oper) (hk : kindOf o.op = .read) :
    RNSound E P mu h w (execOp a.eval o) (doOp C G h tm o.op) := by
  obtain ⟨dst, op, type, pos, after, guard⟩ := o
  have e1 : ∀ {x v}, evo tm x = some v → cav E mu v = some (a.eval x) := fun hv => evo_okA ho ht hv
  have op1' : ∀ {s : Sem Next} {x : Operand} {k : AV → R}, (∀ v, evo tm x = some v → RNSound E P mu h w s (k v)) → RNSound E P mu h w s (op1 tm x k) := fun h' => op1_ok (S := RNSound E P mu h w _) trivial h'
  cases op <;> simp only [doOp, execOp] <;> first | (cases hk; done) | skip
  case load t x => exact op1' fun v hv => (doLoad_ok hr ho hty hs (e1 hv)).rn
  case lookup t x k ok => exact op1' fun v hv => op1' fun v' hv' => (doLookup_ok hr hs hty (e1 hv) (e1 hv') ok).rn
  case call c =>
    simp only [kindOf] at hk
    have hmap : c.args.map a.eval = (c.args.toList.map a.eval).toArray := by apply Array.ext'; simp
    have hc : c.callee = .builtin .len := by
      obtain ⟨callee, args, ats⟩ := c
      cases callee <;> try (cases hk; done)
      rename_i b
      cases b <;> first | (cases hk; done) | rfl
    have hrun : (do let d ← resolve a.eval c type; invoke d.target d.args : Sem Next).run P w = (do pure (.value (← Builtin.len_ c.argTypes type (c.args.toList.map a.eval).toArray)) : Sem Next).run P w := by
      simp only [resolve, hc, Sem.run_bind, Sem.run_pure, Result.andThen_ok, invoke, hmap]
      have : ∀ cs : Array Bool, (builtin Builtin.len c.argTypes type cs (c.args.toList.map a.eval).toArray) = (do pure (.value (← Builtin.len_ c.argTypes type (c.args.toList.map a.eval).toArray)) : Sem Next) := fun _ => rfl
      rw [this]; simp only [Sem.run_bind, Sem.run_pure]
    unfold doCall
    split
    · trivial
    · rename_i args hargs
      have ha := evs_ok ho.glob ht hargs
      rw [hc]
      have := (doLen_ok hr hs hty ha type (ts := c.argTypes) (P := P)).rn
      revert this
      simp only []
      generalize doLen C G h c.argTypes.toList args = r
      intro hn
      cases r <;> try exact hn
      obtain ⟨e, cv, h1, h2⟩ := hn; exact ⟨e, cv, h1, hrun.trans h2⟩
end
end Sx
