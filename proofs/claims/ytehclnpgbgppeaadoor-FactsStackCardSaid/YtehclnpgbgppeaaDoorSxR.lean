/- a part of the executor and of its soundness -/
import Derived.Test.YtehclnpgbgppeaaDoorSxQ
namespace Sx
open Go Go.RowKit

/-- The functions: what the table says of them. -/
structure FnOK (P : Program) (C : Cx) : Prop where
  fn : ∀ f fn, C.fn.get f = some fn → P.funcs[f]? = some fn ∧ (fn.name == "runtime.NumGoroutine") = false ∧ fn.body.isNone = false

/-- A whole operation that does not look at memory. -/
def PNSound (E : Env) (P : Program) (mu : Mu) (h : Hp) (s : Sem Next) : R → Prop
  | .val v h' => h' = h ∧ ∃ cv, cav E mu v = some cv ∧ ∀ w, s.run P w = .ok (.value cv) w
  | .skip _ | .call .. | .yld .. => False
  | .askv t lo hi => lo ≤ t.ev E.V.i ∧ t.ev E.V.i ≤ hi
  | _ => True
/-- A whole operation that only reads. -/
def RNSound (E : Env) (P : Program) (mu : Mu) (h : Hp) (w : World) (s : Sem Next) : R → Prop
  | .val v h' => h' = h ∧ ∃ cv, cav E mu v = some cv ∧ s.run P w = .ok (.value cv) w
  | .skip _ | .call .. | .yld .. => False
  | .askv t lo hi => lo ≤ t.ev E.V.i ∧ t.ev E.V.i ≤ hi
  | _ => True

section
variable {E : Env} {P : Program} {mu : Mu} {w : World} {C : Cx} {h : Hp} {G : Gam}

theorem PNSound.r {s : Sem Next} {r : R} (hp : PNSound E P mu h s r) (w : World) : RNSound E P mu h w s r := by
  cases r <;> try exact hp
  obtain ⟨e, cv, h1, h2⟩ := hp
  exact ⟨e, cv, h1, h2 w⟩
theorem RNSound.n {s : Sem Next} {r : R} (hr : HRel E mu h w) (hp : RNSound E P mu h w s r) : NSound E P mu w s r := by
  cases r <;> try exact hp
  · obtain ⟨rfl, cv, h1, h2⟩ := hp
    exact ⟨cv, mu, w, h2, Mu.le_refl _, h1, hr⟩
  · exact hp.elim
  · exact hp.elim
  · exact hp.elim
theorem Asking.pn {r : R} (ha : Asking E.V r) (s : Sem Next) : PNSound E P mu h s r := by cases r <;> first | exact ha | trivial | exact ha.elim
theorem PSound.pn {s : Sem Value} {r : R} (hp : PSound E P mu h s r) : PNSound E P mu h (do pure (.value (← s))) r := by
  cases r <;> try exact hp
  obtain ⟨e, cv, h1, h2⟩ := hp
  exact ⟨e, cv, h1, fun w => by simp [Sem.run_bind, h2 w]⟩
theorem RSound.rn {s : Sem Value} {r : R} (hp : RSound E P mu h w s r) : RNSound E P mu h w (do pure (.value (← s))) r := by
  cases r <;> try exact hp
  obtain ⟨e, cv, h1, h2⟩ := hp
  exact ⟨e, cv, h1, by simp [Sem.run_bind, h2]⟩
theorem VSound.n {s : Sem Value} {r : R} (hp : VSound E P mu w s r) : NSound E P mu w (do pure (.value (← s))) r := by
  cases r <;> try exact hp
  · obtain ⟨cv, mu', w', h1, h2, h3, h4⟩ := hp
    exact ⟨cv, mu', w', by simp [Sem.run_bind, h1], h2, h3, h4⟩
  · exact hp.elim
  · exact hp.elim
  · exact hp.elim
theorem USound.n {s : Sem Unit} {r : R} (hp : USound E P mu w s r) : NSound E P mu w (do s; pure .skip) r := by
  cases r <;> try exact hp
  · exact hp.elim
  · obtain ⟨mu', w', h1, h2, h3⟩ := hp
    exact ⟨mu', w', by simp [Sem.run_bind, h1], h2, h3⟩
  · exact hp.elim
  · exact hp.elim

/-- A value's temporaries. -/
abbrev TmOK (E : Env) (mu : Mu) (tm : T AV) (a : Act) : Prop := tmRel E mu tm a.tmps.size a.tmps

theorem evo_okA (ho : OldOK C E) {tm : T AV} {a : Act} (ht : TmOK E mu tm a) {x : Operand} {v : AV} (hv : evo tm x = some v) : cav E mu v = some (a.eval x) :=
  evo_ok ho.glob ht hv

theorem caps_get {i : Nat} {l : List AP} {p : AP} {vs : List Value} (h : caps E mu l = some vs) (hp : l[i]? = some p) : ∃ cv, vs[i]? = some cv ∧ cap_ E mu p = some cv := by
  induction l generalizing i vs with
  | nil => simp at hp
  | cons x l ih =>
    obtain ⟨y, ys, h1, h2, rfl⟩ := om_cons.1 h
    cases i with
    | zero => simp at hp; subst hp; exact ⟨y, rfl, h1⟩
    | succ i => simp at hp; simpa using ih h2 hp

theorem doExtract_ok {x : AV} {vx : Value} (hx : cav E mu x = some vx) (i : Nat) : PSound E P mu h (Instr.extract vx i) (doExtract x i h) := by
  unfold doExtract
  split
  · rename_i l i h
    simp only [cav, Option.map_eq_some_iff] at hx
    obtain ⟨vs, hvs, rfl⟩ := hx
    split
    · rename_i p hp
      obtain ⟨cv, h1, h2⟩ := caps_get hvs hp
      refine PSound.mk (cv := cv) ?_ fun w => by simp [Instr.extract, h1]
      cases p <;> exact h2
    · trivial
  · trivial

theorem partsOf_ok (ho : OldOK C E) {tm : T AV} {a : Act} (ht : TmOK E mu tm a) : ∀ {l : List (Nat × Operand)} {ps : List (Nat × AV)}, partsOf tm l = some ps → prel E mu ps (l.map fun (i, x) => (i, a.eval x))
  | [], ps, hp => by simp [partsOf] at hp; subst hp; trivial
  | (i, x) :: l, ps, hp => by
    simp only [partsOf] at hp
    split at hp
    · rename_i v vs hv hvs
      cases hp
      exact ⟨rfl, evo_okA ho ht hv, partsOf_ok ho ht hvs⟩
    · cases hp

theorem ptrsOf_ok : ∀ {vs : List AV} {ps : List (Ref × Nat)} {cs : List Value}, ptrsOf vs = some ps → cavs E mu vs = some cs → om (cpp E mu) ps = some cs
  | [], ps, cs, hp, hc => by simp [ptrsOf] at hp; subst hp; simpa [om] using hc
  | v :: vs, ps, cs, hp, hc => by
    obtain ⟨y, ys, h1, h2, rfl⟩ := om_cons.1 hc
    unfold ptrsOf at hp
    split at hp
    · rename_i heq; cases heq
    · rename_i r o l heq
      cases heq
      split at hp
      · rename_i l' hl'
        cases hp
        exact om_cons.2 ⟨y, ys, h1, ptrsOf_ok hl' h2, rfl⟩
      · cases hp
    · cases hp

theorem capPtrs_ok : ∀ {ps : List (Ref × Nat)} {cs : List Value}, om (cpp E mu) ps = some cs → cavs E mu (capPtrs ps) = some cs
  | [], cs, h => by simpa [om, capPtrs] using h
  | (r, o) :: ps, cs, h => by
    obtain ⟨y, ys, h1, h2, rfl⟩ := om_cons.1 h
    exact om_cons.2 ⟨y, ys, h1, capPtrs_ok h2, rfl⟩

theorem run_callFunc (hf : FnOK P C) {f : Nat} {fn : Func} (h : C.fn.get f = some fn) (args : Array Value) (w : World) : (callFunc f args).run P w = .ok (.enter f args) w := by
  obtain ⟨h1, h2, h3⟩ := hf.fn f fn h
  have h2' : ¬ fn.name = "runtime.NumGoroutine" := by simpa using h2
  have h3' : ¬ fn.body = none := fun e => by rw [e] at h3; cases h3
  simp [callFunc, Sem.run_bind, program, Sem.run, h1, h2', h3']

theorem doCall_ok (hr : HRel E mu h w) (hs : Sat E.V G) (hty : TysOK P C) (ho : OldOK C E) (hf : FnOK P C) {tm : T AV} {a : Act} (ht : TmOK E mu tm a) {c : Call} {type : TypeId} :
    NSound E P mu w (do let d ← resolve a.eval c type; invoke d.target d.args) (doCall C G h tm c) := by
  unfold doCall
  split
  · trivial
  · rename_i args hargs
    have ha := evs_ok ho.glob ht hargs
    have hmap : c.args.map a.eval = (c.args.toList.map a.eval).toArray := by apply Array.ext'; simp
    split
    · rename_i f hc
      split
      · rename_i f' cap hf'
        have hv := evo_okA ho ht hf'
        simp only [cav, csv, Option.map_eq_some_iff] at hv
        obtain ⟨l, hl, hv⟩ := hv
        split
        · rename_i fn hfn
          refine ⟨c.args.toList.map a.eval ++ l, ?_, om_append.2 ⟨_, _, ha, capPtrs_ok hl, rfl⟩⟩
          simp [resolve, hc, ← hv, Deferred.ofValue, Sem.run_bind, invoke, run_callFunc hf hfn, hmap]
        · trivial
      · rename_i l hf'
        have hv := evo_okA ho ht hf'
        simp only [cav, csv, Option.map_eq_some_iff] at hv
        obtain ⟨p, hp, hv⟩ := hv
        refine ⟨c.args.toList.map a.eval, p.1, p.2, hp, ha, ?_⟩
        simp [resolve, hc, ← hv, Deferred.ofValue, Sem.run_bind, invoke, hmap]
      · trivial
    · trivial
    · rename_i b hc
      have hrun : ∀ s : Sem Next, (∀ w, (builtin b c.argTypes type (c.args.map fun | .const _ => true | _ => false) (c.args.toList.map a.eval).toArray).run P w = s.run P w) →
          (do let d ← resolve a.eval c type; invoke d.target d.args : Sem Next).run P w = s.run P w := fun s hs => by
        rw [← hs w]
        simp only [resolve, hc, Sem.run_bind, Sem.run_pure, Result.andThen_ok, invoke, hmap]
        rfl
      have hcong : ∀ {s s' : Sem Next} {r : R}, s'.run P w = s.run P w → NSound E P mu w s r → NSound E P mu w s' r := fun {s s' r} he hn => by
        cases r <;> try exact hn
        · obtain ⟨cv, mu', w', h1, h2⟩ := hn; exact ⟨cv, mu', w', he.trans h1, h2⟩
        · obtain ⟨mu', w', h1, h2⟩ := hn; exact ⟨mu', w', he.trans h1, h2⟩
        · obtain ⟨vs, h1, h2⟩ := hn; exact ⟨vs, he.trans h1, h2⟩
        · obtain ⟨vs, b, c, h1, h2, h3⟩ := hn; exact ⟨vs, b, c, h1, h2, he.trans h3⟩
      split
      · exact hcong (hrun _ fun _ => rfl) (doAppend_ok hr ho hty ha type).n
      · exact hcong (hrun _ fun _ => rfl) ((doLen_ok hr hs hty ha type).v hr).n
      · exact hcong (hrun _ fun _ => rfl) ((doPick_ok (ts := c.argTypes) (mx := true) hs ha type).v hr).n
      · exact hcong (hrun _ fun _ => rfl) ((doPick_ok (ts := c.argTypes) (mx := false) hs ha type).v hr).n
      · exact hcong (hrun _ fun _ => rfl) (doClear_ok hr hty ha type).n
      · trivial

theorem op1_ok {S : R → Prop} (hbad : S .bad) {tm : T AV} {x : Operand} {k : AV → R} (h : ∀ v, evo tm x = some v → S (k v)) : S (op1 tm x k) := by
  unfold op1
  split
  · exact h _ ‹_›
  · exact hbad

theorem doOp_ok (hr : HRel E mu h w) (hs : Sat E.V G) (hty : TysOK P C) (ho : OldOK C E) (hf : FnOK P C) {tm : T AV} {a : Act} (ht : TmOK E mu tm a) (o : Oper) :
    NSound E P mu w (execOp a.eval o) (doOp C G h tm o.op) := by
  obtain ⟨dst, op, type, pos, after, guard⟩ := o
  have e1 : ∀ {x v}, evo tm x = some v → cav E mu v = some (a.eval x) := fun hv => evo_okA ho ht hv
  have op1' : ∀ {s : Sem Next} {x : Operand} {k : AV → R}, (∀ v, evo tm x = some v → NSound E P mu w s (k v)) → NSound E P mu w s (op1 tm x k) := fun h => op1_ok (S := NSound E P mu w _) trivial h
  have pv : ∀ {v : AV} {cv : Value}, cav E mu v = some cv → NSound E P mu w (pure (.value cv)) (.val v h) := fun hv => ⟨_, mu, w, rfl, Mu.le_refl _, hv, hr⟩
  cases op <;> simp only [doOp, execOp] <;> try trivial
  case move x => exact op1' fun v hv => pv (e1 hv)
  case assign x => exact op1' fun v hv => pv (e1 hv)
  case pick c x y =>
    refine op1' fun v hv => ?_
    split
    · rename_i b hb
      have hc := boolq_ok (mu := mu) hs hb
      have hcv := e1 hv
      rw [hc] at hcv
      refine op1' fun v' hv' => ⟨a.eval (bif b then x else y), mu, w, ?_, Mu.le_refl _, e1 hv', hr⟩
      simp only [Option.some.injEq] at hcv
      cases b <;> simp [← hcv, asBool, Sem.run_bind]
    · rename_i e he; exact (boolq_ask he).n _
  case alloc t => exact (doAlloc_ok hr hty).n
  case box t x => exact op1' fun v hv => (doBox_ok hr hty (e1 hv)).n
  case build t ps =>
    split
    · rename_i l hl
      refine ((doBuild_ok hty ?_).v hr).n
      simpa using partsOf_ok ho ht hl
    · trivial
  case buildSlice t n ps =>
    split
    · rename_i l hl
      refine (doBuildSlice_ok hr hty ?_).n
      simpa using partsOf_ok ho ht hl
    · trivial
  case load t x => exact op1' fun v hv => ((doLoad_ok hr ho hty hs (e1 hv)).v hr).n
  case store t x y => exact op1' fun v hv => op1' fun v' hv' => (doStore_ok hr hty (e1 hv) (e1 hv')).n
  case nilCheck x =>
    refine op1' fun v hv => ?_
    have hc := e1 hv
    generalize a.eval x = cx at hc
    cases v with
    | agg l => trivial
    | tup l => trivial
    | s y =>
      cases y <;> try trivial
      case ptr r off =>
        have hc' := hc
        simp only [cav, csv, Option.map_eq_some_iff] at hc'
        obtain ⟨b, _, rfl⟩ := hc'
        exact pv hc
      case fn f cp =>
        have hc' := hc
        simp only [cav, csv, Option.map_eq_some_iff] at hc'
        obtain ⟨b, _, rfl⟩ := hc'
        exact pv hc
  case binOp op t x y z => exact op1' fun v hv => op1' fun v' hv' => ((doBin_ok hs hty (e1 hv) (e1 hv') x y).v hr).n
  case unOp op t x => exact op1' fun v hv => ((doUn_ok hs (e1 hv)).v hr).n
  case convert s d x => exact op1' fun v hv => ((doConvert_ok hs hty (e1 hv)).v hr).n
  case makeFunc fn first cap =>
    split <;> try trivial
    rename_i f cap hop
    cases hop
    split
    · rename_i vs hvs
      split
      · rename_i ps hps
        have := ptrsOf_ok hps (evs_ok ho.glob ht hvs)
        refine ⟨.func (.func f) #[] (cap.map a.eval), mu, w, by simp [Instr.makeFunc, Sem.run_bind], Mu.le_refl _, ?_, hr⟩
        simp only [cav, csv, this, Option.map_some, Option.some.injEq, Value.func.injEq, true_and]
        apply Array.ext'; simp
      · trivial
    · trivial
  case makeMap t r =>
    cases r with
    | some r => trivial
    | none =>
      have hle : Mu.le mu (mu.add h.nx (w.heap.size, 0)) := Mu.le_add (hr.dom h.nx (Nat.le_refl _)).1
      exact ⟨.map (some w.heap.size), _, w.alloc (.map #[] 0), by simp [Instr.makeMap, Sem.run_bind], hle, by simp [cav, csv, Mu.add_same], hr.push ⟨rfl, trivial⟩⟩
  case makeSlice t l c => exact op1' fun v hv => op1' fun v' hv' => (doMakeSlice_ok hr hs hty (e1 hv) (e1 hv')).n
  case slice t x lo hi mx =>
    refine op1' fun v hv => ?_
    split
    · rename_i vlo vhi vmx h1 h2 h3
      exact ((doSlice_ok hr hs hty (e1 hv) (optOf_ok ho.glob ht h1) (optOf_ok ho.glob ht h2) (optOf_ok ho.glob ht h3)).v hr).n
    · trivial
  case fieldAddr t x f => exact op1' fun v hv => ((doFieldAddr_ok hty (e1 hv)).v hr).n
  case field t x f => exact op1' fun v hv => ((doField_ok hty (e1 hv)).v hr).n
  case indexAddr t x i => exact op1' fun v hv => op1' fun v' hv' => ((doIndexAddr_ok hs hty (e1 hv) (e1 hv')).v hr).n
  case index t x i => exact op1' fun v hv => op1' fun v' hv' => ((doIndex_ok hs hty (e1 hv) (e1 hv')).v hr).n
  case lookup t x k ok => exact op1' fun v hv => op1' fun v' hv' => ((doLookup_ok hr hs hty (e1 hv) (e1 hv') ok).v hr).n
  case mapUpdate t m k v => exact op1' fun v hv => op1' fun v' hv' => op1' fun v2 hv2 => (doMapSet_ok hr hs hty (e1 hv) (e1 hv') (e1 hv2)).n
  case insert t m k v => exact op1' fun v hv => op1' fun v' hv' => op1' fun v2 hv2 => (doMapSet_ok hr hs hty (e1 hv) (e1 hv') (e1 hv2)).n
  case extract x i => exact op1' fun v hv => ((doExtract_ok (e1 hv) i).v hr).n
  case call c => exact doCall_ok hr hs hty ho hf ht
end
end Sx
