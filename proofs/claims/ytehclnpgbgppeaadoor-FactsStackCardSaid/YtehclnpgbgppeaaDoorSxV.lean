/- a part of the executor and of its soundness -/
import Derived.Test.YtehclnpgbgppeaaDoorSxU
import Derived.RangeFuncLeaves
import Derived.RangeFuncRecord
import Derived.RangeFuncIn
import Derived.LoopNIn
namespace Sx
open Go Go.RowKit

def fz : Option Nat → Fence
  | none => Fence.wide
  | some l => Fence.wide.inRound l
theorem fz_fn (rb : Option Nat) (f : FuncId) : (fz rb).fn f := by cases rb <;> trivial
theorem fz_depth (rb : Option Nat) : (fz rb).depth = none := by cases rb <;> rfl
theorem fz_calls {rb : Option Nat} {m : Nat} {P : Program} {f : FuncId} {args : Array Value} {w : World} {R : Ending → World → Prop} (h : CallsIn Fence.wide m P f args w R) : CallsIn (fz rb) m P f args w R := by
  cases rb <;> exact h
theorem fz_one {rb : Option Nat} {m : Nat} : (fz rb).depth.isSome = true → 1 ≤ m := by rw [fz_depth]; intro h; cases h
theorem fz_in (rb : Option Nat) (l : Nat) : (fz rb).inRound l = fz (some l) := by cases rb <;> rfl

def exitOf : AEx → Exit
  | .normal => .normal
  | .exit id => .exit id
  | .ret => .ret

section
variable {E : Env} {P : Program} {C : Cx}

theorem om_mono' {mu mu' : Mu} (hm : Mu.le mu mu') {ps : List (Ref × Nat)} {l : List Value} (h : om (cpp E mu) ps = some l) : om (cpp E mu') ps = some l := by
  induction ps generalizing l with
  | nil => exact h
  | cons p ps ih =>
    obtain ⟨y, ys, h1, h2, rfl⟩ := om_cons.1 h
    exact om_cons.2 ⟨y, ys, cpp_mono hm _ _ h1, ih h2, rfl⟩

def NoP (Q : Exit → Act → World → Prop) : Prop := ∀ c a w, ¬ Q (.panic c) a w
theorem NoP.then {Q : Exit → Act → World → Prop} (h : NoP Q) (K : Act → World → Prop) : NoP (Exit.then K Q) := fun c a w hq => h c a w hq
theorem NoP.inBlock {Q : Exit → Act → World → Prop} (h : NoP Q) (id : Nat) : NoP (Exit.inBlock id Q) := fun c a w hq => h c a w hq

def Post (E : Env) (k : Out → St → Bool) (mu : Mu) (Q : Exit → Act → World → Prop) : Prop :=
  ∀ e s' a' w' mu', k (.ex e) s' = true → Mu.le mu mu' → Rel E mu' s' a' w' → Q (exitOf e) a' w'
theorem Post.later {k : Out → St → Bool} {mu mu' : Mu} {Q : Exit → Act → World → Prop} (h : Post E k mu Q) (hm : Mu.le mu mu') : Post E k mu' Q :=
  fun e s' a' w' mu2 hk h2 hr => h e s' a' w' mu2 hk (Mu.le_trans hm h2) hr

def GCode (E : Env) (P : Program) (C : Cx) (n : Nat) : Prop :=
  ∀ (ro rb : Option Nat) (c : Code) (s : St) (k : Out → St → Bool) (Q : Exit → Act → World → Prop) (a : Act) (w : World) (mu : Mu) (N : Nat), (ro = none → rb = none) →
    ex C n (.code ro c) s k = true → Rel E mu s a w → NoP Q → Post E k mu Q → c.wpIn (fz rb) N P Q a w
def GOps (E : Env) (P : Program) (C : Cx) (n : Nat) : Prop :=
  ∀ (ro rb : Option Nat) (ops : Array Oper) (j : Nat) (l : List Oper) (s : St) (k : Out → St → Bool) (Q : Exit → Act → World → Prop) (a : Act) (w : World) (mu : Mu) (N : Nat), (ro = none → rb = none) →
    ops.toList.drop j = l → ex C n (.ops ro l ops.toList) s k = true → Rel E mu s a w → NoP Q → Post E k mu Q → wpOpsIn (fz rb) N P ops Q (List.range' j l.length) a w
def GOne (E : Env) (P : Program) (C : Cx) (n : Nat) : Prop :=
  ∀ (ro rb : Option Nat) (o : Oper) (s : St) (k : Out → St → Bool) (next : Act → World → Prop) (Q : Exit → Act → World → Prop) (a : Act) (w : World) (mu : Mu) (N : Nat), (ro = none → rb = none) →
    ex C n (.one ro o) s k = true → Rel E mu s a w → (∀ s' a' w' mu', k (.ex .normal) s' = true → Mu.le mu mu' → Rel E mu' s' a' w' → next a' w') → o.wpIn (fz rb) N P a w next Q
def GCall (E : Env) (P : Program) (C : Cx) (n : Nat) : Prop :=
  ∀ (f : Nat) (args : List AV) (s : St) (k : Out → St → Bool) (R : Ending → World → Prop) (w : World) (mu : Mu) (vs : List Value) (m : Nat),
    ex C n (.call f args) s k = true → HRel E mu s.hp w → Sat E.V s.gm → cavs E mu args = some vs →
    (∀ v h' G' cv w' mu', k (.v v) { s with hp := h', gm := G' } = true → Mu.le mu mu' → cav E mu' v = some cv → HRel E mu' h' w' → Sat E.V G' → R (.returned cv) w') → CallsIn Fence.wide m P f vs.toArray w R

/-- Where a draw stands: what is listed, and what is not. -/
structure DS (ops : Array Oper) (listed : Array Bool) (L : Nat) (un : List (Nat × Nat × Oper)) : Prop where
  size : listed.size = ops.size
  bits : ∀ i, listed.getD i false = L.testBit i
  unl : ∀ i, i < ops.size → (listed.getD i true = false ↔ ∃ m o, (i, m, o) ∈ un)
  ent : ∀ i m o, (i, m, o) ∈ un → ops[i]? = some o ∧ m = maskOf o.after.toList
  nd : (un.map (·.1)).Nodup

structure PRel (E : Env) (P : Program) (mu : Mu) (w : World) (p : Pend) (S : Sem Next) (cv : Value) : Prop where
  rd : ∃ (o : Oper) (a : Act), o.op = p.o ∧ kindOf p.o = .read ∧ TmOK E mu p.tm a ∧ S = execOp a.eval o
  v : cav E mu p.v = some cv
  now : S.run P w = .ok (.value cv) w

def GDraw (E : Env) (P : Program) (C : Cx) (n : Nat) : Prop :=
  ∀ (ro rb : Option Nat) (ops : Array Oper) (kept rem : List (Nat × Nat × Oper)) (L : Nat) (pend : List (Pend × Sem Next × Value)) (s : St) (k : Out → St → Bool) (Q : Exit → Act → World → Prop) (a : Act) (w : World) (mu : Mu) (N : Nat)
    (listed : Array Bool) (D : List Nat) (fuel : Nat) (I : List Nat → World → Prop), (ro = none → rb = none) →
    ex C n (.draw ro ops.toList kept rem L (pend.map (·.1))) s k = true → Rel E mu s a w → NoP Q →
    (∀ s' a' w' mu', k (.ex .normal) s' = true → Mu.le mu mu' → Rel E mu' s' a' w' → Q .normal a' w') →
    regOK ops = true → DS ops listed L (kept ++ rem) → (kept ++ rem).length ≤ fuel → ClosedD ops listed D →
    (∀ p ∈ pend, PRel E P mu w p.1 p.2.1 p.2.2) →
    (∀ D' w', (∀ e ∈ D, e ∈ D') → (∀ p ∈ pend, Still P ops p.1.i p.2.1 p.2.2 D' w') → I D' w') →
    WA (fz rb) N P ops Q I fuel listed D a w

structure SuOK (E : Env) (P : Program) (C : Cx) : Prop where
  su : ∀ f args h G outs, C.su f args h G = some outs → ∀ (mu : Mu) (w : World) (vs : List Value) (m : Nat) (R : Ending → World → Prop), HRel E mu h w → Sat E.V G → cavs E mu args = some vs →
    (∀ v h' G' cv w' mu', (v, h', G') ∈ outs → Mu.le mu mu' → cav E mu' v = some cv → HRel E mu' h' w' → Sat E.V G' → R (.returned cv) w') → CallsIn Fence.wide m P f vs.toArray w R

/-- What the run leans on. -/
structure Good (E : Env) (P : Program) (C : Cx) : Prop where
  ty : TysOK P C
  old : OldOK C E
  fn : FnOK P C
  su : SuOK E P C
  mixed : P.follows .mixedOrders = true

theorem onAsk_go {mu : Mu} {s : St} {a : Act} {w : World} (hr : Rel E mu s a w) {r : R} (hask : askOK E.V r) {k : Gam → Bool} (h : onAsk s.gm r k = true) :
    ∃ G', Rel E mu { s with gm := G' } a w ∧ k G' = true := by
  obtain ⟨G', h1, h2⟩ := onAsk_ok hr.gm hask h
  exact ⟨G', hr.withGm h1, h2⟩

theorem gcode (g : Good E P C) {n : Nat} (ih : ∀ m, m ≤ n → GCode E P C m ∧ GOps E P C m ∧ GCall E P C m ∧ GDraw E P C m) : GCode E P C (n + 1) := by
  intro ro rb c s k Q a w mu N hro h hr hQ hk
  have ih' := ih n (Nat.le_refl _)
  cases c with
  | skip => simp only [ex_succ, exStep] at h; exact wpIn_skip (hk _ s a w mu h (Mu.le_refl _) hr)
  | label l => simp only [ex_succ, exStep] at h; exact wpIn_label (hk _ s a w mu h (Mu.le_refl _) hr)
  | exit id => simp only [ex_succ, exStep] at h; exact wpIn_exit (hk _ s a w mu h (Mu.le_refl _) hr)
  | ret => simp only [ex_succ, exStep] at h; exact wpIn_ret (hk _ s a w mu h (Mu.le_refl _) hr)
  | seq x y =>
    simp only [ex_succ, exStep] at h
    refine wpIn_seq (ih'.1 ro rb x s _ _ a w mu N hro h hr (hQ.then _) ?_)
    intro e s' a' w' mu' hk' hm hr'
    cases e with
    | normal => exact ih'.1 ro rb y s' k Q a' w' mu' N hro hk' hr' hQ (hk.later hm)
    | exit id => exact hk _ s' a' w' mu' hk' hm hr'
    | ret => exact hk _ s' a' w' mu' hk' hm hr'
  | cond c x y =>
    simp only [ex_succ, exStep] at h
    split at h
    · rename_i v hv
      split at h
      · rename_i t ht
        have h1 := evo_okA g.old hr.tmok hv
        rw [boolq_ok hr.gm ht, Option.some.injEq] at h1
        refine wpIn_cond h1.symm ?_
        cases t
        · exact ih'.1 ro rb y s k Q a w mu N hro h hr hQ hk
        · exact ih'.1 ro rb x s k Q a w mu N hro h hr hQ hk
      · rename_i r ht
        obtain ⟨G', hr', h'⟩ := onAsk_go hr (boolq_ask ht).ok h
        exact ih'.1 ro rb _ _ k Q a w mu N hro h' hr' hQ hk
    · cases h
  | block id c =>
    simp only [ex_succ, exStep] at h
    refine wpIn_block (ih'.1 ro rb c s _ _ a w mu N hro h hr (hQ.inBlock _) ?_)
    intro e s' a' w' mu' hk' hm hr'
    cases e with
    | normal => exact hk _ s' a' w' mu' hk' hm hr'
    | ret => exact hk _ s' a' w' mu' hk' hm hr'
    | exit id' =>
      simp only [exitOf, Exit.inBlock]
      simp only at hk'
      cases hb : Nat.beq id id' with
      | true =>
        rw [hb] at hk'
        rw [if_pos (Nat.eq_of_beq_eq_true hb).symm]
        exact hk .normal s' a' w' mu' hk' hm hr'
      | false =>
        rw [hb] at hk'
        rw [if_neg fun e => Nat.ne_of_beq_eq_false hb e.symm]
        exact hk (.exit id') s' a' w' mu' hk' hm hr'
  | loop c =>
    have key : ∀ m, m ≤ n + 1 → ∀ (s : St) (a : Act) (w : World) (mu : Mu), ex C m (.code ro (.loop c)) s k = true → Rel E mu s a w → Post E k mu Q → Code.roundsIn (fz rb) N P c Q m a w := by
      intro m
      induction m with
      | zero => intro _ s a w mu h; simp [ex_zero, ex_succ, exStep] at h
      | succ m im =>
        intro hm s a w mu h hr hk
        simp only [ex_succ, exStep] at h
        rw [roundsIn_succ]
        refine (ih m (by omega)).1 ro rb c s _ _ a w mu N hro h hr (hQ.then _) ?_
        intro e s' a' w' mu' hk' hm' hr'
        cases e with
        | normal => exact im (by omega) s' a' w' mu' hk' hr' (hk.later hm')
        | exit id => exact hk _ s' a' w' mu' hk' hm' hr'
        | ret => exact hk _ s' a' w' mu' hk' hm' hr'
    exact wpIn_loop_rounds _ (key (n + 1) (Nat.le_refl _) s a w mu h hr hk)
  | region id ops draw =>
    simp only [ex_succ, exStep] at h
    cases draw with
    | false =>
      simp only [cond_false] at h
      refine wpIn_region ?_
      have := ih'.2.1 ro rb ops 0 ops.toList s k Q a w mu N hro (by simp) h hr hQ hk
      simpa [List.range_eq_range'] using this
    | true =>
      simp only [cond_true] at h
      cases hreg : regOK ops with
      | false => rw [hreg] at h; cases h
      | true =>
        rw [hreg] at h
        simp only [cond_true] at h
        refine wpIn_region_any g.mixed (WA.any (I := fun _ _ => True) (D := []) ?_)
        have hnum : ∀ (l : List Oper) (j i m : Nat) (o : Oper), (i, m, o) ∈ number j l ↔ (j ≤ i ∧ l[i - j]? = some o ∧ m = maskOf o.after.toList) := by
          intro l
          induction l with
          | nil => intro j i m o; simp [number]
          | cons x l il =>
            intro j i m o
            simp only [number, List.mem_cons, il, Prod.mk.injEq]
            constructor
            · rintro (⟨rfl, rfl, rfl⟩ | ⟨h1, h2, h3⟩)
              · simp
              · refine ⟨by omega, ?_, h3⟩
                obtain ⟨d, rfl⟩ : ∃ d, i = j + 1 + d := ⟨i - (j + 1), by omega⟩
                have e1 : j + 1 + d - (j + 1) = d := by omega
                have e2 : j + 1 + d - j = d + 1 := by omega
                rw [e1] at h2; rw [e2]; simpa using h2
            · rintro ⟨h1, h2, h3⟩
              by_cases e : i = j
              · subst e
                simp at h2; subst h2; exact .inl ⟨rfl, h3, rfl⟩
              · right
                refine ⟨by omega, ?_, h3⟩
                obtain ⟨d, rfl⟩ : ∃ d, i = j + 1 + d := ⟨i - (j + 1), by omega⟩
                have e1 : j + 1 + d - (j + 1) = d := by omega
                have e2 : j + 1 + d - j = d + 1 := by omega
                rw [e2] at h2; rw [e1]; simpa using h2
        have hnl : ∀ (l : List Oper) (j : Nat), (number j l).map (·.1) = List.range' j l.length := by
          intro l
          induction l with
          | nil => intro j; rfl
          | cons x l il => intro j; simp [number, il, List.range'_succ]
        have hr' : Rel E mu s a { w with drawn := w.drawn + 1 } := ⟨hr.tm, hr.hp.of_heap rfl rfl rfl rfl, hr.gm, hr.df⟩
        refine ih'.2.2.2 ro rb ops [] (number 0 ops.toList) 0 [] s k Q a _ mu N _ [] ops.size _ hro h hr' hQ (fun s' a' w' mu' hk' hm hr' => hk .normal s' a' w' mu' hk' hm hr') hreg
          ⟨by simp, ?_, ?_, ?_, ?_⟩ ?_ ?_ ?_ ?_
        · intro i; by_cases hi : i < ops.size <;> simp [hi]
        · intro i hi
          simp only [List.nil_append, hnum]
          simp [hi]
        · intro i m o hm
          simp only [List.nil_append, hnum] at hm
          obtain ⟨_, h1, h2⟩ := hm
          exact ⟨by simpa using h1, h2⟩
        · rw [List.nil_append, hnl]; exact List.nodup_range'
        · have := congrArg List.length (hnl ops.toList 0)
          simp only [List.length_map, List.length_range', Array.length_toList] at this
          simp [this]
        · intro e he; cases he
        · intro p hp; cases hp
        · intro _ _ _ _; trivial
  | rangeFunc gf ps asg body =>
    simp only [ex_succ, exStep] at h
    split at h
    · rename_i f cap hv
      split at h
      · rename_i fd hfd
        obtain rfl := hro rfl
        have hvc := evo_okA g.old hr.tmok hv
        simp only [cav, csv, Option.map_eq_some_iff] at hvc
        obtain ⟨cl, hcl, hev⟩ := hvc
        refine wpIn_rangeFunc fun fn _ => ?_
        have hd0 := (hr.hp.dom s.hp.nx (Nat.le_refl _)).1
        have p1 : HRel E (mu.add s.hp.nx (w.heap.size, 0)) (s.hp.push (.dfr true)) (w.alloc (.deferred (some []))) := hr.hp.push rfl
        have le1 : Mu.le mu (mu.add s.hp.nx (w.heap.size, 0)) := Mu.le_add hd0
        have hd1 := (p1.dom (s.hp.push (.dfr true)).nx (Nat.le_refl _)).1
        have hnx : (s.hp.push (.dfr true)).nx = s.hp.nx + 1 := rfl
        have hsz : (w.alloc (.deferred (some []))).heap.size = w.heap.size + 1 := by simp
        rw [hnx] at hd1
        have le2 : Mu.le (mu.add s.hp.nx (w.heap.size, 0)) ((mu.add s.hp.nx (w.heap.size, 0)).add (s.hp.nx + 1) (w.heap.size + 1, 0)) := Mu.le_add hd1
        have p2 := p1.push (c := 0) (o := .loop .ready none s.tm s.nt ps.toList asg body s.hp.nx)
          (ob := .loop { state := .ready, pending := none, fn, tmps := a.tmps, params := ps, assign := asg, body, defers := w.heap.size })
          (by rw [hnx, hsz]; exact ⟨rfl, rfl, tmRel_mono (Mu.le_trans le1 le2) hr.tm, rfl, rfl, rfl, _, le2 _ _ (Mu.add_same _ _ _), rfl⟩)
        rw [hnx, hsz] at p2
        have le3 := Mu.le_trans le1 le2
        have hmd : (mu.add s.hp.nx (w.heap.size, 0)).add (s.hp.nx + 1) (w.heap.size + 1, 0) s.hp.nx = some (w.heap.size, 0) := le2 _ _ (Mu.add_same _ _ _)
        have hml : (mu.add s.hp.nx (w.heap.size, 0)).add (s.hp.nx + 1) (w.heap.size + 1, 0) (s.hp.nx + 1) = some (w.heap.size + 1, 0) := Mu.add_same _ _ _
        generalize (mu.add s.hp.nx (w.heap.size, 0)).add (s.hp.nx + 1) (w.heap.size + 1, 0) = mu2 at *
        have hent := run_enterLoop_outer (P := P) (w := w) fn a.tmps ps asg body
        generalize ((w.alloc (.deferred (some []))).alloc (.loop { state := .ready, pending := none, fn, tmps := a.tmps, params := ps, assign := asg, body, defers := w.heap.size })) = W at p2 hent
        refine ⟨w.heap.size + 1, [{ target := .collected w.heap.size, args := #[] }], W, { target := .fn (.func f) cl.toArray, args := #[.func (.yield (w.heap.size + 1)) #[] #[]] }, W, f, (Value.func (.yield (w.heap.size + 1)) #[] #[] :: cl).toArray, W,
          hent, ?_, fun f' _ => trivial, ?_, (fun h => by cases h), ?_⟩
        · have hres : resolve a.eval (rangeCall gf (w.heap.size + 1)) 0 = Deferred.ofValue (a.eval gf) #[.func (.yield (w.heap.size + 1)) #[] #[]] := by
            unfold resolve
            simp only [List.map_toArray, List.map]
            rfl
          rw [hres, ← hev]; simp [Deferred.ofValue]
        · have := run_callFunc (P := P) g.fn hfd (#[.func (.yield (w.heap.size + 1)) #[] #[]] ++ cl.toArray) W
          simpa [invoke] using this
        · refine ih'.2.2.1 f _ _ _ _ _ mu2 _ _ h p2 hr.gm (om_cons.2 ⟨_, _, by simp [cav, csv, hml], capPtrs_ok (om_mono' le3 hcl), rfl⟩) ?_
          intro v h' G' cv w' mu' hk' hm' _ hh' hg'
          simp only at hk'
          split at hk'
          · rename_i st pend tm nt ps' asg' body' df hobj
            obtain ⟨b, c, ob, q1, q2, q3, q4⟩ := hh'.obj _ _ hobj rfl
            rw [hm' _ _ hml] at q1; cases q1
            cases ob <;> simp only [orel] at q4
            rename_i r
            obtain ⟨r1, r2, r3, r4, r5, r6, r7⟩ := q4
            split at hk'
            · cases hk'
            · rename_i hbusy
              have hnb : r.state ≠ .busy := by
                rw [r1]
                intro e
                exact hbusy e
              refine ⟨r.pending, _, run_endLoop q3 hnb, ?_⟩
              have hu := Upd.putObj (.loop { r with state := .exhausted }) (lt_of_heap q3)
              have hset := hh'.set hobj rfl (hm' _ _ hml) (o' := .loop .exhausted pend tm nt ps' asg' body' df) (ob' := .loop { r with state := .exhausted }) ⟨rfl, r2, r3, r4, r5, r6, r7⟩ hu
              have le4 := Mu.le_trans le3 hm'
              have rel2 : Rel E mu' { s with df := s.hp.nx :: s.df, hp := { h' with m := h'.m.set (s.hp.nx + 1) (.loop .exhausted pend tm nt ps' asg' body' df) }, gm := G' } { a with defers := [{ target := .collected w.heap.size, args := #[] }] ++ a.defers } (w'.putObj (w.heap.size + 1) (.loop { r with state := .exhausted })) :=
                ⟨tmRel_mono le4 hr.tm, hset, hg', ⟨⟨(w.heap.size, 0), hm' _ _ hmd, rfl⟩, dfRel_mono le4 hr.df⟩⟩
              rw [r2] at rel2 ⊢
              split at hk'
              · exact hk .normal _ _ _ _ hk' le4 rel2
              · exact wpIn_exit (hk (.exit _) _ _ _ _ hk' le4 rel2)
              · exact wpIn_ret (hk .ret _ _ _ _ hk' le4 rel2)
              · cases hk'
          · cases hk'
      · cases h
    · cases h
  | _ => simp [ex_zero, ex_succ, exStep] at h
end
end Sx
