/- a part of the executor and of its soundness -/
import Derived.Test.YtehclnpgbgppeaaDoorSxV
namespace Sx
open Go Go.RowKit

section
variable {E : Env} {P : Program} {C : Cx}

theorem gops (g : Good E P C) {n : Nat} (ihO : GOps E P C n) (ih1 : GOne E P C n) : GOps E P C (n + 1) := by
  intro ro rb ops j l s k Q a w mu N hro hl h hr hQ hk
  cases l with
  | nil => simp only [ex_succ, exStep] at h; exact hk .normal s a w mu h (Mu.le_refl _) hr
  | cons o rest =>
    have hj : ops[j]? = some o := by
      have := congrArg (·[0]?) hl
      simpa using this
    have hl' : ops.toList.drop (j + 1) = rest := by
      rw [← List.drop_drop, hl]; rfl
    simp only [List.length_cons, List.range'_succ, wpOpsIn, hj]
    simp only [ex_succ, exStep] at h
    split at h
    · rename_i hw
      rw [wantq_ok hr hw]
      simp only [if_true]
      refine ih1 ro rb o s _ _ Q a w mu N hro h hr ?_
      intro s' a' w' mu' hk' hm hr'
      exact ihO ro rb ops (j + 1) rest s' k Q a' w' mu' N hro hl' hk' hr' hQ (hk.later hm)
    · rename_i hw
      rw [wantq_ok hr hw]
      simp only [Bool.false_eq_true, if_false]
      refine ⟨fun f _ => fz_fn rb f, ?_⟩
      exact ihO ro rb ops (j + 1) rest _ k Q _ w mu N hro hl' h (hr.put (Mu.le_refl _) (cv := undef) rfl hr.hp) hQ hk
    · rename_i r hw
      obtain ⟨G', hr', h'⟩ := onAsk_go hr (wantq_ask hw).ok h
      have := ihO ro rb ops j (o :: rest) _ k Q a w mu N hro hl h' hr' hQ hk
      simpa only [List.length_cons, List.range'_succ, wpOpsIn, hj] using this

theorem notDefer {s : St} {G : Gam} {h : Hp} {o : Oper} (hb : doOp C G h s.tm o.op ≠ .bad) : ∀ c, o.op ≠ .defer c := by
  intro c hc
  rw [hc] at hb
  exact hb rfl

theorem gone (g : Good E P C) {n : Nat} (ihC : GCode E P C n) (ihCall : GCall E P C n) (ih1 : GOne E P C n) : GOne E P C (n + 1) := by
  intro ro rb o s k next Q a w mu N hro h hr hk
  have hop := doOp_ok hr.hp hr.gm g.ty g.old g.fn hr.tmok o
  by_cases hbad : doOp C s.gm s.hp s.tm o.op = .bad
  · simp only [ex_succ, exStep, hbad, onAsk] at h; cases h
  refine ⟨fun f _ => fz_fn rb f, ?_⟩
  rw [Oper.semAt_eq _ _ _ (notDefer hbad)]
  simp only [ex_succ, exStep] at h
  split at h
  · rename_i v h' hd
    rw [hd] at hop
    obtain ⟨cv, mu', w', e1, e2, e3, e4⟩ := hop
    rw [e1]
    exact hk _ _ _ mu' h e2 (hr.put e2 e3 e4)
  · rename_i h' hd
    rw [hd] at hop
    obtain ⟨mu', w', e1, e2, e3⟩ := hop
    rw [e1]
    exact hk _ _ _ mu' h e2 (hr.put e2 (cv := undef) rfl e3)
  · rename_i f args hd
    rw [hd] at hop
    obtain ⟨vs, e1, e2⟩ := hop
    rw [e1]
    refine ⟨fz_one, fz_calls ?_⟩
    refine CallsIn.mono (R := fun e w' => match e with | .returned v => next (a.put o.dst v) w' | _ => False) (ihCall f args s _ _ w mu vs _ h hr.hp hr.gm e2 ?_) ?_
    · intro v h' G' cv w' mu' hk' hm hv hh hg
      exact hk _ _ _ mu' hk' hm ((hr.withGm hg).put hm hv hh)
    · intro e w' he
      cases e <;> first | exact he | exact he.elim
  · rename_i l args hd
    rw [hd] at hop
    obtain ⟨vs, b, c, e1, e2, e3⟩ := hop
    rw [e3]
    split at h
    · rename_i st pd tm nt ps asg body df hobj
      obtain ⟨b', c', ob, q1, q2, q3, q4⟩ := hr.hp.obj _ _ hobj rfl
      rw [e1] at q1; cases q1
      cases ob <;> simp only [orel] at q4
      rename_i r
      obtain ⟨r1, r2, r3, r4, r5, r6, r7⟩ := q4
      split at h
      · rename_i tm' htm
        obtain ⟨hlen, htm'⟩ := setAll_ok r3 e2 htm
        have hsz : vs.toArray.size = r.params.size := by
          rw [← Array.length_toList (xs := r.params), r4]; simpa using hlen
        rw [run_yield q3 hsz]
        refine ⟨fz_one, ?_⟩
        rw [r5, r6]
        refine roundIn_of_wpIn (fz_fn rb _) ?_
        rw [fz_in]
        have hfold : (r.params.zip vs.toArray).foldl (fun tmps (t, a) => tmps.setIfInBounds t a) r.tmps = (ps.zip vs).foldl (fun tmps (p : Nat × Value) => tmps.setIfInBounds p.1 p.2) r.tmps := by
          rw [← r4, ← Array.foldl_toList]
          simp [Array.toList_zip]
        rw [hfold]
        refine ihC (some l) (some b) asg _ _ _ _ w mu _ (fun h => by cases h) h ⟨htm', hr.hp, hr.gm, trivial⟩ (fun c a w hq => hq) ?_
        intro e1' s1 a1 w1 mu1 hk1 hm1 hr1
        cases e1' with
        | exit id => simp at hk1
        | ret => simp at hk1
        | normal =>
          simp only at hk1
          split at hk1
          · rename_i pend tm2 nt2 ps2 asg2 body2 df2 hobj1
            obtain ⟨b1, c1, ob1, q1', _, q3', q4'⟩ := hr1.hp.obj _ _ hobj1 rfl
            rw [hm1 _ _ e1] at q1'; cases q1'
            cases ob1 <;> simp only [orel] at q4'
            rename_i r'
            obtain ⟨t1, t2, t3, t4, t5, t6, t7⟩ := q4'
            refine ⟨_, run_beginRound q3' t1, ?_⟩
            have hset := hr1.hp.set hobj1 rfl (hm1 _ _ e1) (o' := .loop .busy pend tm2 nt2 ps2 asg2 body2 df2) (ob' := .loop { r' with state := .busy }) ⟨rfl, t2, t3, t4, t5, t6, t7⟩ (Upd.putObj _ (lt_of_heap q3'))
            refine ihC (some l) (some b) body _ _ _ _ _ mu1 _ (fun h => by cases h) hk1 ⟨hr1.tm, hset, hr1.gm, hr1.df⟩ (fun c a w hq => hq) ?_
            intro e2' s2 a2 w2 mu2 hk2 hm2 hr2
            simp only at hk2
            split at hk2
            · rename_i st3 pend3 tm3 nt3 ps3 asg3 body3 df3 hobj2
              obtain ⟨b2, c2, ob2, q1'', _, q3'', q4''⟩ := hr2.hp.obj _ _ hobj2 rfl
              have hm12 := Mu.le_trans hm1 hm2
              rw [hm12 _ _ e1] at q1''; cases q1''
              cases ob2 <;> simp only [orel] at q4''
              rename_i r''
              obtain ⟨u1, u2, u3, u4, u5, u6, u7⟩ := q4''
              have fin : ∀ (jump : Option Code), codeOf e2' = jump → ∃ v w', (Instr.endRound b jump).run P w2 = .ok v w' ∧ next (a.put o.dst v) w' := by
                intro jump hj
                rw [hj] at hk2
                refine ⟨_, _, run_endRound jump q3'', ?_⟩
                have hset2 := hr2.hp.set hobj2 rfl (hm12 _ _ e1) (o' := .loop (bif jump.isNone then .ready else .done) jump tm3 nt3 ps3 asg3 body3 df3)
                  (ob' := .loop { r'' with state := if jump.isNone then .ready else .done, pending := jump }) ⟨by cases jump <;> rfl, rfl, u3, u4, u5, u6, u7⟩ (Upd.putObj _ (lt_of_heap q3''))
                exact hk _ _ _ mu2 hk2 hm12 ((hr.withGm hr2.gm).put hm12 (v := .s (.bool jump.isNone)) rfl hset2)
              cases e2' with
              | normal => exact fin none rfl
              | exit id => exact fin (some (.exit id)) rfl
              | ret => exact fin (some .ret) rfl
            · cases hk2
          · cases hk1
      · cases h
    · cases h
  · rename_i r h1 h2 h3 h4
    have hask : askOK E.V (doOp C s.gm s.hp s.tm o.op) := by
      revert hop
      cases doOp C s.gm s.hp s.tm o.op <;> intro hop <;> first | exact hop | trivial
    obtain ⟨G', hr', h'⟩ := onAsk_go hr hask h
    have := ih1 ro rb o _ k next Q a w mu N hro h' hr' hk
    have h2 := this.2
    rwa [Oper.semAt_eq _ _ _ (notDefer hbad)] at h2

/-! ### Calls -/
theorem undfr_ok {fn : Func} {tmps : Array Value} {R : Ending → World → Prop} {N : Nat} : ∀ {l : List Nat} {ds : List Deferred} {h h' : Hp} {mu : Mu} {w : World}, undfr h l = some h' → dfRel mu l ds → HRel E mu h w →
    (∀ w', HRel E mu h' w' → ∃ v, (results fn tmps).run P w' = .ok v w' ∧ R (.returned v) w') → LeavesInM Fence.wide N P fn tmps R ds .returning w
  | [], [], h, h', mu, w, hu, _, hh, hk => by simp [undfr] at hu; subst hu; exact hk w hh
  | d :: l, x :: ds, h, h', mu, w, hu, hd, hh, hk => by
    obtain ⟨⟨p, hp, rfl⟩, hd⟩ := hd
    simp only [undfr] at hu
    split at hu
    · rename_i hobj
      obtain ⟨b, c, ob, q1, q2, q3, q4⟩ := hh.obj _ _ hobj rfl
      rw [hp] at q1; cases q1
      cases ob <;> simp only [orel] at q4
      simp only [if_true] at q4
      subst q4
      have hset := hh.set hobj rfl hp (o' := .dfr false) (ob' := .deferred none) rfl (Upd.putObj _ (lt_of_heap q3))
      refine ⟨fun e => (by cases e), .inl ⟨b, _, rfl, run_takeDeferred q3, ?_⟩⟩
      exact undfr_ok hu hd hset hk
    · cases hu
  | [], _ :: _, _, _, _, _, _, hd, _, _ => hd.elim
  | _ :: _, [], _, _, _, _, _, hd, _, _ => hd.elim

def resS (tmps : Array Value) : ResultVar → Sem Value
  | .tmp t => pure (tmps.getD t undef)
  | .cell x t => do loadVar t (← asAddr (tmps.getD x undef))

theorem resOf_ok (g : Good E P C) {mu : Mu} {w : World} {G : Gam} {h : Hp} {tm : T AV} {a : Act} (hh : HRel E mu h w) (hg : Sat E.V G) (ht : TmOK E mu tm a) : ∀ {l : List ResultVar} {vs : List AV}, resOf C G h tm l = some vs →
    ∃ cs, cavs E mu vs = some cs ∧ (l.mapM (resS a.tmps)).run P w = .ok cs w
  | [], vs, hv => by simp [resOf] at hv; subst hv; exact ⟨[], rfl, by simp⟩
  | .tmp t :: l, vs, hv => by
    simp only [resOf] at hv
    split at hv
    · rename_i vs' hvs
      cases hv
      obtain ⟨cs, h1, h2⟩ := resOf_ok g hh hg ht hvs
      have h3 := ht.2 t
      refine ⟨a.tmps.getD t undef :: cs, om_cons.2 ⟨_, _, ?_, h1, rfl⟩, by rw [List.mapM_cons]; simp [Sem.run_bind, h2, resS]⟩
      cases hget : tm.get t <;> rw [hget] at h3 <;> simpa using h3
    · cases hv
  | .cell x t :: l, vs, hv => by
    simp only [resOf] at hv
    split at hv
    · rename_i ad had
      split at hv
      · rename_i v h' vs' hl hvs
        cases hv
        obtain ⟨cs, h1, h2⟩ := resOf_ok g hh hg ht hvs
        have h3 := ht.2 x
        rw [had] at h3
        simp only [Option.getD_some] at h3
        have h4 := doLoad_ok (P := P) hh g.old g.ty hg h3 (t := t)
        rw [hl] at h4
        obtain ⟨_, cv, h5, h6⟩ := h4
        have hp : ∃ b off, a.tmps.getD x undef = .pointer (some ⟨b, off, none⟩) := by
          unfold doLoad at hl
          split at hl
          · simp only [cav, csv, Option.map_eq_some_iff] at h3
            obtain ⟨b, _, h3⟩ := h3
            exact ⟨b, _, h3.symm⟩
          · cases hl
        obtain ⟨b, off, hp⟩ := hp
        have h7 : (resS a.tmps (.cell x t)).run P w = .ok cv w := by
          rw [hp] at h6
          simp only [resS, hp]
          simpa [Instr.loadAt, Instr.sureAddr, Sem.run_bind, asAddr] using h6
        refine ⟨cv :: cs, om_cons.2 ⟨_, _, h5, h1, rfl⟩, ?_⟩
        rw [List.mapM_cons]
        simp [h7, h2, Sem.run_bind]
      · cases hv
    · cases hv

theorem results_run {fn : Func} {tmps : Array Value} {w : World} {cs : List Value} (h : (fn.results.toList.mapM (resS tmps)).run P w = .ok cs w) :
    (results fn tmps).run P w = .ok (if h : cs.toArray.size = 1 then cs.toArray[0] else .tuple cs.toArray) w := by
  have e : results fn tmps = (do let vs ← fn.results.mapM (resS tmps); pure (if h : vs.size = 1 then vs[0] else .tuple vs)) := by
    unfold results
    congr 1
  rw [e]
  simp [Sem.run_bind, Array.mapM_eq_mapM_toList, h]

theorem aps_ok {mu : Mu} : ∀ {l : List AV} {ps : List AP}, aps l = some ps → caps E mu ps = cavs E mu l
  | [], ps, h => by simp [aps] at h; subst h; rfl
  | v :: l, ps, h => by
    simp only [aps] at h
    split at h
    · rename_i p q hp hq
      cases h
      have ih := aps_ok (mu := mu) hq
      have : cap_ E mu p = cav E mu v := by
        cases v <;> simp [AP.of] at hp <;> subst hp <;> rfl
      simp only [caps, cavs, om] at ih ⊢
      rw [this, ih]
    · cases h
theorem tupOf_ok {mu : Mu} {l : List AV} {v : AV} {cs : List Value} (h : tupOf l = some v) (hc : cavs E mu l = some cs) :
    cav E mu v = some (if h : cs.toArray.size = 1 then cs.toArray[0] else .tuple cs.toArray) := by
  unfold tupOf at h
  split at h
  · rename_i x
    cases h
    obtain ⟨y, ys, h1, h2, rfl⟩ := om_cons.1 hc
    simp [om] at h2; subst h2
    simpa using h1
  · rename_i hne
    split at h
    · rename_i ps hps
      cases h
      have hl := om_length hc
      have h1 : cs.toArray.size ≠ 1 := by
        intro e
        have e1 : l.length = 1 := by rw [← hl]; simpa using e
        match l, e1 with
        | [x], _ => exact hne x rfl
      have := aps_ok (E := E) (mu := mu) hps
      simp only [cav, this, hc, Option.map_some]
      rw [dif_neg h1]
    · cases h

theorem gcall (g : Good E P C) {n : Nat} (ihC : GCode E P C n) : GCall E P C (n + 1) := by
  intro f args s k R w mu vs m h hh hg hv hk
  simp only [ex_succ, exStep] at h
  split at h
  · rename_i outs hsu
    refine g.su.su f args _ _ outs hsu mu w vs m R hh hg hv ?_
    have : ∀ {l : List (AV × Hp × Gam)}, allOut s k l = true → ∀ v h' G', (v, h', G') ∈ l → k (.v v) { s with hp := h', gm := G' } = true := by
      intro l
      induction l with
      | nil => intro _ v h' G' hm; cases hm
      | cons x l ih =>
        intro ha v h' G' hm
        obtain ⟨x1, x2, x3⟩ := x
        simp only [allOut, Bool.and_eq_true] at ha
        rcases List.mem_cons.1 hm with e | hm
        · cases e; exact ha.1
        · exact ih ha.2 v h' G' hm
    intro v h' G' cv w' mu' hm
    exact hk v h' G' cv w' mu' (this h v h' G' hm)
  · split at h
    · rename_i fn hfn
      split at h
      · rename_i c hc
        cases hle : Nat.ble args.length fn.ntmps with
        | false => rw [hle] at h; cases h
        | true =>
          rw [hle] at h
          simp only [Bool.not_true, cond_false] at h
          refine callsIn_of_wp_marks (g.fn.fn f fn hfn).1 hc trivial ?_
          have hw := ihC none none c _ _ (fun e a w => match e with | .panic _ => False | e => bodyPostM Fence.wide m P fn R e a w) { tmps := vs.toArray ++ Array.replicate (fn.ntmps - vs.toArray.size) undef, defers := [] } w mu m (fun _ => rfl) h
            ⟨tmRel_enter hv (Nat.le_of_ble_eq_true hle), hh, hg, trivial⟩ (fun c a w hq => hq) ?_
          · refine wpIn_mono hw ?_
            intro e a w hq
            cases e <;> first | exact hq | exact hq.elim
          · intro e s' a' w' mu' hk' hm hr'
            have fin : (match undfr s'.hp s'.df with
              | some h => match resOf C s'.gm h s'.tm fn.results.toList with
                | some vs => match tupOf vs with
                  | some v => k (.v v) { s with hp := h, gm := s'.gm }
                  | none => false
                | none => false
              | none => false) = true → LeavesInM Fence.wide m P fn a'.tmps R a'.defers .returning w' := by
              intro hk'
              split at hk'
              · rename_i h2 hu
                split at hk'
                · rename_i vs2 hres
                  split at hk'
                  · rename_i v htup
                    refine undfr_ok hu hr'.df hr'.hp ?_
                    intro w2 hh2
                    obtain ⟨cs, c1, c2⟩ := resOf_ok g hh2 hr'.gm hr'.tmok hres
                    refine ⟨_, ?_, hk v h2 s'.gm _ w2 mu' hk' hm (tupOf_ok htup c1) hh2 hr'.gm⟩
                    exact results_run c2
                  · cases hk'
                · cases hk'
              · cases hk'
            cases e with
            | normal => exact fin hk'
            | ret => exact fin hk'
            | exit id => simp at hk'
      · cases h
    · cases h
end
end Sx
