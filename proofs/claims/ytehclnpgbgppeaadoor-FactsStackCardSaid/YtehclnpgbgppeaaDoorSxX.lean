/- The executor is sound: a run that ends well shows what a call does (ex_call); it asks Good. -/
import Derived.Test.YtehclnpgbgppeaaDoorSxW
namespace Sx
open Go Go.RowKit

section
variable {ops : Array Oper} {listed : Array Bool} {L : Nat} {un un' : List (Nat × Nat × Oper)}

theorem DS.perm (h : DS ops listed L un) (hp : un.Perm un') : DS ops listed L un' :=
  ⟨h.size, h.bits, fun i hi => (h.unl i hi).trans ⟨fun ⟨m, o, hm⟩ => ⟨m, o, hp.mem_iff.1 hm⟩, fun ⟨m, o, hm⟩ => ⟨m, o, hp.mem_iff.2 hm⟩⟩,
   fun i m o hm => h.ent i m o (hp.mem_iff.2 hm), (hp.map _).nodup_iff.1 h.nd⟩

theorem DS.lt (h : DS ops listed L un) {i m : Nat} {o : Oper} (hm : (i, m, o) ∈ un) : i < ops.size :=
  (Array.getElem?_eq_some_iff.1 (h.ent i m o hm).1).1

theorem DS.take {i m : Nat} {o : Oper} (h : DS ops listed L ((i, m, o) :: un)) : DS ops (listed.setIfInBounds i true) (Nat.lor (Nat.shiftLeft 1 i) L) un := by
  have hi := h.lt (List.mem_cons_self ..)
  have hi' : i < listed.size := by rw [h.size]; exact hi
  have hnd := h.nd
  simp only [List.map_cons, List.nodup_cons] at hnd
  refine ⟨by simp [h.size], fun j => ?_, fun j hj => ?_, fun j m o hm => h.ent j m o (List.mem_cons_of_mem _ hm), hnd.2⟩
  · rw [bit_set, ← h.bits j]
    by_cases e : i = j
    · subst e; simp [hi']
    · simp [Array.getElem?_setIfInBounds_ne e, e]
  · by_cases e : i = j
    · subst e
      constructor
      · intro h1; simp [hi'] at h1
      · rintro ⟨m', o', hm⟩
        exact absurd (List.mem_map.2 ⟨_, hm, rfl⟩) hnd.1
    · rw [getD_set_ne true e, h.unl j hj]
      constructor
      · rintro ⟨m', o', hm⟩
        rcases List.mem_cons.1 hm with he | hm
        · cases he; exact absurd rfl e
        · exact ⟨m', o', hm⟩
      · rintro ⟨m', o', hm⟩; exact ⟨m', o', List.mem_cons_of_mem _ hm⟩

theorem DS.ready (h : DS ops listed L un) {i m : Nat} {o : Oper} (hm : (i, m, o) ∈ un) : i ∈ Region.ready .any ops listed ↔ readyq L m = true := by
  obtain ⟨ho, rfl⟩ := h.ent i m o hm
  rw [mem_ready, readyq_iff]
  constructor
  · rintro ⟨_, o', ho', hall⟩ j hj
    rw [ho] at ho'; cases ho'
    obtain ⟨e, he, hb, rfl⟩ := (maskOf_bit _ j).1 hj
    rw [← h.bits]
    exact hall e (by simpa using he) hb
  · intro hall
    refine ⟨(h.unl i (h.lt hm)).2 ⟨_, _, hm⟩, o, ho, fun e he hb => ?_⟩
    rw [h.bits]
    exact hall e.on ((maskOf_bit _ _).2 ⟨e, by simpa using he, hb, rfl⟩)

theorem DS.of_ready (h : DS ops listed L un) {i : Nat} (hr : i ∈ Region.ready .any ops listed) : ∃ m o, (i, m, o) ∈ un ∧ readyq L m = true := by
  obtain ⟨h1, o, ho, _⟩ := mem_ready.1 hr
  have hi : i < ops.size := (Array.getElem?_eq_some_iff.1 ho).1
  obtain ⟨m, o', hm⟩ := (h.unl i hi).1 h1
  exact ⟨m, o', hm, (h.ready hm).1 hr⟩

theorem DS.done (h : DS ops listed L []) : Region.ready .any ops listed = [] := by
  cases hr : Region.ready .any ops listed with
  | nil => rfl
  | cons i l =>
    obtain ⟨m, o, hm, _⟩ := h.of_ready (i := i) (by rw [hr]; exact List.mem_cons_self ..)
    cases hm

theorem revOn_perm : ∀ (a b : List (Nat × Nat × Oper)), (revOn a b).Perm (a ++ b)
  | [], b => .refl _
  | x :: a, b => (revOn_perm a (x :: b)).trans List.perm_middle

theorem pickReady_ok : ∀ {l : List (Nat × Nat × Oper)} {x : Nat × Nat × Oper} {r : List (Nat × Nat × Oper)}, pickReady L l = some (x, r) →
    l.Perm (x :: r) ∧ readyq L x.2.1 = true ∧ ∀ y ∈ r, readyq L y.2.1 = false
  | [], x, r, h => by simp [pickReady] at h
  | (i, m, o) :: l, x, r, h => by
    simp only [pickReady] at h
    cases hq : readyq L m with
    | true =>
      rw [hq] at h
      simp only [cond_true] at h
      cases ha : l.all (fun p => !readyq L p.2.1) with
      | false => rw [ha] at h; cases h
      | true =>
        rw [ha] at h; cases h
        refine ⟨.refl _, hq, fun y hy => ?_⟩
        have := List.all_eq_true.1 ha y hy
        simpa using this
    | false =>
      rw [hq] at h
      simp only [cond_false] at h
      split at h
      · rename_i p r' hp
        cases h
        obtain ⟨h1, h2, h3⟩ := pickReady_ok hp
        refine ⟨(h1.cons _).trans (List.Perm.swap _ _ _), h2, fun y hy => ?_⟩
        rcases List.mem_cons.1 hy with rfl | hy
        · exact hq
        · exact h3 y hy
      · cases h

theorem regOK_spec (h : regOK ops = true) : (∀ (j : Nat) (o : Oper) cs b, ops[j]? = some o → o.op ≠ .select cs b) ∧ (∀ (j : Nat) (o : Oper) c, ops[j]? = some o → o.op ≠ .defer c) ∧
    ∀ i j oi oj, ops[i]? = some oi → ops[j]? = some oj → i = j ∨ waitsFor oj i = true ∨ waitsFor oi j = true ∨ oi.apart ops oj = true := by
  unfold regOK at h
  simp only [Bool.and_eq_true] at h
  obtain ⟨⟨h1, h2⟩, h3⟩ := h
  refine ⟨Region.noSelect_spec h1, fun j o c ho hc => ?_, fun i j oi oj hi hj => ?_⟩
  · have := Array.all_eq_true_iff_forall_mem.1 h2 o (Array.mem_of_getElem? ho)
    simp [noDefer, hc] at this
  · have m1 : (oi, i) ∈ ops.toList.zipIdx := by rw [List.mem_zipIdx_iff_getElem?]; simpa using hi
    have m2 : (oj, j) ∈ ops.toList.zipIdx := by rw [List.mem_zipIdx_iff_getElem?]; simpa using hj
    have := List.all_eq_true.1 (List.all_eq_true.1 h3 _ m1) _ m2
    simp only [Bool.or_eq_true] at this
    rcases this with ((h | h) | h) | h
    · exact .inl (Nat.eq_of_beq_eq_true h)
    · exact .inr (.inl h)
    · exact .inr (.inr (.inl h))
    · exact .inr (.inr (.inr h))
end

section
variable {E : Env} {P : Program} {C : Cx}

theorem PRel.later {mu mu' : Mu} {w : World} {p : Pend} {S : Sem Next} {cv : Value} (h : PRel E P mu w p S cv) (hm : Mu.le mu mu') : PRel E P mu' w p S cv := by
  obtain ⟨⟨o, a, h1, h2, h3, h4⟩, h5, h6⟩ := h
  exact ⟨⟨o, a, h1, h2, tmRel_mono hm h3, h4⟩, cav_mono hm _ _ h5, h6⟩

theorem stillq_ok (g : Good E P C) {mu : Mu} {w : World} {G : Gam} {h : Hp} (hh : HRel E mu h w) (hg : Sat E.V G) {m : Nat} : ∀ {l : List (Pend × Sem Next × Value)} {r : List Pend},
    (∀ p ∈ l, ∃ w0, PRel E P mu w0 p.1 p.2.1 p.2.2) → stillq C G h m (l.map (·.1)) = some r →
    ∃ l' : List (Pend × Sem Next × Value), r = l'.map (·.1) ∧ (∀ p ∈ l', PRel E P mu w p.1 p.2.1 p.2.2) ∧ (∀ p ∈ l', p ∈ l) ∧ ∀ p ∈ l, m.testBit p.1.i = true ∨ p ∈ l'
  | [], r, _, hs => by simp [stillq] at hs; subst hs; exact ⟨[], rfl, by simp, by simp, by simp⟩
  | p :: l, r, hl, hs => by
    simp only [List.map_cons, stillq] at hs
    have hl' : ∀ p ∈ l, ∃ w0, PRel E P mu w0 p.1 p.2.1 p.2.2 := fun q hq => hl q (List.mem_cons_of_mem _ hq)
    cases hb : m.testBit p.1.i with
    | true =>
      rw [hb] at hs
      simp only [cond_true] at hs
      obtain ⟨l', h1, h2, h3, h4⟩ := stillq_ok g hh hg hl' hs
      refine ⟨l', h1, h2, fun q hq => List.mem_cons_of_mem _ (h3 q hq), fun q hq => ?_⟩
      rcases List.mem_cons.1 hq with rfl | hq
      · exact .inl hb
      · exact h4 q hq
    | false =>
      rw [hb] at hs
      simp only [cond_false] at hs
      split at hs
      · rename_i v hx hd
        cases hbq : v.beq p.1.v with
        | false => rw [hbq] at hs; simp at hs
        | true =>
          rw [hbq] at hs
          simp only [cond_true] at hs
          split at hs
          · rename_i r' hr'
            cases hs
            obtain ⟨l', h1, h2, h3, h4⟩ := stillq_ok g hh hg hl' hr'
            obtain ⟨w0, ⟨o, a, q1, q2, q3, q4⟩, q5, q6⟩ := hl p (List.mem_cons_self ..)
            have hrd := doOp_read (P := P) hh hg g.ty g.old q3 o (by rw [q1]; exact q2)
            rw [q1, hd] at hrd
            obtain ⟨_, cv, c1, c2⟩ := hrd
            rw [AV.beq_eq hbq, q5] at c1
            cases c1
            refine ⟨p :: l', by simp [h1], fun q hq => ?_, fun q hq => ?_, fun q hq => ?_⟩
            · rcases List.mem_cons.1 hq with rfl | hq
              · exact ⟨⟨o, a, q1, q2, q3, q4⟩, q5, by rw [q4]; exact c2⟩
              · exact h2 q hq
            · rcases List.mem_cons.1 hq with rfl | hq
              · exact List.mem_cons_self ..
              · exact List.mem_cons_of_mem _ (h3 q hq)
            · rcases List.mem_cons.1 hq with rfl | hq
              · exact .inr (List.mem_cons_self ..)
              · exact (h4 q hq).imp id (List.mem_cons_of_mem _)
          · cases hs
      · cases hs

theorem gdraw (g : Good E P C) {n : Nat} (ihD : GDraw E P C n) (ih1 : GOne E P C n) : GDraw E P C (n + 1) := by
  intro ro rb ops kept rem L pend s k Q a w mu N listed D fuel I hro h hr hQ hk hreg hds hfuel hcl hpend hI
  obtain ⟨hsel, hdef, hap⟩ := regOK_spec hreg
  have hinv : I D w := hI D w (fun e he => he) fun p hp _ => (hpend p hp).now
  cases rem with
  | cons x rest =>
    obtain ⟨i, m, o⟩ := x
    have hmem : (i, m, o) ∈ kept ++ (i, m, o) :: rest := by simp
    obtain ⟨hoi, hm⟩ := hds.ent i m o hmem
    have hperm : (kept ++ (i, m, o) :: rest).Perm ((i, m, o) :: (kept ++ rest)) := List.perm_middle
    have hds' := hds.perm hperm
    have hlen : (kept ++ rest).length + 1 ≤ fuel := by have := hperm.length_eq; simp at this hfuel ⊢; omega
    have keep : ex C n (.draw ro ops.toList ((i, m, o) :: kept) rest L (pend.map (·.1))) s k = true → WA (fz rb) N P ops Q I fuel listed D a w := fun h =>
      ihD ro rb ops ((i, m, o) :: kept) rest L pend s k Q a w mu N listed D fuel I hro h hr hQ hk hreg hds' (by simpa using hlen) hcl hpend hI
    have hask : ∀ {r : R}, askOK E.V r → (onAsk s.gm r fun G => ex C n (.draw ro ops.toList kept ((i, m, o) :: rest) L (pend.map (·.1))) { s with gm := G } k) = true → WA (fz rb) N P ops Q I fuel listed D a w := fun ha h => by
      obtain ⟨G', hr', h'⟩ := onAsk_go hr ha h
      exact ihD ro rb ops kept ((i, m, o) :: rest) L pend _ k Q a w mu N listed D fuel I hro h' hr' hQ hk hreg hds hfuel hcl hpend hI
    obtain ⟨fuel, rfl⟩ : ∃ f, fuel = f + 1 := ⟨fuel - 1, by omega⟩
    have hfree : ∀ j oj, ops[j]? = some oj → j ≠ i → listed.getD j true = false → waitsFor oj i = false → i ∈ Region.ready .any ops listed → o.apart ops oj = true := by
      intro j oj hj hne hun hw hrd
      rcases hap i j o oj hoi hj with h | h | h | h
      · exact absurd h.symm hne
      · rw [hw] at h; cases h
      · obtain ⟨ed, hed, hb, rfl⟩ := waitsFor_iff.1 h
        obtain ⟨_, o', ho', hall⟩ := mem_ready.1 hrd
        rw [hoi] at ho'; cases ho'
        have h1 := hall ed hed hb
        rcases Nat.lt_or_ge ed.on listed.size with h' | h'
        · simp [h'] at hun h1; rw [hun] at h1; cases h1
        · simp [Array.getElem?_eq_none h'] at h1
      · exact h
    have hcl' : ClosedD ops (listed.setIfInBounds i true) D := fun e he oe ho ed hed hb => getD_set_true (hcl e he oe ho ed hed hb)
    have hds2 := hds'.take
    simp only [ex_succ, exStep] at h
    cases hq : readyq L m with
    | false => rw [hq] at h; exact keep h
    | true =>
      rw [hq] at h
      simp only [cond_true] at h
      have hrd := (hds.ready hmem).2 hq
      -- taken first, whatever it yields
      have first : ∀ (v : AV) (cv : Value) (S : Option (Sem Next)) (pend' : List (Pend × Sem Next × Value)), YS ops o cv S a → cav E mu v = some cv →
          ex C n (.draw ro ops.toList kept rest (Nat.lor (Nat.shiftLeft 1 i) L) (pend'.map (·.1))) (put s o.dst v s.hp) k = true →
          (∀ p ∈ pend', PRel E P mu w p.1 p.2.1 p.2.2) →
          (∀ D' w', (∀ e ∈ D, e ∈ D') → (∀ p ∈ pend', Still P ops p.1.i p.2.1 p.2.2 D' w') → I D' w' ∧ ∀ s, S = some s → Still P ops i s cv D' w') →
          WA (fz rb) N P ops Q I (fuel + 1) listed D a w := by
        intro v cv S pend' hy hv h hpend' hI'
        refine WA.first (v := cv) hoi hsel hdef hQ (fz_fn rb) fuel listed D a w (fun j oj hj hne hun hw => hfree j oj hj hne hun hw hrd) hrd hcl hy ?_
        exact ihD ro rb ops kept rest _ pend' _ k Q _ w mu N _ D fuel _ hro h (hr.put (Mu.le_refl _) hv hr.hp) hQ hk hreg hds2 (by simpa using hlen) hcl' hpend' hI'
      split at h
      · rename_i hw
        have hwant := wantq_ok hr hw
        exact first (.s .undef) undef none pend (.inr ⟨hwant, rfl⟩) rfl h hpend fun D' w' h1 h2 => ⟨hI D' w' h1 h2, fun s hs => by cases hs⟩
      · rename_i r hw
        exact hask (wantq_ask hw).ok h
      · rename_i hw
        have hwant := wantq_ok hr hw
        split at h
        · exact keep h
        · rename_i hkind
          have hop := doOp_pure (P := P) hr.hp hr.gm g.ty g.old hr.tmok o hkind
          have hna : isAct o = false := by simp [isAct, hkind]
          split at h
          · rename_i v h' hd
            rw [hd] at hop
            obtain ⟨_, cv, c1, c2⟩ := hop
            exact first v cv (some (execOp a.eval o)) pend (.inl ⟨hwant, rfl, hna⟩) c1 h hpend fun D' w' h1 h2 => ⟨hI D' w' h1 h2, fun s hs => by cases hs; exact fun _ => c2 w'⟩
          · refine hask ?_ h
            revert hop
            cases doOp C s.gm s.hp s.tm o.op <;> intro hop <;> first | exact hop | trivial
        · rename_i hkind
          have hop := doOp_read (P := P) hr.hp hr.gm g.ty g.old hr.tmok o hkind
          have hna : isAct o = false := by simp [isAct, hkind]
          split at h
          · rename_i v h' hd
            rw [hd] at hop
            obtain ⟨_, cv, c1, c2⟩ := hop
            refine first v cv (some (execOp a.eval o)) ((⟨i, o.op, s.tm, v⟩, execOp a.eval o, cv) :: pend) (.inl ⟨hwant, rfl, hna⟩) c1 h ?_ ?_
            · intro p hp
              rcases List.mem_cons.1 hp with rfl | hp
              · exact ⟨⟨o, a, rfl, hkind, hr.tmok, rfl⟩, c1, c2⟩
              · exact hpend p hp
            · intro D' w' h1 h2
              refine ⟨hI D' w' h1 fun p hp => h2 p (List.mem_cons_of_mem _ hp), fun s hs => ?_⟩
              cases hs
              exact h2 _ (List.mem_cons_self ..)
          · refine hask ?_ h
            revert hop
            cases doOp C s.gm s.hp s.tm o.op <;> intro hop <;> first | exact hop | trivial
  | nil =>
    simp only [ex_succ, exStep] at h
    have hrev := revOn_perm kept []
    simp only [List.append_nil] at hrev
    have hds0 : DS ops listed L (revOn kept []) := hds.perm (by simpa using hrev.symm)
    split at h
    · rename_i hnil
      rw [hnil] at hds0
      have hdone := hds0.done
      have hq : Q .normal a w := hk s a w mu h (Mu.le_refl _) hr
      cases fuel with
      | zero => exact ⟨hinv, hdone, hq⟩
      | succ f => exact ⟨hinv, fun _ => hq, by rw [hdone]; intro i hi; cases hi⟩
    · rename_i l hl
      split at h
      · rename_i i m o rest hpick
        obtain ⟨p1, p2, p3⟩ := pickReady_ok hpick
        have hds1 := hds0.perm p1
        have hmem : (i, m, o) ∈ (i, m, o) :: rest := List.mem_cons_self ..
        obtain ⟨hoi, hm⟩ := hds1.ent i m o hmem
        have hrd := (hds1.ready hmem).2 p2
        have honly : ∀ j ∈ Region.ready .any ops listed, j = i := by
          intro j hj
          obtain ⟨m', o', hm', hq'⟩ := hds1.of_ready hj
          rcases List.mem_cons.1 hm' with e | hm'
          · cases e; rfl
          · rw [p3 _ hm'] at hq'; cases hq'
        have hlen : rest.length + 1 ≤ fuel := by
          have h1 := hrev.length_eq
          have h2 := p1.length_eq
          simp at h1 h2 hfuel; omega
        obtain ⟨fuel, rfl⟩ : ∃ f, fuel = f + 1 := ⟨fuel - 1, by omega⟩
        have hcl2 := hcl.step hoi hrd a
        have hds2 := hds1.take
        have hD : ∀ e ∈ D, e ∈ ext ops D i a := by
          intro e he
          unfold ext
          rw [hoi]
          simp only []
          split
          · exact List.mem_cons_of_mem _ he
          · exact he
        have one : wpOpIn (fz rb) N P ops Q i (WA (fz rb) N P ops Q I fuel (listed.setIfInBounds i true) (ext ops D i a)) a w → WA (fz rb) N P ops Q I (fuel + 1) listed D a w := by
          intro ho
          refine ⟨hinv, fun e => (by rw [e] at hrd; cases hrd), fun j hj => ?_⟩
          rw [honly j hj]; exact ho
        split at h
        · rename_i hw
          have hwant := wantq_ok hr hw
          refine one ?_
          unfold wpOpIn
          simp only [hoi, hwant, if_true]
          refine ih1 ro rb o s _ _ Q a w mu N hro h hr ?_
          intro s' a' w' mu' hk' hm' hr'
          simp only at hk'
          split at hk'
          · rename_i pend' hst
            obtain ⟨l', q1, q2, q3, q4⟩ := stillq_ok g hr'.hp hr'.gm (fun p hp => ⟨w, (hpend p hp).later hm'⟩) hst
            rw [q1] at hk'
            refine ihD ro rb ops [] rest _ l' s' k Q a' w' mu' N _ _ fuel I hro hk' hr' hQ (fun s2 a2 w2 mu2 h1 h2 h3 => hk s2 a2 w2 mu2 h1 (Mu.le_trans hm' h2) h3) hreg hds2 (by simpa using hlen) hcl2 q2 ?_
            intro D' w2 h1 h2
            refine hI D' w2 (fun e he => h1 e (hD e he)) fun p hp => ?_
            rcases q4 p hp with hb | hp'
            · intro hno
              exfalso
              cases hkind : kindOf o.op with
              | pure => rw [hkind] at hb; simp at hb
              | read => rw [hkind] at hb; simp at hb
              | act =>
                rw [hkind] at hb
                simp only at hb
                have hin : i ∈ ext ops D i a := by
                  unfold ext
                  rw [hoi]
                  simp only [hwant, isAct, hkind, and_self, if_true]
                  exact List.mem_cons_self ..
                have := hno i (h1 i hin) o hoi
                rw [hm] at hb
                obtain ⟨e, he, hbd, hon⟩ := (maskOf_bit _ _).1 hb
                have hwf : waitsFor o p.1.i = true := waitsFor_iff.2 ⟨e, by simpa using he, hbd, hon⟩
                rw [hwf] at this; cases this
            · exact h2 p hp'
          · cases hk'
        · rename_i hw
          have hwant := wantq_ok hr hw
          refine one ?_
          unfold wpOpIn
          simp only [hoi, hwant, Bool.false_eq_true, if_false]
          refine ⟨fun f _ => fz_fn rb f, ?_⟩
          have hext : ext ops D i a = D := by
            unfold ext
            rw [hoi]
            simp [hwant]
          rw [hext] at hcl2 ⊢
          exact ihD ro rb ops [] rest _ pend _ k Q _ w mu N _ _ fuel I hro h (hr.put (Mu.le_refl _) (v := .s .undef) (cv := undef) rfl hr.hp) hQ hk hreg hds2 (by simpa using hlen) hcl2 hpend hI
        · rename_i r hw
          obtain ⟨G', hr', h'⟩ := onAsk_go hr (wantq_ask hw).ok h
          exact ihD ro rb ops kept [] L pend _ k Q a w mu N listed D (fuel + 1) I hro h' hr' hQ hk hreg hds hfuel hcl hpend hI
      · cases h

theorem all_ok (g : Good E P C) (n : Nat) : GCode E P C n ∧ GOps E P C n ∧ GOne E P C n ∧ GCall E P C n ∧ GDraw E P C n := by
  induction n using Nat.strongRecOn with
  | _ n ih =>
    cases n with
    | zero =>
      refine ⟨?_, ?_, ?_, ?_, ?_⟩
      · intro ro rb c s k Q a w mu N _ h; simp [ex_zero, ex_succ, exStep] at h
      · intro ro rb ops j l s k Q a w mu N _ _ h; simp [ex_zero, ex_succ, exStep] at h
      · intro ro rb o s k next Q a w mu N _ h; simp [ex_zero, ex_succ, exStep] at h
      · intro f args s k R w mu vs m h; simp [ex_zero, ex_succ, exStep] at h
      · intro ro rb ops kept rem L pend s k Q a w mu N listed D fuel I _ h; simp [ex_zero, ex_succ, exStep] at h
    | succ n =>
      have i := ih n (Nat.lt_succ_self n)
      exact ⟨gcode g fun m hm => have j := ih m (by omega); ⟨j.1, j.2.1, j.2.2.2.1, j.2.2.2.2⟩, gops g i.2.1 i.2.2.1, gone g i.1 i.2.2.2.1 i.2.2.1, gcall g i.1, gdraw g i.2.2.2.2 i.2.2.1⟩

/-- THE RUN IS SOUND: a call. -/
theorem ex_call (g : Good E P C) {n : Nat} {f : Nat} {args : List AV} {s : St} {k : Out → St → Bool} {R : Ending → World → Prop} {w : World} {mu : Mu} {vs : List Value} (h : ex C n (.call f args) s k = true)
    (hh : HRel E mu s.hp w) (hg : Sat E.V s.gm) (hv : cavs E mu args = some vs)
    (hk : ∀ v h' G' cv w' mu', k (.v v) { s with hp := h', gm := G' } = true → Mu.le mu mu' → cav E mu' v = some cv → HRel E mu' h' w' → Sat E.V G' → R (.returned cv) w') : Calls P f vs.toArray w R :=
  callsIn_wide.1 ((all_ok g n).2.2.2.1 f args s k R w mu vs 0 h hh hg hv hk)
end
end Sx
