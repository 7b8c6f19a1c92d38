/- a part of the executor and of its soundness -/
import Derived.Test.YtehclnpgbgppeaaDoorSxF
namespace Sx
open Go Go.RowKit

def tdOf : TypeDesc → TD
  | .bool => .bool
  | .int k => .int k
  | .string => .str
  | .pointer e => .ptr e
  | .slice e => .slice e
  | .array n e => .arr n e
  | .map k v => .map k v
  | .struct fs => .strct (fs.toList.map fun f => (f.offset, f.type))
  | .func .. => .func
  | _ => .other

/-- Equality, cell by cell. -/
def veq : Value → Value → Bool
  | .int _ a, .int _ b => a == b
  | .bool a, .bool b => a == b
  | _, _ => false
def veqs : List Value → List Value → Bool
  | [], [] => true
  | a :: l, b :: r => veq a b && veqs l r
  | _, _ => false
def shp : List Bool → List Value → List Value → Prop
  | [], [], [] => True
  | true :: f, .bool _ :: l, .bool _ :: r => shp f l r
  | false :: f, .int k _ :: l, .int k' _ :: r => k = k' ∧ shp f l r
  | _, _, _ => False

/-- A type's table is right. -/
structure TyOK (P : Program) (t : Nat) (ti : TI) : Prop where
  leaf : ti.lf ≠ [] → P.eqGuardType P.depth t = false ∧ ∀ w xs ys, shp ti.lf xs.toList ys.toList → (Op.equalIn 10000 t (.agg xs) (.agg ys)).run P w = .ok (veqs xs.toList ys.toList) w
  und : ∃ d, P.underlying t = some d ∧ tdOf d = ti.d
  info : ∃ i z, P.info? t = some i ∧ i.size = ti.sz ∧ i.bytes = ti.by_ ∧ i.zero = some z ∧ svsOf z.cells.toList = some ti.zero ∧
    (ti.d.agg = true → ∃ cs, z = .agg cs) ∧ (ti.d.agg = false → z.cells = #[z])

abbrev TysOK (P : Program) (C : Cx) : Prop := ∀ t ti, C.ty.get t = some ti → TyOK P t ti

section
variable {P : Program} {t : Nat} {ti : TI} (w : World)
theorem TyOK.isAgg (h : TyOK P t ti) : (isAgg t).run P w = .ok ti.d.agg w := by
  obtain ⟨d, h1, h2⟩ := h.und
  rw [← h2]
  unfold Go.isAgg
  simp only [Sem.run_bind, run_underlying h1, Result.andThen_ok]
  cases d <;> simp [tdOf, TD.agg]
theorem TyOK.sizeOf (h : TyOK P t ti) : (Go.sizeOf t).run P w = .ok ti.sz w := by
  obtain ⟨i, z, h1, h2, _⟩ := h.info
  simp [Go.sizeOf, run_typeInfo w h1, h2]
theorem TyOK.typeInfo (h : TyOK P t ti) : ∃ i, (typeInfo t).run P w = .ok i w ∧ i.bytes = ti.by_ := by
  obtain ⟨i, z, h1, h2, h3, _⟩ := h.info
  exact ⟨i, run_typeInfo w h1, h3⟩
theorem TyOK.zero (h : TyOK P t ti) : ∃ z, (zeroValue t).run P w = .ok z w ∧ svsOf z.cells.toList = some ti.zero ∧ (ti.d.agg = true → ∃ cs, z = .agg cs) ∧ (ti.d.agg = false → z.cells = #[z]) := by
  obtain ⟨i, z, h1, h2, h3, h4, h5⟩ := h.info
  exact ⟨z, by simp [zeroValue, run_typeInfo w h1, h4], h5⟩
end

section
variable {E : Env} {mu mu' : Mu}
theorem svOf_ok {v : Value} {x : SV} (h : svOf v = some x) : csv E mu x = some v := by
  unfold svOf at h
  split at h <;> first | (cases h; rfl) | cases h
theorem svsOf_ok : ∀ {l : List Value} {xs : List SV}, svsOf l = some xs → csvs E mu xs = some l
  | [], xs, h => by simp [svsOf] at h; subst h; rfl
  | v :: l, xs, h => by
    simp only [svsOf] at h
    split at h
    · rename_i x hx
      split at h
      · rename_i ys hys
        cases h
        exact om_cons.2 ⟨v, l, svOf_ok hx, svsOf_ok hys, rfl⟩
      · cases h
    · cases h
theorem avOf_ok {v : Value} {x : AV} (h : avOf v = some x) : cav E mu x = some v := by
  unfold avOf at h
  split at h
  · rename_i cs
    split at h
    · rename_i l hl
      cases h
      simp [cav, svsOf_ok (E := E) (mu := mu) hl]
    · cases h
  · split at h
    · rename_i x hx
      cases h
      exact svOf_ok hx
    · cases h

theorem cellq_ok {x : SV} {v : Value} (hx : csv E mu x = some v) (hq : x.cellq = true) : v.oneCell' = true := by
  cases v <;> first | rfl | exact absurd hx csv_noagg | skip
  exfalso
  cases x <;> simp [csv, SV.cellq] at hx hq
  case slice r off len c => cases c <;> cases r <;> simp [csv] at hx
theorem cellsq_ok : ∀ {l : List SV} {vs : List Value}, csvs E mu l = some vs → cellsq l = true → ∀ v ∈ vs, v.oneCell' = true
  | [], vs, h, _ => by simp [om] at h; subst h; simp
  | x :: l, vs, h, hq => by
    obtain ⟨y, ys, h1, h2, rfl⟩ := om_cons.1 h
    simp only [cellsq, Bool.and_eq_true] at hq
    intro v hv
    rcases List.mem_cons.1 hv with rfl | hv
    · exact cellq_ok h1 hq.1
    · exact cellsq_ok h2 hq.2 v hv

/-- A value out of its cells. -/
theorem mkAV_ok {d : TD} {cs : List SV} {v : AV} {vs : List Value} (h : mkAV d cs = some v) (hc : csvs E mu cs = some vs) :
    ∃ cv, cav E mu v = some cv ∧ (d.agg = true → cv = .agg vs.toArray) ∧ (d.agg = false → vs = [cv]) := by
  unfold mkAV at h
  cases hd : d.agg with
  | true =>
    simp only [hd, cond_true] at h; cases h
    exact ⟨.agg vs.toArray, by simp [cav, hc], fun _ => rfl, (fun h => by cases h)⟩
  | false =>
    simp only [hd, cond_false] at h
    split at h
    · rename_i x
      cases h
      obtain ⟨y, ys, h1, h2, rfl⟩ := om_cons.1 hc
      simp [om] at h2; subst h2
      exact ⟨y, h1, (fun h => by cases h), fun _ => rfl⟩
    · cases h
end

/-! ### What an operation's soundness says -/
section
variable (E : Env) (P : Program) (mu : Mu) (w : World)
def VSound (s : Sem Value) : R → Prop
  | .val v h' => ∃ cv mu' w', s.run P w = .ok cv w' ∧ Mu.le mu mu' ∧ cav E mu' v = some cv ∧ HRel E mu' h' w'
  | .skip _ | .call .. | .yld .. => False
  | .askv t lo hi => lo ≤ t.ev E.V.i ∧ t.ev E.V.i ≤ hi
  | _ => True
def USound (s : Sem Unit) : R → Prop
  | .skip h' => ∃ mu' w', s.run P w = .ok () w' ∧ Mu.le mu mu' ∧ HRel E mu' h' w'
  | .val .. | .call .. | .yld .. => False
  | .askv t lo hi => lo ≤ t.ev E.V.i ∧ t.ev E.V.i ≤ hi
  | _ => True
def NSound (s : Sem Next) : R → Prop
  | .val v h' => ∃ cv mu' w', s.run P w = .ok (.value cv) w' ∧ Mu.le mu mu' ∧ cav E mu' v = some cv ∧ HRel E mu' h' w'
  | .skip h' => ∃ mu' w', s.run P w = .ok .skip w' ∧ Mu.le mu mu' ∧ HRel E mu' h' w'
  | .call f args => ∃ vs, s.run P w = .ok (.enter f vs.toArray) w ∧ cavs E mu args = some vs
  | .yld l args => ∃ vs b c, mu l = some (b, c) ∧ cavs E mu args = some vs ∧ s.run P w = (Instr.yield b vs.toArray).run P w
  | .askv t lo hi => lo ≤ t.ev E.V.i ∧ t.ev E.V.i ≤ hi
  | _ => True
end

section
variable {E : Env} {P : Program} {mu : Mu} {w : World} {C : Cx} {h : Hp} {G : Gam}

theorem VSound.of_val {s : Sem Value} {v : AV} {cv : Value} (hr : HRel E mu h w) (h1 : s.run P w = .ok cv w) (h2 : cav E mu v = some cv) : VSound E P mu w s (.val v h) :=
  ⟨cv, mu, w, h1, Mu.le_refl mu, h2, hr⟩
theorem VSound.next {s : Sem Value} {r : R} (hv : VSound E P mu w s r) : NSound E P mu w (do pure (.value (← s))) r := by
  cases r <;> try exact hv
  · obtain ⟨cv, mu', w', h1, h2⟩ := hv
    exact ⟨cv, mu', w', by simp [Sem.run_bind, h1], h2⟩
  · exact hv.elim
  · exact hv.elim
  · exact hv.elim
theorem USound.next {s : Sem Unit} {r : R} (hv : USound E P mu w s r) : NSound E P mu w (do s; pure .skip) r := by
  cases r <;> try exact hv
  · exact hv.elim
  · obtain ⟨mu', w', h1, h2⟩ := hv
    exact ⟨mu', w', by simp [Sem.run_bind, h1], h2⟩
  · exact hv.elim
  · exact hv.elim

theorem addr_add (b off j : Nat) : (⟨b, off, none⟩ : Addr).add j = ⟨b, off + j, none⟩ := by unfold Addr.add; split <;> simp_all

/-- Loading a variable whose cells are known. -/
theorem run_loadVar_agg {t : Nat} {ti : TI} (ht : TyOK P t ti) {b off : Nat} {vs : List Value} (hl : vs.length = ti.sz) (hc : ∀ j v, vs[j]? = some v → w.cell? ⟨b, off + j, none⟩ = some v)
    (ha : ti.d.agg = true) : (loadVar t ⟨b, off, none⟩).run P w = .ok (.agg vs.toArray) w := by
  unfold loadVar
  simp only [Sem.run_bind, ht.isAgg, Result.andThen_ok, ha, if_true, ht.sizeOf]
  have := run_loadCells_list (P := P) (w := w) ⟨b, off, none⟩ vs (fun j v hj => by rw [addr_add]; exact hc j v hj)
  rw [hl] at this
  simp [this]
theorem run_loadVar_one {t : Nat} {ti : TI} (ht : TyOK P t ti) {b off : Nat} {cv : Value} (hc : w.cell? ⟨b, off, none⟩ = some cv)
    (ha : ti.d.agg = false) : (loadVar t ⟨b, off, none⟩).run P w = .ok cv w := by
  unfold loadVar
  simp only [Sem.run_bind, ht.isAgg, Result.andThen_ok, ha, Bool.false_eq_true, if_false]
  simp [load, Sem.run, hc]

theorem sortq_ok {V : Val} (hs : Sat V G) : ∀ {l r : List IT}, sortq G l = .ok r → r.map (·.ev V.i) = sd (l.map (·.ev V.i)) := by
  have ins : ∀ {x : IT} {l r : List IT}, insq G x l = .ok r → r.map (·.ev V.i) = insI (x.ev V.i) (l.map (·.ev V.i)) := by
    intro x l
    induction l with
    | nil => intro r hr; simp [insq] at hr; subst hr; rfl
    | cons y l ih =>
      intro r hr
      simp only [insq] at hr
      split at hr
      · rename_i he
        have := eqq_ok hs he
        cases hr
        have e : x.ev V.i = y.ev V.i := by simpa using this.symm
        simp [insI, e]
      · rename_i he
        have := eqq_ok hs he
        have e : ¬ x.ev V.i = y.ev V.i := by simpa using this.symm
        split at hr
        · rename_i hl
          have := ltq_ok hs hl
          have e' : x.ev V.i < y.ev V.i := by simpa using this.symm
          cases hr
          simp [insI, e, e']
        · rename_i hl
          have := ltq_ok hs hl
          have e' : ¬ x.ev V.i < y.ev V.i := by simpa using this.symm
          split at hr
          · rename_i r' hr'
            cases hr
            simp [insI, e, e', ih hr']
          · cases hr
        · cases hr
      · cases hr
  intro l
  induction l with
  | nil => intro r hr; simp [sortq] at hr; subst hr; rfl
  | cons x l ih =>
    intro r hr
    simp only [sortq] at hr
    split at hr
    · rename_i r' hr'
      simp only [List.map_cons, sd]
      rw [← ih hr']
      exact ins hr
    · cases hr

end
end Sx
