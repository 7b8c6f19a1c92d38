/- a part of the executor and of its soundness -/
import Derived.Test.YtehclnpgbgppeaaDoorSxX
namespace Sx
open Go Go.RowKit

/-! ### Tables, checked -/
section
variable {α : Type}
def allP (p : Nat → α → Prop) : (Nat → Nat) → T α → Prop
  | _, .e => True
  | g, .n l v r => allP p (fun k => g (2 * k + 1)) l ∧ (match v with | some a => p (g 0) a | none => True) ∧ allP p (fun k => g (2 * k + 2)) r
def allB (p : Nat → α → Bool) : (Nat → Nat) → T α → Bool
  | _, .e => true
  | g, .n l v r => allB p (fun k => g (2 * k + 1)) l && (match v with | some a => p (g 0) a | none => true) && allB p (fun k => g (2 * k + 2)) r
theorem allP_get {p : Nat → α → Prop} : ∀ {t : T α} {g : Nat → Nat} {i : Nat} {a : α}, allP p g t → t.get i = some a → p (g i) a := by
  intro t
  induction t with
  | e => intro g i a _ h; rw [T.get_e] at h; cases h
  | n l v r ihl ihr =>
    intro g i a h hg
    rw [T.get_eqS] at hg
    obtain ⟨h1, h2, h3⟩ := h
    cases i with
    | zero =>
      simp only [T.getS] at hg
      subst hg
      exact h2
    | succ k =>
      simp only [T.getS] at hg
      cases hb : Nat.beq (k % 2) 0 with
      | true =>
        rw [hb] at hg
        simp only [cond_true] at hg
        have e := Nat.eq_of_beq_eq_true hb
        have := ihl h1 (i := k / 2) (a := a) (by rw [T.get_eqS]; exact hg)
        have e2 : 2 * (k / 2) + 1 = k + 1 := by omega
        rw [e2] at this; exact this
      | false =>
        rw [hb] at hg
        simp only [cond_false] at hg
        have e := Nat.ne_of_beq_eq_false hb
        have := ihr h3 (i := k / 2) (a := a) (by rw [T.get_eqS]; exact hg)
        have e2 : 2 * (k / 2) + 2 = k + 1 := by omega
        rw [e2] at this; exact this
theorem allP_of {p : Nat → α → Prop} {q : Nat → α → Bool} (hpq : ∀ i a, q i a = true → p i a) : ∀ {t : T α} {g : Nat → Nat}, allB q g t = true → allP p g t := by
  intro t
  induction t with
  | e => intro g _; trivial
  | n l v r ihl ihr =>
    intro g h
    simp only [allB, Bool.and_eq_true] at h
    refine ⟨ihl h.1.1, ?_, ihr h.2⟩
    cases v with
    | none => trivial
    | some a => exact hpq _ _ h.1.2
end

def prsBeq : List (Nat × Nat) → List (Nat × Nat) → Bool
  | [], [] => true
  | (a, b) :: l, (c, d) :: l' => Nat.beq a c && Nat.beq b d && prsBeq l l'
  | _, _ => false
theorem prsBeq_eq : ∀ {a b : List (Nat × Nat)}, prsBeq a b = true → a = b
  | [], [], _ => rfl
  | (_, _) :: _, (_, _) :: _, h => by
    simp only [prsBeq, Bool.and_eq_true] at h
    rw [Nat.eq_of_beq_eq_true h.1.1, Nat.eq_of_beq_eq_true h.1.2, prsBeq_eq h.2]
def TD.beq : TD → TD → Bool
  | .bool, .bool => true
  | .int k, .int k' => keq k k'
  | .str, .str => true
  | .ptr a, .ptr b => Nat.beq a b
  | .slice a, .slice b => Nat.beq a b
  | .arr n e, .arr n' e' => Nat.beq n n' && Nat.beq e e'
  | .map n e, .map n' e' => Nat.beq n n' && Nat.beq e e'
  | .strct l, .strct l' => prsBeq l l'
  | .func, .func => true
  | .other, .other => true
  | _, _ => false
theorem TD.beq_eq {a b : TD} (h : a.beq b = true) : a = b := by
  cases a <;> cases b <;> simp only [TD.beq, Bool.and_eq_true] at h <;> first
    | rfl
    | (cases h; done)
    | rw [kn_inj h]
    | rw [Nat.eq_of_beq_eq_true h]
    | rw [Nat.eq_of_beq_eq_true h.1, Nat.eq_of_beq_eq_true h.2]
    | rw [prsBeq_eq h]
/-- Values of a zero: the strings' bytes are nothing. -/
def SV.zeq : SV → SV → Bool
  | .str a, .str b => Nat.beq a.size 0 && Nat.beq b.size 0
  | a, b => a.beq b
def svsZeq : List SV → List SV → Bool
  | [], [] => true
  | a :: l, b :: l' => a.zeq b && svsZeq l l'
  | _, _ => false
theorem SV.zeq_eq {a b : SV} (h : a.zeq b = true) : a = b := by
  cases a <;> cases b <;> simp only [SV.zeq] at h <;> first
    | exact SV.beq_eq h
    | skip
  rename_i x y
  simp only [Bool.and_eq_true] at h
  have h1 := Nat.eq_of_beq_eq_true h.1
  have h2 := Nat.eq_of_beq_eq_true h.2
  obtain ⟨⟨x⟩⟩ := x
  obtain ⟨⟨y⟩⟩ := y
  cases x <;> cases y <;> simp [ByteArray.size] at h1 h2 ⊢
theorem svsZeq_eq : ∀ {a b : List SV}, svsZeq a b = true → a = b
  | [], [], _ => rfl
  | _ :: _, _ :: _, h => by
    simp only [svsZeq, Bool.and_eq_true] at h
    rw [SV.zeq_eq h.1, svsZeq_eq h.2]

def aggq : Value → Bool
  | .agg _ => true
  | _ => false
/-- Is what the table says of a type so? (Its leaves: apart.) -/
def tyq (P : Program) (t : Nat) (ti : TI) : Bool :=
  match P.info? t, P.underlying t with
  | some i, some d => (tdOf d).beq ti.d && Nat.beq i.size ti.sz && Nat.beq i.bytes ti.by_ && (match i.zero with
    | some z => (match svsOf z.cells.toList with
      | some xs => svsZeq xs ti.zero
      | none => false) && (bif aggq z then ti.d.agg else !ti.d.agg)
    | none => false)
  | _, _ => false
theorem tyq_ok {P : Program} {t : Nat} {ti : TI} (h : tyq P t ti = true)
    (hl : ti.lf ≠ [] → P.eqGuardType P.depth t = false ∧ ∀ w xs ys, shp ti.lf xs.toList ys.toList → (Op.equalIn 10000 t (.agg xs) (.agg ys)).run P w = .ok (veqs xs.toList ys.toList) w) : TyOK P t ti := by
  unfold tyq at h
  split at h
  · rename_i i d hi hd
    simp only [Bool.and_eq_true] at h
    obtain ⟨⟨⟨h1, h2⟩, h3⟩, h4⟩ := h
    split at h4
    · rename_i z hz
      simp only [Bool.and_eq_true] at h4
      obtain ⟨h5, h6⟩ := h4
      split at h5
      · rename_i xs hxs
        refine ⟨hl, ⟨d, hd, TD.beq_eq h1⟩, i, z, hi, Nat.eq_of_beq_eq_true h2, Nat.eq_of_beq_eq_true h3, hz, by rw [hxs, svsZeq_eq h5], ?_, ?_⟩
        · intro ha
          rw [ha] at h6
          cases hq : aggq z with
          | true => cases z <;> first | exact ⟨_, rfl⟩ | (cases hq; done)
          | false => rw [hq] at h6; cases h6
        · intro ha
          rw [ha] at h6
          cases hq : aggq z with
          | true => rw [hq] at h6; cases h6
          | false => cases z <;> first | rfl | (cases hq; done)
      · cases h5
    · cases h4
  · cases h

def noLeaf (_ : Nat) (ti : TI) : Bool := match ti.lf with
  | [] => true
  | _ => false
theorem tys_ok {P : Program} {C : Cx} (h : allB (fun t ti => tyq P t ti && noLeaf t ti) (fun i => i) C.ty = true) : TysOK P C := by
  intro t ti ht
  have := allP_get (allP_of (p := fun t ti => tyq P t ti = true ∧ noLeaf t ti = true) (fun i a ha => by simpa using ha) h) ht
  refine tyq_ok this.1 fun hne => ?_
  have h2 := this.2
  unfold noLeaf at h2
  split at h2
  · rename_i he; exact absurd he hne
  · cases h2
def fnq (_ : Nat) (fn : Func) : Bool := !(fn.name == "runtime.NumGoroutine") && fn.body.isSome
theorem fns_ok {P : Program} {C : Cx} (h1 : allP (fun f fn => P.funcs[f]? = some fn) (fun i => i) C.fn) (h2 : allB fnq (fun i => i) C.fn = true) : FnOK P C := by
  refine ⟨fun f fn hf => ⟨allP_get h1 hf, ?_⟩⟩
  have := allP_get (allP_of (p := fun _ fn => (fn.name == "runtime.NumGoroutine") = false ∧ fn.body.isNone = false) (fun i a ha => by
    simp only [fnq, Bool.and_eq_true, Bool.not_eq_true'] at ha
    refine ⟨ha.1, ?_⟩
    cases hb : a.body with
    | none => rw [hb] at ha; simp at ha
    | some c => rfl) h2) hf
  exact this

/-! ### A call in a world of its own -/
section
variable {P : Program}
/-- What a run from nothing shows of a call in whatever world: what comes, and that what was there stays. -/
theorem ex_alone {C : Cx} {V : Val} {gb : Nat → Nat} {w : World} (g : Good ⟨V, gb, w⟩ P C) {n : Nat} {f : Nat} {args : List AV} {G : Gam} {k : Out → St → Bool} {vs : List Value}
    (h : ex C n (.call f args) ⟨.e, 0, [], ⟨.e, 0⟩, G⟩ k = true) (hg : Sat V G) (hv : cavs ⟨V, gb, w⟩ (fun _ => none) args = some vs) :
    Calls P f vs.toArray w fun e w' => ∃ v h' G' cv mu', e = .returned cv ∧ k (.v v) ⟨.e, 0, [], h', G'⟩ = true ∧ cav ⟨V, gb, w⟩ mu' v = some cv ∧ HRel ⟨V, gb, w⟩ mu' h' w' ∧ Sat V G' ∧ Below w.heap.size w w' := by
  refine ex_call g (mu := fun _ => none) h ⟨fun i _ => ⟨rfl, T.get_e i⟩, fun i o hi => ?_, fun i j oi oj b c c' hi => ?_, Below.refl _ _⟩ hg hv ?_
  · rw [T.get_e] at hi; cases hi
  · rw [T.get_e] at hi; cases hi
  · intro v h' G' cv w' mu' hk _ hcv hh hg'
    exact ⟨v, h', G', cv, mu', rfl, hk, hcv, hh, hg', hh.below⟩

theorem OldOK.at {C : Cx} {E : Env} {mu : Mu} {h : Hp} {w : World} (ho : OldOK C E) (hh : HRel E mu h w) (V : Val) (hsrt : ∀ g o, C.gl.get g = some o → ∃ sz els e ex, o = .row sz els e ex ∧ ∀ V', csvs ⟨V', E.gb, w⟩ (fun _ => none) els.flatten = csvs E (fun _ => none) els.flatten) : OldOK C ⟨V, E.gb, w⟩ := by
  refine ⟨fun g o hg => ?_, ho.glob⟩
  obtain ⟨ob, h1, h2, h3⟩ := ho.row g o hg
  obtain ⟨sz, els, e, ex, rfl, hc⟩ := hsrt g o hg
  refine ⟨ob, Nat.lt_of_lt_of_le h1 hh.below.size, by rw [hh.below.block _ h1]; exact h2, ?_⟩
  cases ob <;> try exact h3
  obtain ⟨q1, q2, vs, q3, q4⟩ := h3
  exact ⟨q1, q2, vs, (hc V).trans q3, q4⟩
end
end Sx
