/- a part of the executor and of its soundness -/
import Derived.Test.YtehclnpgbgppeaaDoorSxT
namespace Sx
open Go Go.RowKit

/-! ### Same texts, same values -/
section
theorem boolBeq {a b : Bool} (h : (bif a then b else !b) = true) : a = b := by cases a <;> cases b <;> simp_all
theorem Ref.beq_eq : ∀ {a b : Ref}, a.beq b = true → a = b
  | .o _, .o _, h => congrArg _ (Nat.eq_of_beq_eq_true h)
  | .g _, .g _, h => congrArg _ (Nat.eq_of_beq_eq_true h)
theorem Cap.beq_eq : ∀ {a b : Cap}, a.beq b = true → a = b
  | .ex _, .ex _, h => congrArg _ (Nat.eq_of_beq_eq_true h)
  | .up _, .up _, h => congrArg _ (Nat.eq_of_beq_eq_true h)
theorem capsBeq_eq : ∀ {a b : List (Ref × Nat)}, capsBeq a b = true → a = b
  | [], [], _ => rfl
  | (_, _) :: _, (_, _) :: _, h => by
    simp only [capsBeq, Bool.and_eq_true] at h
    rw [Ref.beq_eq h.1.1, Nat.eq_of_beq_eq_true h.1.2, capsBeq_eq h.2]
theorem SV.beq_eq {a b : SV} (h : a.beq b = true) : a = b := by
  cases a <;> cases b <;> simp only [SV.beq, Bool.and_eq_true] at h <;> first
    | rfl
    | (cases h; done)
    | rw [kn_inj h.1, IT.beq_eq (V := fun _ => 0) h.2]
    | rw [boolBeq h]
    | rw [Nat.eq_of_beq_eq_true h]
    | rw [Ref.beq_eq h.1, Nat.eq_of_beq_eq_true h.2]
    | rw [Ref.beq_eq h.1.1.1, Nat.eq_of_beq_eq_true h.1.1.2, Nat.eq_of_beq_eq_true h.1.2, Cap.beq_eq h.2]
    | rw [Nat.eq_of_beq_eq_true h.1, capsBeq_eq h.2]
theorem svsBeq_eq : ∀ {a b : List SV}, svsBeq a b = true → a = b
  | [], [], _ => rfl
  | _ :: _, _ :: _, h => by
    simp only [svsBeq, Bool.and_eq_true] at h
    rw [SV.beq_eq h.1, svsBeq_eq h.2]
theorem AP.beq_eq {a b : AP} (h : a.beq b = true) : a = b := by
  cases a <;> cases b <;> simp only [AP.beq] at h <;> first | (cases h; done) | rw [SV.beq_eq h] | rw [svsBeq_eq h]
theorem apsBeq_eq : ∀ {a b : List AP}, apsBeq a b = true → a = b
  | [], [], _ => rfl
  | _ :: _, _ :: _, h => by
    simp only [apsBeq, Bool.and_eq_true] at h
    rw [AP.beq_eq h.1, apsBeq_eq h.2]
theorem AV.beq_eq {a b : AV} (h : a.beq b = true) : a = b := by
  cases a <;> cases b <;> simp only [AV.beq] at h <;> first | (cases h; done) | rw [SV.beq_eq h] | rw [svsBeq_eq h] | rw [apsBeq_eq h]
end

section
variable {E : Env} {P : Program} {mu mu' : Mu} {w : World} {C : Cx} {h : Hp} {G : Gam}

def dfRel (mu : Mu) : List Nat → List Deferred → Prop
  | [], [] => True
  | d :: l, x :: r => (∃ p, mu d = some p ∧ x = { target := .collected p.1, args := #[] }) ∧ dfRel mu l r
  | _, _ => False
theorem dfRel_mono (hm : Mu.le mu mu') : ∀ {l : List Nat} {r : List Deferred}, dfRel mu l r → dfRel mu' l r
  | [], [], _ => trivial
  | _ :: _, _ :: _, ⟨⟨p, h1, h2⟩, h3⟩ => ⟨⟨p, hm _ _ h1, h2⟩, dfRel_mono hm h3⟩
  | [], _ :: _, h => h.elim
  | _ :: _, [], h => h.elim

structure Rel (E : Env) (mu : Mu) (s : St) (a : Act) (w : World) : Prop where
  tm : tmRel E mu s.tm s.nt a.tmps
  hp : HRel E mu s.hp w
  gm : Sat E.V s.gm
  df : dfRel mu s.df a.defers

theorem Rel.tmok {s : St} {a : Act} (hr : Rel E mu s a w) : TmOK E mu s.tm a := ⟨rfl, hr.tm.2⟩

theorem tmRel_set {tm : T AV} {nt : Nat} {a : Array Value} (ht : tmRel E mu tm nt a) {d : Nat} {v : AV} {cv : Value} (hv : cav E mu v = some cv) :
    tmRel E mu (bif Nat.blt d nt then tm.set d v else tm) nt (a.setIfInBounds d cv) := by
  obtain ⟨h1, h2⟩ := ht
  refine ⟨by simp [h1], fun i => ?_⟩
  cases hb : Nat.blt d nt with
  | true =>
    have hlt : d < nt := by simpa using hb
    simp only [cond_true]
    by_cases e : i = d
    · subst e
      rw [T.get_set_same]
      simp [h1, hlt, hv]
    · rw [T.get_set_ne e]
      have := h2 i
      simpa [Array.getElem?_setIfInBounds_ne (Ne.symm e)] using this
  | false =>
    have hlt : ¬ d < nt := fun h => by have h3 : Nat.blt d nt = true := (by simpa using h); rw [hb] at h3; cases h3
    simp only [cond_false]
    have : a.setIfInBounds d cv = a := by
      apply Array.ext
      · simp
      · intro j h3 h4
        have : d ≠ j := by omega
        rw [Array.getElem_setIfInBounds (by simpa using h3)]
        simp [this]
    rw [this]; exact h2 i

theorem Rel.put {s : St} {a : Act} (hr : Rel E mu s a w) (hm : Mu.le mu mu') {d : Option Tmp} {v : AV} {cv : Value} (hv : cav E mu' v = some cv) {h' : Hp} {w' : World} (hh : HRel E mu' h' w') :
    Rel E mu' (Sx.put s d v h') (a.put d cv) w' := by
  cases d with
  | none => exact ⟨tmRel_mono hm hr.tm, hh, hr.gm, dfRel_mono hm hr.df⟩
  | some d => exact ⟨tmRel_set (tmRel_mono hm hr.tm) hv, hh, hr.gm, dfRel_mono hm hr.df⟩

theorem Rel.withGm {s : St} {a : Act} (hr : Rel E mu s a w) {G : Gam} (hg : Sat E.V G) : Rel E mu { s with gm := G } a w := ⟨hr.tm, hr.hp, hg, hr.df⟩

theorem wantq_ok {s : St} {a : Act} (hr : Rel E mu s a w) {ops : Array Oper} {o : Oper} {b : Bool} (hw : wantq s.gm s.nt s.tm ops.toList o = .ok b) :
    Region.wanted o (yielded ops a.tmps) = b := by
  unfold wantq at hw
  unfold Region.wanted
  split at hw
  · rename_i hg; cases hw; rw [hg]
  · rename_i j want hg
    rw [hg]
    simp only []
    rw [Array.getElem?_toList] at hw
    split at hw
    · rename_i g hj
      split at hw
      · rename_i d hd
        cases hb : Nat.blt d s.nt with
        | false => rw [hb] at hw; simp at hw
        | true =>
          rw [hb] at hw
          simp only [cond_true] at hw
          have hlt : d < s.nt := by simpa using hb
          have ht := hr.tm.2 d
          have hget : a.tmps[d]? = some (a.tmps.getD d undef) := by
            have : d < a.tmps.size := by rw [hr.tm.1]; exact hlt
            simp [this]
          have hy : yielded ops a.tmps j = match a.tmps.getD d undef with | .bool b => some b | _ => none := by
            unfold yielded
            simp only [hj, Option.bind_some, hd, hget]
            generalize a.tmps.getD d undef = x
            cases x <;> rfl
          rw [hy]
          split at hw
          · rename_i hu
            cases hw
            rw [hu] at ht
            simp only [Option.getD_some, cav, csv, Option.some.injEq] at ht
            rw [← ht]; rfl
          · rename_i v hv
            split at hw
            · rename_i b' hb'
              cases hw
              have := boolq_ok (mu := mu) hr.gm hb'
              rw [hv] at ht
              simp only [Option.getD_some] at ht
              rw [this] at ht
              cases ht' : b' <;> simp only [Option.some.injEq, ht'] at ht <;> rw [← ht] <;> cases want <;> rfl
            · cases hw
          · rename_i hv
            cases hw
            rw [hv] at ht
            simp only [Option.getD_none, cav, csv, Option.some.injEq] at ht
            rw [← ht]; rfl
      · cases hw
    · cases hw
theorem wantq_ask {s : St} {all : List Oper} {o : Oper} {e : R} {V : Val} (hw : wantq s.gm s.nt s.tm all o = .error e) : Asking V e := by
  unfold wantq at hw
  split at hw
  · cases hw
  · split at hw
    · split at hw
      · rename_i d hd
        cases hb : Nat.blt d s.nt with
        | false => rw [hb] at hw; cases hw; trivial
        | true =>
          rw [hb] at hw
          simp only [cond_true] at hw
          split at hw
          · cases hw
          · split at hw
            · cases hw
            · rename_i hx; cases hw; exact boolq_ask hx
          · cases hw
      · cases hw; trivial
    · cases hw; trivial

theorem Asking.ok {V : Val} {r : R} (h : Asking V r) : askOK V r := by cases r <;> first | exact h | trivial | exact h.elim

/-! ### Temporaries -/
theorem setAll_ok : ∀ {ps : List Nat} {args : List AV} {tm tm' : T AV} {nt : Nat} {a : Array Value} {vs : List Value}, tmRel E mu tm nt a → cavs E mu args = some vs → setAll tm nt ps args = some tm' →
    vs.length = ps.length ∧ tmRel E mu tm' nt ((ps.zip vs).foldl (fun tmps (p : Nat × Value) => tmps.setIfInBounds p.1 p.2) a)
  | [], [], tm, tm', nt, a, vs, ht, hv, hs => by
    simp [setAll] at hs; subst hs
    simp [om] at hv; subst hv
    exact ⟨rfl, ht⟩
  | t :: ps, v :: args, tm, tm', nt, a, vs, ht, hv, hs => by
    obtain ⟨cv, us, h1, h2, rfl⟩ := om_cons.1 hv
    simp only [setAll] at hs
    obtain ⟨q1, q2⟩ := setAll_ok (tmRel_set ht h1) h2 hs
    exact ⟨by simp [q1], q2⟩
  | [], _ :: _, tm, tm', nt, a, vs, ht, hv, hs => by simp [setAll] at hs
  | _ :: _, [], tm, tm', nt, a, vs, ht, hv, hs => by simp [setAll] at hs

theorem tmRel_enter {args : List AV} {vs : List Value} {nt : Nat} (hv : cavs E mu args = some vs) (hn : args.length ≤ nt) :
    tmRel E mu (T.ofList args) nt (vs.toArray ++ Array.replicate (nt - vs.toArray.size) undef) := by
  have hl := om_length hv
  refine ⟨by simp; omega, fun i => ?_⟩
  rw [T.get_ofList]
  have hg := om_get hv i
  by_cases h : i < args.length
  · have h1 : args[i]? = some args[i] := by simp [h]
    have h4 : i < vs.length := by omega
    rw [h1] at hg ⊢
    simp only [Option.bind_some, Option.getD_some] at hg ⊢
    rw [← hg]
    simp [Array.getElem?_append, h4]
  · have h4 : ¬ i < vs.length := by omega
    have h1 : args[i]? = none := by simp; omega
    rw [h1]
    simp only [Option.getD_none, cav, csv, Option.some.injEq]
    simp only [Array.getD_eq_getD_getElem?, Array.getElem?_append, List.size_toArray, h4, if_false, Array.getElem?_replicate]
    split <;> rfl
end
end Sx
