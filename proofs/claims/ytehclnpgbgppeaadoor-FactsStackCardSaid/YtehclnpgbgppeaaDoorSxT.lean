/- a part of the executor and of its soundness -/
import Derived.Test.YtehclnpgbgppeaaDoorSxS
import Derived.OrdersIn
namespace Sx
open Go Go.RowKit

section
variable {F : Fence} {N : Nat} {P : Program} {ops : Array Oper} {Q : Exit → Act → World → Prop}

def isAct (o : Oper) : Bool := match kindOf o.op with
  | .act => true
  | _ => false
/-- What was done to memory, with an operation more. -/
def ext (ops : Array Oper) (D : List Nat) (i : Nat) (a : Act) : List Nat :=
  match ops[i]? with
  | some o => if Region.wanted o (yielded ops a.tmps) = true ∧ isAct o = true then i :: D else D
  | none => D

def WA (F : Fence) (N : Nat) (P : Program) (ops : Array Oper) (Q : Exit → Act → World → Prop) (I : List Nat → World → Prop) : Nat → Array Bool → List Nat → Act → World → Prop
  | 0, listed, D, a, w => I D w ∧ Region.ready .any ops listed = [] ∧ Q .normal a w
  | fuel + 1, listed, D, a, w => I D w ∧ (Region.ready .any ops listed = [] → Q .normal a w) ∧
    ∀ i ∈ Region.ready .any ops listed, wpOpIn F N P ops Q i (WA F N P ops Q I fuel (listed.setIfInBounds i true) (ext ops D i a)) a w

theorem WA.any {I : List Nat → World → Prop} : ∀ {fuel : Nat} {listed : Array Bool} {D : List Nat} {a : Act} {w : World}, WA F N P ops Q I fuel listed D a w → wpAnyIn F N P .any ops Q fuel listed a w
  | 0, _, _, _, _, h => h.2
  | _ + 1, _, _, _, _, h => ⟨h.2.1, fun i hi => wpOpIn_mono (fun _ _ h' => WA.any h') (h.2.2 i hi)⟩
theorem WA.mono {I I' : List Nat → World → Prop} (hI : ∀ D w, I D w → I' D w) : ∀ {fuel : Nat} {listed : Array Bool} {D : List Nat} {a : Act} {w : World}, WA F N P ops Q I fuel listed D a w → WA F N P ops Q I' fuel listed D a w
  | 0, _, _, _, _, h => ⟨hI _ _ h.1, h.2⟩
  | _ + 1, _, _, _, _, h => ⟨hI _ _ h.1, h.2.1, fun i hi => wpOpIn_mono (fun _ _ h' => WA.mono hI h') (h.2.2 i hi)⟩
theorem WA.inv {I : List Nat → World → Prop} : ∀ {fuel : Nat} {listed : Array Bool} {D : List Nat} {a : Act} {w : World}, WA F N P ops Q I fuel listed D a w → I D w
  | 0, _, _, _, _, h => h.1
  | _ + 1, _, _, _, _, h => h.1

/-- It will yield v: it is not wanted; or it is, and it is what S is, and does nothing to memory. -/
def YS (ops : Array Oper) (o : Oper) (v : Value) (S : Option (Sem Next)) (a : Act) : Prop :=
  (Region.wanted o (yielded ops a.tmps) = true ∧ S = some (execOp a.eval o) ∧ isAct o = false) ∨ (Region.wanted o (yielded ops a.tmps) = false ∧ v = undef)

/-- A read reads as it did unless what has been done to memory had to wait for it. -/
def Still (P : Program) (ops : Array Oper) (i : Nat) (S : Sem Next) (v : Value) (D : List Nat) (w : World) : Prop :=
  (∀ e ∈ D, ∀ oe, ops[e]? = some oe → waitsFor oe i = false) → S.run P w = .ok (.value v) w

def ClosedD (ops : Array Oper) (listed : Array Bool) (D : List Nat) : Prop :=
  ∀ e ∈ D, ∀ oe, ops[e]? = some oe → ∀ ed ∈ oe.after, Region.binds .any ed = true → listed.getD ed.on false = true

theorem wpOpIn_putS {j : Nat} {oi oj : Oper} {v : Value} {S : Option (Sem Next)} (hj : ops[j]? = some oj) (hap : oi.apart ops oj = true)
    (hsi : ∀ cs b, oi.op ≠ .select cs b) (hsj : ∀ cs b, oj.op ≠ .select cs b) (hdj : ∀ c, oj.op ≠ .defer c)
    (hQ : ∀ c a w, ¬ Q (.panic c) a w) (hF : ∀ f, F.fn f) {K : Act → World → Prop} {a : Act} {w : World}
    (hy : YS ops oi v S a) (h : wpOpIn F N P ops Q j K (a.put oi.dst v) w) :
    wpOpIn F N P ops Q j (fun a' w' => YS ops oi v S a' ∧ K (a'.put oi.dst v) w') a w := by
  obtain ⟨h1, h2, h3⟩ := Oper.apart_spec hap
  have keep : ∀ (a : Act), YS ops oi v S a → ∀ u, YS ops oi v S (a.put oj.dst u) := fun a hy u => by
    unfold YS at *
    rw [execOp_put oi hsi a oj.dst u h3, wanted_put oi a oj.dst u h3]; exact hy
  unfold wpOpIn at *
  simp only [hj] at *
  rw [wanted_put oj a oi.dst v h1] at h
  split
  · rename_i hw
    simp only [hw, if_true] at h
    unfold Oper.wpIn at *
    refine ⟨fun f _ => hF f, ?_⟩
    have h := h.2
    rw [Oper.semAt_eq _ _ _ hdj, execOp_put oj hsj a oi.dst v h1] at h
    rw [Oper.semAt_eq _ _ _ hdj]
    generalize (execOp a.eval oj).run P w = r at *
    cases r with
    | ok x w' =>
      cases x <;> simp only [Oper.uponIn] at h ⊢
      case value u => exact ⟨keep a hy u, by rw [← Act.put_comm a v u h2]; exact h⟩
      case skip => exact ⟨keep a hy _, by rw [← Act.put_comm a v undef h2]; exact h⟩
      case defer d =>
        refine ⟨keep { a with defers := d :: a.defers } hy undef, ?_⟩
        rw [← Act.put_comm _ v undef h2, ← Act.put_defers]
        exact h
      case enter f args =>
        refine ⟨h.1, CallsIn.mono h.2 fun e w'' he => ?_⟩
        cases e with
        | returned u => exact ⟨keep a hy u, by rw [← Act.put_comm a v u h2]; exact he⟩
        | panicked c => exact (hQ _ _ _ he).elim
        | outgrown => exact he
      case row row args => exact ⟨h.1, RowsIn.mono h.2 fun u w'' he => ⟨keep a hy u, by rw [← Act.put_comm a v u h2]; exact he⟩⟩
      case round l f tmps assign body =>
        refine ⟨h.1, RoundIn.mono h.2 fun e w'' he => ?_⟩
        cases e with
        | returned u => exact ⟨keep a hy u, by rw [← Act.put_comm a v u h2]; exact he⟩
        | panicked c => exact (hQ _ _ _ he).elim
        | outgrown => exact he
    | halt x w' =>
      cases x <;> simp only [Oper.uponIn] at h ⊢
      case panic u => exact (hQ _ _ _ h).elim
  · rename_i hw
    simp only [hw] at h
    exact ⟨fun f _ => hF f, keep a hy _, by rw [← Act.put_comm a v undef h2]; exact h.2⟩

theorem ClosedD.step {listed : Array Bool} {D : List Nat} (hc : ClosedD ops listed D) {j : Nat} {oj : Oper} (hj : ops[j]? = some oj) (hr : j ∈ Region.ready .any ops listed) (a : Act) :
    ClosedD ops (listed.setIfInBounds j true) (ext ops D j a) := by
  obtain ⟨_, o', ho', hall⟩ := mem_ready.1 hr
  rw [hj] at ho'; cases ho'
  have old : ClosedD ops (listed.setIfInBounds j true) D := fun e he oe ho ed hed hb => getD_set_true (hc e he oe ho ed hed hb)
  unfold ext
  rw [hj]
  simp only []
  split
  · intro e he oe ho ed hed hb
    rcases List.mem_cons.1 he with rfl | he
    · rw [hj] at ho; cases ho
      exact getD_set_true (hall ed hed hb)
    · exact old e he oe ho ed hed hb
  · exact old

theorem waitsFor_iff {o : Oper} {i : Nat} : waitsFor o i = true ↔ ∃ e ∈ o.after, Region.binds .any e = true ∧ e.on = i := by
  unfold waitsFor
  rw [Array.any_eq_true']
  constructor
  · rintro ⟨e, he, h⟩
    simp only [Bool.and_eq_true] at h
    exact ⟨e, he, h.1, Nat.eq_of_beq_eq_true h.2⟩
  · rintro ⟨e, he, h1, h2⟩
    exact ⟨e, he, by simp [h1, h2]⟩

theorem WA.first {i : Nat} {oi : Oper} {v : Value} {S : Option (Sem Next)} {I : List Nat → World → Prop} (hi : ops[i]? = some oi)
    (hsel : ∀ (j : Nat) (o : Oper) cs b, ops[j]? = some o → o.op ≠ .select cs b) (hdef : ∀ (j : Nat) (o : Oper) c, ops[j]? = some o → o.op ≠ .defer c)
    (hQ : ∀ c a w, ¬ Q (.panic c) a w) (hF : ∀ f, F.fn f) :
    ∀ (fuel : Nat) (listed : Array Bool) (D : List Nat) (a : Act) (w : World),
      (∀ j oj, ops[j]? = some oj → j ≠ i → listed.getD j true = false → waitsFor oj i = false → oi.apart ops oj = true) →
      i ∈ Region.ready .any ops listed → ClosedD ops listed D → YS ops oi v S a →
      WA F N P ops Q (fun D w => I D w ∧ ∀ s, S = some s → Still P ops i s v D w) fuel (listed.setIfInBounds i true) D (a.put oi.dst v) w → WA F N P ops Q I (fuel + 1) listed D a w := by
  have here : ∀ (listed : Array Bool) (D : List Nat) (a : Act) (w : World) (K : Act → World → Prop), i ∈ Region.ready .any ops listed → ClosedD ops listed D → YS ops oi v S a →
      (∀ s, S = some s → Still P ops i s v D w) → K (a.put oi.dst v) w → wpOpIn F N P ops Q i K a w := by
    intro listed D a w K hr hc hy hst hK
    unfold wpOpIn
    simp only [hi]
    rcases hy with ⟨hw, hS, _⟩ | ⟨hw, rfl⟩
    · simp only [hw, if_true, Oper.wpIn]
      refine ⟨fun f _ => hF f, ?_⟩
      rw [Oper.semAt_eq _ _ _ (fun c => hdef i oi c hi), hst _ hS ?_]
      · exact hK
      · intro e he oe ho
        cases hwf : waitsFor oe i with
        | false => rfl
        | true =>
          obtain ⟨ed, hed, hb, rfl⟩ := waitsFor_iff.1 hwf
          have h1 := hc e he oe ho ed hed hb
          have h0 := (mem_ready.1 hr).1
          rcases Nat.lt_or_ge ed.on listed.size with h' | h'
          · simp [h'] at h0 h1; rw [h0] at h1; cases h1
          · simp [Array.getElem?_eq_none h'] at h1
    · simp only [hw, Bool.false_eq_true, if_false]; exact ⟨fun f _ => hF f, hK⟩
  have extI : ∀ (D : List Nat) (a : Act), YS ops oi v S a → ext ops D i a = D := by
    intro D a hy
    unfold ext
    rw [hi]
    rcases hy with ⟨_, _, hk⟩ | ⟨hw, _⟩
    · simp [hk]
    · simp [hw]
  intro fuel
  induction fuel with
  | zero =>
    intro listed D a w _ hr hc hy H
    refine ⟨H.inv.1, fun h => (by rw [h] at hr; cases hr), fun j hj => ?_⟩
    by_cases hji : j = i
    · subst hji
      exact here listed D a w _ hr hc hy H.inv.2 (by rw [extI D a hy]; exact WA.mono (fun _ _ h => h.1) H)
    · have := ready_mono hj hji
      rw [H.2.1] at this
      cases this
  | succ fuel ih =>
    intro listed D a w hfree hr hc hy H
    refine ⟨H.inv.1, fun h => (by rw [h] at hr; cases hr), fun j hj => ?_⟩
    by_cases hji : j = i
    · subst hji
      exact here listed D a w _ hr hc hy H.inv.2 (by rw [extI D a hy]; exact WA.mono (fun _ _ h => h.1) H)
    · have h1 := H.2.2 j (ready_mono hj hji)
      obtain ⟨hjun, oj, hoj, hall⟩ := mem_ready.1 hj
      have hnot : waitsFor oj i = false := by
        cases hwf : waitsFor oj i with
        | false => rfl
        | true =>
          obtain ⟨ed, hed, hb, rfl⟩ := waitsFor_iff.1 hwf
          have h1 := hall ed hed hb
          have h0 := (mem_ready.1 hr).1
          rcases Nat.lt_or_ge ed.on listed.size with h' | h'
          · simp [h'] at h0 h1; rw [h0] at h1; cases h1
          · simp [Array.getElem?_eq_none h'] at h1
      have hap := hfree j oj hoj hji hjun hnot
      have hext : ext ops D j (a.put oi.dst v) = ext ops D j a := by
        unfold ext
        rw [hoj]
        simp only [wanted_put oj a oi.dst v (Oper.apart_spec hap).1]
      rw [hext] at h1
      have h2 := wpOpIn_putS hoj hap (fun cs b => hsel i oi cs b hi) (fun cs b => hsel j oj cs b hoj) (fun c => hdef j oj c hoj) hQ hF hy h1
      have hfree' : ∀ k ok, ops[k]? = some ok → k ≠ i → (listed.setIfInBounds j true).getD k true = false → waitsFor ok i = false → oi.apart ops ok = true := fun k ok hk hki hun hno => by
        refine hfree k ok hk hki ?_ hno
        by_cases hjk : j = k
        · subst hjk; exact hjun
        · rw [getD_set_ne true hjk] at hun; exact hun
      refine wpOpIn_mono (fun a' w' h3 => ih (listed.setIfInBounds j true) _ a' w' hfree' (ready_mono hr (Ne.symm hji)) (hc.step hoj hj a) h3.1 ?_) h2
      rw [Array.setIfInBounds_comm _ _ hji]
      exact h3.2
end

/-! ### The bits -/
theorem maskOf_bit : ∀ (l : List Edge) (j : Nat), (maskOf l).testBit j = true ↔ ∃ e ∈ l, Region.binds .any e = true ∧ e.on = j
  | [], j => by simp [maskOf]
  | e :: l, j => by
    have ih := maskOf_bit l j
    simp only [maskOf]
    cases hb : Region.binds .any e
    · simp only [cond_false, ih]
      constructor
      · rintro ⟨e', h1, h2⟩; exact ⟨e', List.mem_cons_of_mem _ h1, h2⟩
      · rintro ⟨e', h1, h2, h3⟩
        rcases List.mem_cons.1 h1 with rfl | h1
        · rw [hb] at h2; cases h2
        · exact ⟨e', h1, h2, h3⟩
    · simp only [cond_true]
      have : (Nat.lor (Nat.shiftLeft 1 e.on) (maskOf l)).testBit j = (decide (e.on = j) || (maskOf l).testBit j) := by
        show ((1 <<< e.on) ||| maskOf l).testBit j = _
        rw [Nat.testBit_or, Nat.one_shiftLeft, Nat.testBit_two_pow]
      rw [this, Bool.or_eq_true, ih, decide_eq_true_iff]
      constructor
      · rintro (h | ⟨e', h1, h2⟩)
        · exact ⟨e, List.mem_cons_self .., hb, h⟩
        · exact ⟨e', List.mem_cons_of_mem _ h1, h2⟩
      · rintro ⟨e', h1, h2, h3⟩
        rcases List.mem_cons.1 h1 with rfl | h1
        · exact .inl h3
        · exact .inr ⟨e', h1, h2, h3⟩

theorem readyq_iff {L m : Nat} : readyq L m = true ↔ ∀ j, m.testBit j = true → L.testBit j = true := by
  unfold readyq
  constructor
  · intro h j hj
    have h := Nat.eq_of_beq_eq_true h
    have : (L &&& m).testBit j = true := by
      show (Nat.land L m).testBit j = true
      rw [h]; exact hj
    rw [Nat.testBit_and] at this
    simp at this; exact this.1
  · intro h
    have : Nat.land L m = m := by
      show L &&& m = m
      apply Nat.eq_of_testBit_eq
      intro j
      rw [Nat.testBit_and]
      cases hm : m.testBit j with
      | false => simp
      | true => simp [h j hm]
    rw [this]; simp

theorem bit_set (L i j : Nat) : (Nat.lor (Nat.shiftLeft 1 i) L).testBit j = (decide (i = j) || L.testBit j) := by
  show ((1 <<< i) ||| L).testBit j = _
  rw [Nat.testBit_or, Nat.one_shiftLeft, Nat.testBit_two_pow]
end Sx
