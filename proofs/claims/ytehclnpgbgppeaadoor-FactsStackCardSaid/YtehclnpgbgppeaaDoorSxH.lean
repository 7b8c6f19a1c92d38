/- a part of the executor and of its soundness -/
import Derived.Test.YtehclnpgbgppeaaDoorSxG
namespace Sx
open Go Go.RowKit

/-- It only asks, or gives up. -/
def Asking (V : Val) : R → Prop
  | .ask _ | .bad => True
  | .askv t lo hi => lo ≤ t.ev V.i ∧ t.ev V.i ≤ hi
  | _ => False

/-- What does not look at the world. -/
def PSound (E : Env) (P : Program) (mu : Mu) (h : Hp) (s : Sem Value) : R → Prop
  | .val v h' => h' = h ∧ ∃ cv, cav E mu v = some cv ∧ ∀ w, s.run P w = .ok cv w
  | .skip _ | .call .. | .yld .. => False
  | .askv t lo hi => lo ≤ t.ev E.V.i ∧ t.ev E.V.i ≤ hi
  | _ => True

section
variable {E : Env} {P : Program} {mu : Mu} {w : World} {C : Cx} {h : Hp} {G : Gam}
theorem Asking.v {r : R} (ha : Asking E.V r) (s : Sem Value) : VSound E P mu w s r := by cases r <;> first | exact ha | trivial | exact ha.elim
/-- A read: memory stays. -/
def RSound (E : Env) (P : Program) (mu : Mu) (h : Hp) (w : World) (s : Sem Value) : R → Prop
  | .val v h' => h' = h ∧ ∃ cv, cav E mu v = some cv ∧ s.run P w = .ok cv w
  | .skip _ | .call .. | .yld .. => False
  | .askv t lo hi => lo ≤ t.ev E.V.i ∧ t.ev E.V.i ≤ hi
  | _ => True
theorem RSound.of_val {s : Sem Value} {v : AV} {cv : Value} (_ : HRel E mu h w) (h1 : s.run P w = .ok cv w) (h2 : cav E mu v = some cv) : RSound E P mu h w s (.val v h) := ⟨rfl, cv, h2, h1⟩
theorem RSound.v {s : Sem Value} {r : R} (hr : HRel E mu h w) (hp : RSound E P mu h w s r) : VSound E P mu w s r := by
  cases r <;> try exact hp
  obtain ⟨rfl, cv, h1, h2⟩ := hp
  exact VSound.of_val hr h2 h1
theorem Asking.r {r : R} (ha : Asking E.V r) (s : Sem Value) : RSound E P mu h w s r := by cases r <;> first | exact ha | trivial | exact ha.elim
theorem PSound.v {s : Sem Value} {r : R} (hr : HRel E mu h w) (hp : PSound E P mu h s r) : VSound E P mu w s r := by
  cases r <;> try exact hp
  obtain ⟨rfl, cv, h1, h2⟩ := hp
  exact VSound.of_val hr (h2 w) h1
theorem Asking.p {r : R} (ha : Asking E.V r) (s : Sem Value) : PSound E P mu h s r := by cases r <;> first | exact ha | trivial | exact ha.elim
theorem PSound.mk {s : Sem Value} {v : AV} {cv : Value} (h1 : cav E mu v = some cv) (h2 : ∀ w, s.run P w = .ok cv w) : PSound E P mu h s (.val v h) := ⟨rfl, cv, h1, h2⟩
theorem PSound.congr {s s' : Sem Value} {r : R} (hp : PSound E P mu h s r) (he : ∀ w, s'.run P w = s.run P w) : PSound E P mu h s' r := by
  cases r <;> try exact hp
  obtain ⟨e, cv, h1, h2⟩ := hp
  exact ⟨e, cv, h1, fun w => (he w).trans (h2 w)⟩

theorem Asking.u {r : R} (ha : Asking E.V r) (s : Sem Unit) : USound E P mu w s r := by cases r <;> first | exact ha | trivial | exact ha.elim
theorem Asking.n {r : R} (ha : Asking E.V r) (s : Sem Next) : NSound E P mu w s r := by cases r <;> first | exact ha | trivial | exact ha.elim
theorem askEq_ask {V : Val} (a b : IT) : Asking V (askEq G a b) := by unfold askEq; split <;> trivial
theorem insq_ask {V : Val} {x : IT} : ∀ {l : List IT} {e : R}, insq G x l = .error e → Asking V e
  | [], e, he => by simp [insq] at he
  | y :: l, e, he => by
    simp only [insq] at he
    split at he
    · cases he
    · split at he
      · cases he
      · split at he
        · cases he
        · rename_i hx; cases he; exact insq_ask hx
      · cases he; trivial
    · cases he; exact askEq_ask _ _
theorem sortq_ask {V : Val} : ∀ {l : List IT} {e : R}, sortq G l = .error e → Asking V e
  | [], e, he => by simp [sortq] at he
  | x :: l, e, he => by
    simp only [sortq] at he
    split at he
    · exact insq_ask he
    · rename_i hx; cases he; exact sortq_ask hx
theorem numq_ask (hs : Sat E.V G) {v : AV} {e : R} (he : numq G v = .error e) : Asking E.V e := by
  unfold numq at he
  split at he
  · rename_i k t
    split at he
    · cases he
    · split at he
      · rename_i l u hr
        cases hb : ilt (u - l) 300 <;> simp [hb] at he <;> subst he
        · trivial
        · exact rng_ok hs _ _ _ hr
      · cases he; trivial
  · cases he; trivial
theorem numq_ok (hs : Sat E.V G) {v : AV} {n : Int} (hn : numq G v = .ok n) : ∃ k t, v = .s (.int k t) ∧ t.ev E.V.i = n := by
  unfold numq at hn
  split at hn
  · rename_i k t
    refine ⟨k, t, rfl, ?_⟩
    have := res_ev hs t
    split at hn
    · rename_i m hm
      cases hn
      rw [hm] at this; exact this.symm
    · split at hn
      · rename_i l u hr
        cases hb : ilt (u - l) 300 <;> simp [hb] at hn
      · cases hn
  · cases hn
theorem boolSV_ask {V : Val} {x : SV} {e : R} (he : boolSV G x = .error e) : Asking V e := by
  unfold boolSV at he
  split at he
  · cases he
  · split at he
    · cases he
    · cases he; trivial
  · cases he; trivial
theorem boolSV_ok (hs : Sat E.V G) {x : SV} {b : Bool} (hb : boolSV G x = .ok b) : csv E mu x = some (.bool b) := by
  unfold boolSV at hb
  split at hb
  · cases hb; rfl
  · split at hb
    · rename_i hl
      cases hb
      have := lookAt_ok hs.at_ hl
      simp only [Atom.ev] at this
      simp [csv, this]
    · cases hb
  · cases hb
theorem boolq_ask {V : Val} {v : AV} {e : R} (he : boolq G v = .error e) : Asking V e := by
  unfold boolq at he
  split at he
  · exact boolSV_ask he
  · cases he; trivial
theorem boolq_ok (hs : Sat E.V G) {v : AV} {b : Bool} (hb : boolq G v = .ok b) : cav E mu v = some (.bool b) := by
  unfold boolq at hb
  split at hb
  · exact boolSV_ok hs hb
  · cases hb

theorem evo_ok {tm : T AV} {nt : Nat} {a : Act} (hg : ∀ g, g < 1000000 → E.gb g = g) (ht : tmRel E mu tm nt a.tmps) {x : Operand} {v : AV} (hv : evo tm x = some v) : cav E mu v = some (a.eval x) := by
  cases x with
  | tmp t =>
    have := ht.2 t
    simp only [evo] at hv
    split at hv
    · rename_i u hu
      cases hv
      simpa [hu, Act.eval] using this
    · rename_i hu
      cases hv
      simpa [hu, Act.eval] using this
  | const c => exact avOf_ok hv
  | global g =>
    simp only [evo] at hv
    cases hb : Nat.blt g 1000000 <;> simp [hb] at hv
    subst hv
    have : g < 1000000 := by simpa using hb
    simp [cav, csv, refB, hg g this, Act.eval]
  | func f => simp only [evo] at hv; cases hv; rfl
theorem evs_ok {tm : T AV} {nt : Nat} {a : Act} (hg : ∀ g, g < 1000000 → E.gb g = g) (ht : tmRel E mu tm nt a.tmps) : ∀ {l : List Operand} {vs : List AV}, evs tm l = some vs → cavs E mu vs = some (l.map a.eval)
  | [], vs, hv => by simp [evs] at hv; subst hv; rfl
  | x :: l, vs, hv => by
    simp only [evs] at hv
    split at hv
    · rename_i v hx
      split at hv
      · rename_i us hus
        cases hv
        exact om_cons.2 ⟨_, _, evo_ok hg ht hx, evs_ok hg ht hus, rfl⟩
      · cases hv
    · cases hv

/-! ### Memory -/
theorem doLoad_ok (hr : HRel E mu h w) (ho : OldOK C E) (hty : TysOK P C) (hs : Sat E.V G) {t : Nat} {a : AV} {va : Value} (ha : cav E mu a = some va) :
    RSound E P mu h w (Instr.loadAt t va) (doLoad C G h t a) := by
  unfold doLoad
  split
  · rename_i ti r off hti
    have ht := hty t ti hti
    simp only [cav, csv, Option.map_eq_some_iff] at ha
    obtain ⟨b, hb, rfl⟩ := ha
    split
    · rename_i l e hobj
      obtain ⟨b', c, ob, h1, h2, h3⟩ := objAt_ok hr ho hobj rfl
      rw [hb] at h1; cases h1
      split
      · rename_i q hq
        split
        · rename_i x hx hd
          have hsort := sortq_ok hs hq
          cases ob <;> simp only [rrel] at h3
          rename_i A e' fz
          obtain ⟨rr, hA⟩ := h3
          have hA2 : A[off]? = some (.int .i64 (x.ev E.V.i)) := by
            rw [← Array.getElem?_toList, hA, ← hsort]
            have hlt := (List.getElem?_eq_some_iff.1 hx).1
            rw [List.getElem?_append_left (by simpa using hlt)]
            simp [hx]
          have hcell := cell_of_row h2 hA2
          refine RSound.of_val hr (cv := .int .i64 (x.ev E.V.i)) ?_ rfl
          have := run_loadVar_one (P := P) ht hcell (by rw [hd]; rfl)
          simpa [Instr.loadAt, Instr.sureAddr, Sem.run_bind] using this
        · trivial
      · rename_i e he
        exact (sortq_ask he).r _
    · rename_i sz els e ex hobj
      obtain ⟨b', c, ob, h1, h2, h3⟩ := objAt_ok hr ho hobj rfl
      rw [hb] at h1; cases h1
      split
      · rename_i cs hcs
        split
        · rename_i v hv
          cases ob <;> simp only [rrel] at h3
          rename_i A e' fz
          obtain ⟨vs, q1, q2, q3, q4⟩ := cellsAt_ok h3 hcs
          obtain ⟨cv, p1, p2, p3⟩ := mkAV_ok hv q1
          refine RSound.of_val hr (cv := cv) ?_ p1
          have hcell : ∀ j v, vs[j]? = some v → w.cell? ⟨b, off + j, none⟩ = some v := fun j v hj => cell_of_row h2 (q4 j v hj)
          have : (loadVar t ⟨b, off, none⟩).run P w = .ok cv w := by
            cases hag : ti.d.agg with
            | true => rw [p2 hag]; exact run_loadVar_agg ht q2 hcell hag
            | false =>
              have := p3 hag; subst this
              exact run_loadVar_one ht (hcell 0 cv rfl) hag
          simpa [Instr.loadAt, Instr.sureAddr, Sem.run_bind] using this
        · trivial
      · trivial
    · trivial
  · trivial
end
end Sx
