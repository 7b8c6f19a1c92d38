/- a part of the executor and of its soundness -/
import Derived.Test.YtehclnpgbgppeaaDoorSxL
namespace Sx
open Go Go.RowKit

section
variable {E : Env} {P : Program} {mu : Mu} {w : World} {C : Cx} {h : Hp} {G : Gam}

theorem boundq_ask (hs : Sat E.V G) {v : AV} {n : Nat} {e : R} (he : boundq G v n = .error e) : Asking E.V e := by
  unfold boundq at he
  split at he
  · rename_i m hm
    cases hb : ile 0 m && ile m n <;> simp [hb] at he; subst he; trivial
  · rename_i h; cases he; exact numq_ask hs h
theorem boundq_ok (hs : Sat E.V G) {v : AV} {n m : Nat} {cv : Value} (hm : boundq G v n = .ok m) (hv : cav E mu v = some cv) (code : BoundsCode) :
    m ≤ n ∧ ∀ y, n ≤ y → ∀ w, (Instr.sliceBound cv y code).run P w = .ok m w := by
  unfold boundq at hm
  split at hm
  · rename_i j hj
    cases hb : ile 0 j && ile j n with
    | false => simp [hb] at hm
    | true =>
      simp only [hb, cond_true, Except.ok.injEq] at hm
      simp only [Bool.and_eq_true] at hb
      have h0 := (ile_iff _ _).1 hb.1
      have h1 := (ile_iff _ _).1 hb.2
      obtain ⟨k, t, rfl, ht⟩ := numq_ok hs hj
      simp only [cav, csv, Option.some.injEq] at hv; subst hv; subst hm
      refine ⟨by omega, fun y hy w => ?_⟩
      have : 0 ≤ j ∧ j ≤ y := by omega
      simp only [Instr.sliceBound, asIntOf, Sem.run_bind, Sem.run_pure, Result.andThen_ok, ht, if_pos this]
  · cases hm

theorem optq_ask (hs : Sat E.V G) {v : Option AV} {n d : Nat} {e : R} (he : optq G v n d = .error e) : Asking E.V e := by
  unfold optq at he
  split at he
  · exact boundq_ask hs he
  · cases he

/-- A slice expression's bounds. -/
theorem bounds_ok (hs : Sat E.V G) {lo hi : Option AV} {vlo vhi : Option Value} (hlo : lo.map (cav E mu) = vlo.map some) (hhi : hi.map (cav E mu) = vhi.map some) {isS : Bool} {len cap n hh l : Nat}
    (hn : n ≤ cap) (h1 : optq G hi n len = .ok hh) (h2 : optq G lo hh 0 = .ok l) : hh ≤ max n len ∧ l ≤ hh ∧ ∀ w, (Instr.sliceBounds isS len cap vlo vhi none).run P w = .ok (l, hh, cap) w := by
  have e1 : hh ≤ max n len ∧ ∀ w, (match vhi with | some v => Instr.sliceBound v cap (if isS then .sliceAcap else .sliceAlen) | none => (pure len : Sem Nat)).run P w = .ok hh w := by
    cases hi with
    | none => cases vhi with
      | none => simp [optq] at h1; subst h1; exact ⟨by omega, fun w => rfl⟩
      | some v => simp at hhi
    | some a => cases vhi with
      | none => simp at hhi
      | some v =>
        simp at hhi
        simp only [optq] at h1
        obtain ⟨q1, q2⟩ := boundq_ok (P := P) hs h1 hhi (if isS then .sliceAcap else .sliceAlen)
        exact ⟨by omega, fun w => q2 cap hn w⟩
  have e2 : l ≤ hh ∧ ∀ w, (match vlo with | some v => Instr.sliceBound v hh .sliceB | none => (pure 0 : Sem Nat)).run P w = .ok l w := by
    cases lo with
    | none => cases vlo with
      | none => simp [optq] at h2; subst h2; exact ⟨by omega, fun w => rfl⟩
      | some v => simp at hlo
    | some a => cases vlo with
      | none => simp at hlo
      | some v =>
        simp at hlo
        simp only [optq] at h2
        obtain ⟨q1, q2⟩ := boundq_ok (P := P) hs h2 hlo .sliceB
        exact ⟨q1, fun w => q2 hh (Nat.le_refl _) w⟩
  refine ⟨e1.1, e2.1, fun w => ?_⟩
  have a1 := e1.2 w
  have a2 := e2.2 w
  unfold Instr.sliceBounds
  cases vhi <;> cases vlo <;> simp_all [Sem.run_bind]

theorem rowRel_cap {sz c : Nat} {els : List (List SV)} {A : Array Value} (hr : rowRel E mu sz els false c A) : els.length ≤ c := by
  obtain ⟨hsz, hlen, vs, hvs, r, hA, _, hx⟩ := hr
  have h1 : A.size = c * sz := hx rfl
  have h2 : vs.length = els.flatten.length := om_length hvs
  have h3 : A.size = vs.length + r.length := by rw [← Array.length_toList, hA]; simp
  rw [flat_length hlen] at h2
  have : els.length * sz ≤ c * sz := by omega
  exact Nat.le_of_mul_le_mul_right this hsz

theorem optOf_ok {tm : T AV} {nt : Nat} {a : Act} (hg : ∀ g, g < 1000000 → E.gb g = g) (ht : tmRel E mu tm nt a.tmps) {x : Option Operand} {v : Option AV} (hv : optOf tm x = some v) :
    v.map (cav E mu) = (x.map a.eval).map some := by
  cases x with
  | none => simp [optOf] at hv; subst hv; rfl
  | some x =>
    simp only [optOf] at hv
    split at hv
    · rename_i u hu
      cases hv
      simp [evo_ok hg ht hu]
    · cases hv

theorem doSlice_ok (hr : HRel E mu h w) (hs : Sat E.V G) (hty : TysOK P C) {t : Nat} {x : AV} {vx : Value} (hx : cav E mu x = some vx) {lo hi mx : Option AV} {vlo vhi vmx : Option Value}
    (hlo : lo.map (cav E mu) = vlo.map some) (hhi : hi.map (cav E mu) = vhi.map some) (hmx : mx.map (cav E mu) = vmx.map some) :
    PSound E P mu h (Instr.sliceAt t vx vlo vhi vmx) (doSlice C G h t x lo hi mx) := by
  unfold doSlice
  split
  · rename_i ti hti
    obtain rfl : vmx = none := by cases vmx <;> simp at hmx ⊢
    obtain ⟨d, hd1, hd2⟩ := (hty _ _ hti).und
    split
    · rename_i n e r off hfs
      rw [hfs] at hd2
      cases d <;> simp [tdOf] at hd2
      obtain ⟨rfl, rfl⟩ := hd2
      rename_i n e
      split
      · rename_i te hte
        split
        · rename_i hh h1
          split
          · rename_i l h2
            obtain ⟨q1, q2, q3⟩ := bounds_ok (P := P) hs hlo hhi (isS := false) (len := n) (cap := n) (Nat.le_refl _) h1 h2
            simp only [cav, csv, Option.map_eq_some_iff] at hx
            obtain ⟨b, hb, rfl⟩ := hx
            refine PSound.mk (cv := .slice (some ⟨b, (bif Nat.beq n l then off else off + l * te.sz), none⟩) (hh - l) (n - l)) (by simp [cav, csv, hb]) fun w => ?_
            simp only [Instr.sliceAt, Sem.run_bind, run_underlying hd1, Result.andThen_ok, Instr.sureAddr, Sem.run_pure, q3 w, (hty _ _ hte).sizeOf]
            cases hbq : Nat.beq n l with
            | true => have := Nat.eq_of_beq_eq_true hbq; simp [this]
            | false => have := Nat.ne_of_beq_eq_false hbq; simp [this, addr_add]
          · rename_i e he; exact (optq_ask hs he).p _
        · rename_i e he; exact (optq_ask hs he).p _
      · trivial
    · rename_i e hfs
      rw [hfs] at hd2
      cases d <;> simp [tdOf] at hd2
      subst hd2
      rename_i e
      simp only [cav, csv, Option.some.injEq] at hx; subst hx
      split
      · rename_i te hte
        split
        · rename_i hh h1
          split
          · rename_i l h2
            obtain ⟨q1, q2, q3⟩ := bounds_ok (P := P) hs hlo hhi (isS := true) (len := 0) (cap := 0) (Nat.le_refl _) h1 h2
            refine PSound.mk (cv := .slice none 0 0) rfl fun w => ?_
            have hl0 : l = 0 := by omega
            have hh0 : hh = 0 := by omega
            simp [Instr.sliceAt, Instr.slice, Sem.run_bind, run_underlying hd1, q3 w, (hty _ _ hte).sizeOf, hl0, hh0]
          · rename_i e he; exact (optq_ask hs he).p _
        · rename_i e he; exact (optq_ask hs he).p _
      · trivial
    · rename_i e r off len c hfs
      rw [hfs] at hd2
      cases d <;> simp [tdOf] at hd2
      subst hd2
      rename_i e
      split
      · rename_i te hte
        split
        · rename_i hh h1
          split
          · rename_i l h2
            obtain ⟨q1, q2, q3⟩ := bounds_ok (P := P) hs hlo hhi (isS := true) (len := len) (cap := c) (Nat.le_refl _) h1 h2
            simp only [cav, csv, Option.map_eq_some_iff] at hx
            obtain ⟨b, hb, rfl⟩ := hx
            refine PSound.mk (cv := .slice (some ⟨b, (bif Nat.beq c l then off else off + l * te.sz), none⟩) (hh - l) (c - l)) (by simp [cav, csv, hb]) fun w => ?_
            simp only [Instr.sliceAt, Instr.slice, Sem.run_bind, run_underlying hd1, Result.andThen_ok, Sem.run_pure, q3 w, (hty _ _ hte).sizeOf]
            cases hbq : Nat.beq c l with
            | true => have := Nat.eq_of_beq_eq_true hbq; simp [this]
            | false => have := Nat.ne_of_beq_eq_false hbq; simp [this, addr_add]
          · rename_i e he; exact (optq_ask hs he).p _
        · rename_i e he; exact (optq_ask hs he).p _
      · trivial
    · rename_i e i off len k hfs
      rw [hfs] at hd2
      cases d <;> simp [tdOf] at hd2
      subst hd2
      rename_i e
      split
      · rename_i te sz els el hte hobj
        split
        · rename_i hh h1
          split
          · rename_i l h2
            cases hb : Nat.blt l len && Nat.beq sz te.sz && Nat.ble (k + len) els.length with
            | false => trivial
            | true =>
              simp only [cond_true]
              simp only [Bool.and_eq_true] at hb
              have hll : l < len := by simpa using hb.1.1
              have hle := Nat.le_of_ble_eq_true hb.2
              simp only [cav, csv, Option.map_eq_some_iff] at hx
              obtain ⟨p, hp, rfl⟩ := hx
              obtain ⟨b, c, ob, e1, _, e3, e4⟩ := hr.obj i _ hobj rfl
              rw [hp] at e1; cases e1
              cases ob <;> simp only [orel] at e4
              have hcap := rowRel_cap e4.2.2
              obtain ⟨q1, q2, q3⟩ := bounds_ok (P := P) hs hlo hhi (isS := true) (len := len) (cap := c - k) (n := len) (by omega) h1 h2
              refine PSound.mk (cv := .slice (some ⟨b, off + l * te.sz, none⟩) (hh - l) (c - (k + l))) (by simp [cav, csv, hp]) fun w => ?_
              simp only [Instr.sliceAt, Instr.slice, Sem.run_bind, run_underlying hd1, Result.andThen_ok, Sem.run_pure, q3 w, (hty _ _ hte).sizeOf]
              have : c - k ≠ l := by omega
              simp [this, addr_add]
              omega
          · rename_i e he; exact (optq_ask hs he).p _
        · rename_i e he; exact (optq_ask hs he).p _
      · trivial
    · trivial
  · trivial
end
end Sx
