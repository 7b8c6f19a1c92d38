/- a part of the executor and of its soundness -/
import Derived.Test.YtehclnpgbgppeaaDoorSxE
namespace Sx
open Go Go.RowKit

/-! ### Rows cut into elements -/
section flat
variable {α : Type}
theorem flat_drop {sz : Nat} : ∀ {els : List (List α)}, (∀ l ∈ els, l.length = sz) → ∀ {q : Nat} {el : List α}, els[q]? = some el → els.flatten.drop (q * sz) = el ++ (els.drop (q + 1)).flatten
  | [], _, q, el, h => by simp at h
  | x :: els, hl, 0, el, h => by simp at h; subst h; simp
  | x :: els, hl, q + 1, el, h => by
    have hx : x.length = sz := hl x (by simp)
    have ih := flat_drop (els := els) (fun l hm => hl l (by simp [hm])) (q := q) (el := el) (by simpa using h)
    have e : (q + 1) * sz = x.length + q * sz := by rw [hx, Nat.add_mul, Nat.one_mul, Nat.add_comm]
    rw [List.flatten_cons, e, List.drop_append, Nat.add_sub_cancel_left, ih, List.drop_eq_nil_of_le (by omega)]
    simp
theorem flat_take {sz : Nat} : ∀ {els : List (List α)}, (∀ l ∈ els, l.length = sz) → ∀ {q : Nat}, q ≤ els.length → els.flatten.take (q * sz) = (els.take q).flatten
  | _, _, 0, _ => by simp
  | [], _, q + 1, h => by simp at h
  | x :: els, hl, q + 1, h => by
    have hx : x.length = sz := hl x (by simp)
    have ih := flat_take (els := els) (fun l hm => hl l (by simp [hm])) (q := q) (by simpa using h)
    have e : (q + 1) * sz = x.length + q * sz := by rw [hx, Nat.add_mul, Nat.one_mul, Nat.add_comm]
    rw [List.flatten_cons, e, List.take_append, List.take_succ_cons, List.flatten_cons, Nat.add_sub_cancel_left, ih, List.take_of_length_le (by omega)]
theorem flat_dropN {sz : Nat} : ∀ {els : List (List α)}, (∀ l ∈ els, l.length = sz) → ∀ {q : Nat}, q ≤ els.length → els.flatten.drop (q * sz) = (els.drop q).flatten
  | _, _, 0, _ => by simp
  | [], _, q + 1, h => by simp at h
  | x :: els, hl, q + 1, h => by
    have hx : x.length = sz := hl x (by simp)
    have ih := flat_dropN (els := els) (fun l hm => hl l (by simp [hm])) (q := q) (by simpa using h)
    have e : (q + 1) * sz = x.length + q * sz := by rw [hx, Nat.add_mul, Nat.one_mul, Nat.add_comm]
    rw [List.flatten_cons, e, List.drop_append, Nat.add_sub_cancel_left, ih, List.drop_eq_nil_of_le (by omega)]
    simp
theorem flat_length {sz : Nat} : ∀ {els : List (List α)}, (∀ l ∈ els, l.length = sz) → els.flatten.length = els.length * sz
  | [], _ => by simp
  | x :: els, hl => by
    rw [List.flatten_cons, List.length_append, hl x (by simp), flat_length (els := els) (fun l hm => hl l (by simp [hm]))]
    simp [Nat.add_mul, Nat.add_comm]
end flat

theorem setEls_get : ∀ (els : List (List SV)) (q : Nat) (x : List SV), q < els.length → setEls els q x = els.take q ++ x :: els.drop (q + 1)
  | [], q, x, h => by simp at h
  | y :: els, 0, x, h => by simp [setEls]
  | y :: els, q + 1, x, h => by simp [setEls, setEls_get els q x (by simpa using h)]
theorem setEls_length : ∀ (els : List (List SV)) (q : Nat) (x : List SV), (setEls els q x).length = els.length
  | [], _, _ => rfl
  | _ :: _, 0, _ => rfl
  | _ :: els, q + 1, x => by simp [setEls, setEls_length els q x]
theorem setEls_all {p : List SV → Prop} : ∀ {els : List (List SV)} {q : Nat} {x : List SV}, (∀ l ∈ els, p l) → p x → ∀ l ∈ setEls els q x, p l
  | [], _, _, _, _ => by simp [setEls]
  | y :: els, 0, x, h, hx => by
    intro l hl; simp [setEls] at hl
    rcases hl with rfl | hl
    · exact hx
    · exact h l (by simp [hl])
  | y :: els, q + 1, x, h, hx => by
    intro l hl; simp [setEls] at hl
    rcases hl with rfl | hl
    · exact h _ (by simp)
    · exact setEls_all (fun l hm => h l (by simp [hm])) hx l hl

theorem splice_length {l x : List SV} {at_ : Nat} (h : at_ + x.length ≤ l.length) : (splice l at_ x).length = l.length := by
  simp [splice]; omega

section
variable {E : Env} {mu mu' : Mu} {C : Cx} {P : Program} {h : Hp} {w : World}

/-- Some cells of a row that is known. -/
theorem cellsAt_ok {sz off n : Nat} {els : List (List SV)} {cs : List SV} {A : Array Value} (hr : rowRd E mu sz els A) (hc : cellsAt sz els off n = some cs) :
    ∃ vs, csvs E mu cs = some vs ∧ vs.length = n ∧ off + n ≤ A.size ∧ ∀ j v, vs[j]? = some v → A[off + j]? = some v := by
  obtain ⟨hsz, hlen, vs, hvs, r, hA⟩ := hr
  unfold cellsAt at hc
  split at hc
  · rename_i el hel
    cases hb : Nat.ble (off % sz + n) sz with
    | false => simp [hb] at hc
    | true =>
      simp only [hb, cond_true, Option.some.injEq] at hc
      have hle : off % sz + n ≤ sz := Nat.le_of_ble_eq_true hb
      have hell : el.length = sz := hlen el (List.mem_of_getElem? hel)
      have hoff : off / sz * sz + off % sz = off := by rw [Nat.mul_comm]; exact Nat.div_add_mod off sz
      have hd := flat_drop hlen hel
      have hcs : (els.flatten.drop off).take n = cs := by
        rw [← hc, ← hoff, ← List.drop_drop, hd, List.drop_append, List.take_append]
        have : n - (el.length - off % sz) = 0 := by omega
        simp [hell, show off % sz - sz = 0 by omega]
        omega
      have hm := om_take (om_drop hvs off) n
      rw [hcs] at hm
      have hlv : vs.length = els.flatten.length := om_length hvs
      have hfl : off + n ≤ els.flatten.length := by
        have h1 : off / sz < els.length := (List.getElem?_eq_some_iff.1 hel).1
        rw [flat_length hlen]
        have : (off / sz + 1) * sz ≤ els.length * sz := Nat.mul_le_mul_right _ h1
        rw [Nat.add_mul] at this
        omega
      have hAs : A.size = vs.length + r.length := by rw [← Array.length_toList, hA]; simp
      refine ⟨_, hm, by simp; omega, by omega, fun j v hj => ?_⟩
      rw [List.getElem?_take] at hj
      split at hj
      · rw [List.getElem?_drop] at hj
        rw [← Array.getElem?_toList, hA, List.getElem?_append_left (List.getElem?_eq_some_iff.1 hj).1]
        exact hj
      · cases hj
  · cases hc

theorem cell_of_row {b off : Nat} {A : Array Value} {e : TypeId} {v : Value} {fz : Nat × Nat} (hb : w.heap[b]? = some (.cells A e fz)) (hv : A[off]? = some v) : w.cell? ⟨b, off, none⟩ = some v := by
  simp [World.cell?, hb, hv]
end
end Sx
