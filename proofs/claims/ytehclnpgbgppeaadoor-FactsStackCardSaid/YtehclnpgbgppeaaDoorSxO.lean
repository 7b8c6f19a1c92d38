/- a part of the executor and of its soundness -/
import Derived.Test.YtehclnpgbgppeaaDoorSxN
namespace Sx
open Go Go.RowKit

section
variable {E : Env} {P : Program} {mu : Mu} {w : World} {C : Cx} {h : Hp} {G : Gam}

theorem chunks_flat {sz : Nat} : ∀ (n : Nat) {l : List SV}, l.length = n * sz → (chunks sz n l).flatten = l ∧ (∀ x ∈ chunks sz n l, x.length = sz) ∧ (chunks sz n l).length = n
  | 0, l, hl => by
    have : l = [] := List.eq_nil_of_length_eq_zero (by simpa using hl)
    subst this; simp [chunks]
  | n + 1, l, hl => by
    have h1 : (n + 1) * sz = n * sz + sz := by rw [Nat.add_mul, Nat.one_mul]
    obtain ⟨q1, q2, q3⟩ := chunks_flat (sz := sz) n (l := l.drop sz) (by simp; omega)
    refine ⟨by simp [chunks, q1], fun x hx => ?_, by simp [chunks, q3]⟩
    simp only [chunks, List.mem_cons] at hx
    rcases hx with rfl | hx
    · simp; omega
    · exact q2 x hx

/-- A slice's elements are where it says. -/
theorem elsOf_ok (hr : HRel E mu h w) (ho : OldOK C E) {sz : Nat} {v : AV} {els : List (List SV)} {cv : Value} (he : elsOf C h sz v = some els) (hv : cav E mu v = some cv) :
    (∀ l ∈ els, l.length = sz) ∧ ∃ vs, csvs E mu els.flatten = some vs ∧ vs.length = els.length * sz ∧
      ((v = .s .nslice ∧ cv = .slice none 0 0 ∧ els = []) ∨ ∃ b off len cap, cv = .slice (some ⟨b, off, none⟩) len cap ∧ els.length = len ∧ ∀ j x, vs[j]? = some x → w.cell? ⟨b, off + j, none⟩ = some x) := by
  unfold elsOf at he
  split at he
  · cases he
    simp only [cav, csv, Option.some.injEq] at hv
    exact ⟨by simp, [], rfl, by simp, .inl ⟨rfl, hv.symm, rfl⟩⟩
  · rename_i r off len cp
    split at he
    · rename_i sz' els0 e ex hobj
      obtain ⟨b, c, ob, h1, h2, h3⟩ := objAt_ok hr ho hobj rfl
      have hval : ∃ cap, cv = .slice (some ⟨b, off, none⟩) len cap := by
        cases cp with
        | ex c =>
          simp only [cav, csv, Option.map_eq_some_iff] at hv
          obtain ⟨b', hb', rfl⟩ := hv
          rw [hb'] at h1; cases h1; exact ⟨_, rfl⟩
        | up k =>
          cases r with
          | g i =>
            simp only [cav, csv, Option.some.injEq] at hv
            simp only [refB, Option.some.injEq] at h1
            subst h1; exact ⟨_, hv.symm⟩
          | o i =>
            simp only [cav, csv, Option.map_eq_some_iff] at hv
            obtain ⟨p, hp, rfl⟩ := hv
            simp [refB, hp] at h1; subst h1; exact ⟨_, rfl⟩
      obtain ⟨cap, rfl⟩ := hval
      cases ob <;> simp only [rrel] at h3
      rename_i A e' fz
      have hrow := h3
      cases h0 : Nat.blt 0 sz with
      | false => simp [h0] at he
      | true =>
        simp only [h0, cond_true] at he
        have hsz : 0 < sz := by simpa using h0
        cases hb : Nat.beq sz sz' && Nat.beq (off % sz) 0 with
        | true =>
          simp only [hb, cond_true] at he
          simp only [Bool.and_eq_true] at hb
          obtain rfl := Nat.eq_of_beq_eq_true hb.1
          have hm := Nat.eq_of_beq_eq_true hb.2
          cases hb2 : Nat.ble (off / sz + len) els0.length with
          | false => simp [hb2] at he
          | true =>
            simp only [hb2, cond_true, Option.some.injEq] at he
            have hle := Nat.le_of_ble_eq_true hb2
            obtain ⟨_, hlen, us, hus, r', hA⟩ := hrow
            subst he
            have hl2 : ∀ l ∈ (els0.drop (off / sz)).take len, l.length = sz := fun l hl => hlen l (List.mem_of_mem_drop (List.mem_of_mem_take hl))
            have hln : ((els0.drop (off / sz)).take len).length = len := by simp; omega
            have hoff : off / sz * sz = off := by
              have := Nat.div_add_mod off sz
              rw [hm, Nat.mul_comm] at this; simpa using this
            have hfl : ((els0.drop (off / sz)).take len).flatten = (els0.flatten.drop off).take (len * sz) := by
              rw [← flat_take (sz := sz) (fun l hl => hlen l (List.mem_of_mem_drop hl)) (by simp; omega), ← flat_dropN hlen (by omega), hoff]
            refine ⟨hl2, (us.drop off).take (len * sz), by rw [hfl]; exact om_take (om_drop hus off) _, ?_, .inr ⟨b, off, len, cap, rfl, hln, fun j x hj => ?_⟩⟩
            · rw [hln]
              have : us.length = els0.length * sz := by rw [om_length hus, flat_length hlen]
              have h2 : (off / sz + len) * sz ≤ els0.length * sz := Nat.mul_le_mul_right _ hle
              rw [Nat.add_mul, hoff] at h2
              simp; omega
            · rw [List.getElem?_take] at hj
              split at hj
              · rw [List.getElem?_drop] at hj
                refine cell_of_row h2 ?_
                rw [← Array.getElem?_toList, hA, List.getElem?_append_left (List.getElem?_eq_some_iff.1 hj).1]
                exact hj
              · cases hj
        | false =>
          simp only [hb, cond_false] at he
          split at he
          · rename_i cs hcs
            cases he
            obtain ⟨vs, q1, q2, q3, q4⟩ := cellsAt_ok hrow hcs
            have hcl : cs.length = len * sz := by rw [← om_length q1, q2]
            obtain ⟨p1, p2, p3⟩ := chunks_flat len hcl
            refine ⟨p2, vs, by rw [p1]; exact q1, by rw [p3, q2], .inr ⟨b, off, len, cap, rfl, p3, fun j x hj => cell_of_row h2 (q4 j x hj)⟩⟩
          · cases he
    · cases he
  · cases he

/-- The first cells of a slice. -/
theorem run_firstCells (hr : HRel E mu h w) (ho : OldOK C E) {sz : Nat} {v : AV} {els : List (List SV)} {cv : Value} (he : elsOf C h sz v = some els) (hv : cav E mu v = some cv) :
    ∃ vs, csvs E mu els.flatten = some vs ∧ vs.length = els.length * sz ∧ (Builtin.firstCells sz els.length cv).run P w = .ok vs.toArray w ∧ (Builtin.lenOf cv).run P w = .ok els.length w := by
  obtain ⟨hl, vs, h1, h2, h3⟩ := elsOf_ok hr ho he hv
  refine ⟨vs, h1, h2, ?_⟩
  rcases h3 with ⟨rfl, rfl, rfl⟩ | ⟨b, off, len, cap, rfl, rfl, hc⟩
  · have : vs = [] := List.eq_nil_of_length_eq_zero (by simpa using h2)
    subst this
    exact ⟨by simp [Builtin.firstCells], by simp [Builtin.lenOf]⟩
  · refine ⟨?_, by simp [Builtin.lenOf]⟩
    have := run_loadCells_list (P := P) (w := w) ⟨b, off, none⟩ vs (fun j x hj => by rw [addr_add]; exact hc j x hj)
    rw [h2] at this
    simp [Builtin.firstCells, this]

theorem spliceEls_flat {sz q : Nat} {els new : List (List SV)} (hlen : ∀ l ∈ els, l.length = sz) (hn : ∀ l ∈ new, l.length = sz) (hq : q + new.length ≤ els.length) :
    (spliceEls els q new).flatten = els.flatten.take (q * sz) ++ new.flatten ++ els.flatten.drop (q * sz + new.flatten.length) ∧ (∀ l ∈ spliceEls els q new, l.length = sz) ∧ (spliceEls els q new).length = els.length := by
  refine ⟨?_, ?_, by simp [spliceEls]; omega⟩
  · have e : q * sz + new.flatten.length = (q + new.length) * sz := by rw [flat_length hn, Nat.add_mul]
    rw [e, flat_take hlen (by omega), flat_dropN hlen hq]
    simp [spliceEls]
  · intro l hl
    simp only [spliceEls, List.mem_append] at hl
    rcases hl with (hl | hl) | hl
    · exact hlen l (List.mem_of_mem_take hl)
    · exact hn l hl
    · exact hlen l (List.mem_of_mem_drop hl)

/-- Elements are written into a row. -/
theorem rowRel_splice {sz q c : Nat} {els new : List (List SV)} {ex : Bool} {A : Array Value} {vs : List Value} (hr : rowRel E mu sz els ex c A) (hn : ∀ l ∈ new, l.length = sz) (hq : q + new.length ≤ els.length)
    (hcs : csvs E mu new.flatten = some vs) :
    rowRel E mu sz (spliceEls els q new) ex c (A.toList.take (q * sz) ++ vs ++ A.toList.drop (q * sz + vs.length)).toArray ∧ q * sz + vs.length ≤ A.size := by
  obtain ⟨hsz, hlen, us, hus, r, hA, hx1, hx2⟩ := hr
  obtain ⟨hf, hl2, hl3⟩ := spliceEls_flat hlen hn hq
  have hvl : vs.length = new.flatten.length := om_length hcs
  have hul : us.length = els.length * sz := by rw [om_length hus, flat_length hlen]
  have hAs : A.size = us.length + r.length := by rw [← Array.length_toList, hA]; simp
  have hfit : q * sz + vs.length ≤ us.length := by
    rw [hvl, flat_length hn, hul, ← Nat.add_mul]; exact Nat.mul_le_mul_right _ hq
  refine ⟨⟨hsz, hl2, us.take (q * sz) ++ vs ++ us.drop (q * sz + vs.length), ?_, r, ?_, hx1, fun hx => ?_⟩, by omega⟩
  · rw [hf]
    refine om_append.2 ⟨us.take (q * sz) ++ vs, _, om_append.2 ⟨_, _, om_take hus _, hcs, rfl⟩, ?_, rfl⟩
    rw [hvl]; exact om_drop hus _
  · simp only [hA]
    rw [List.take_append, List.drop_append]
    have e1 : q * sz - us.length = 0 := by omega
    have e2 : q * sz + vs.length - us.length = 0 := by omega
    simp [e1, e2]
  · have := hx2 hx
    simp; omega

/-- A block that is nobody's becomes a new object. -/
theorem HRel.adopt {w' : World} (hr : HRel E mu h w) {b c : Nat} {o' : AO} {ob' : Obj} (hfree : ∀ i o c', h.m.get i = some o → o.live = true → mu i ≠ some (b, c')) (hb0 : E.w0.heap.size ≤ b)
    (hrel : orel E (mu.add h.nx (b, c)) c o' ob') (hu : Upd w w' b ob') : HRel E (mu.add h.nx (b, c)) (h.push o') w' := by
  have hle : Mu.le mu (mu.add h.nx (b, c)) := Mu.le_add (hr.dom h.nx (Nat.le_refl _)).1
  have mune : ∀ j, j ≠ h.nx → mu.add h.nx (b, c) j = mu j := fun j hj => by simp [Mu.add, hj]
  refine ⟨fun j hj => ?_, fun j oj hj hlj => ?_, fun j k oj ok b1 c1 c2 hj hk hlj hlk e1 e2 => ?_, ?_⟩
  · simp only [Hp.push] at hj ⊢
    have : j ≠ h.nx := by omega
    have hd := hr.dom j (by omega)
    exact ⟨by rw [mune j this]; exact hd.1, by rw [T.get_set_ne this]; exact hd.2⟩
  · simp only [Hp.push] at hj
    by_cases e : j = h.nx
    · subst e
      rw [T.get_set_same] at hj; cases hj
      exact ⟨b, c, ob', Mu.add_same _ _ _, hb0, hu.same, hrel⟩
    · rw [T.get_set_ne e] at hj
      obtain ⟨b1, c1, ob1, e1, e2, e3, e4⟩ := hr.obj j oj hj hlj
      refine ⟨b1, c1, ob1, hle _ _ e1, e2, ?_, orel_mono hle e4⟩
      rw [hu.other b1 (fun e5 => by subst e5; exact hfree j oj c1 hj hlj e1)]; exact e3
  · simp only [Hp.push] at hj hk
    by_cases ej : j = h.nx <;> by_cases ek : k = h.nx
    · rw [ej, ek]
    · subst ej; rw [Mu.add_same] at e1; cases e1
      rw [T.get_set_ne ek] at hk; rw [mune k ek] at e2
      exact absurd e2 (hfree k ok c2 hk hlk)
    · subst ek; rw [Mu.add_same] at e2; cases e2
      rw [T.get_set_ne ej] at hj; rw [mune j ej] at e1
      exact absurd e1 (hfree j oj c1 hj hlj)
    · rw [T.get_set_ne ej] at hj; rw [T.get_set_ne ek] at hk
      rw [mune j ej] at e1; rw [mune k ek] at e2
      exact hr.inj j k oj ok b1 c1 c2 hj hk hlj hlk e1 e2
  · have hb := hr.below
    exact ⟨hu.os.trans hb.os, hu.tape.trans hb.tape, hu.output.trans hb.output, by rw [hu.size]; exact hb.size, fun k hk => by rw [hu.other k (by omega)]; exact hb.block k hk⟩
end
end Sx
