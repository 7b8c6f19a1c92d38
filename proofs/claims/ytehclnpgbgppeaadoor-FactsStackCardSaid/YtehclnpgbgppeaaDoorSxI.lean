/- a part of the executor and of its soundness -/
import Derived.Test.YtehclnpgbgppeaaDoorSxH
namespace Sx
open Go Go.RowKit

theorem flat_split {α : Type} {els : List (List α)} {q : Nat} {el : List α} (h : els[q]? = some el) : els = els.take q ++ el :: els.drop (q + 1) := by
  have hq := (List.getElem?_eq_some_iff.1 h)
  obtain ⟨h1, h2⟩ := hq
  rw [← h2]; simp

section
variable {E : Env} {P : Program} {mu : Mu} {w : World} {C : Cx} {h : Hp} {G : Gam}

theorem flat_set {sz off : Nat} {els : List (List SV)} {el cs : List SV} (hlen : ∀ l ∈ els, l.length = sz) (hel : els[off / sz]? = some el) (hle : off % sz + cs.length ≤ sz) :
    (setEls els (off / sz) (splice el (off % sz) cs)).flatten = els.flatten.take off ++ cs ++ els.flatten.drop (off + cs.length) ∧ off + cs.length ≤ els.flatten.length := by
  have hq : off / sz < els.length := (List.getElem?_eq_some_iff.1 hel).1
  have hell : el.length = sz := hlen el (List.mem_of_getElem? hel)
  have hoff : off / sz * sz + off % sz = off := by rw [Nat.mul_comm]; exact Nat.div_add_mod off sz
  have hs := flat_split hel
  have hfl : els.flatten = (els.take (off / sz)).flatten ++ (el ++ (els.drop (off / sz + 1)).flatten) := by
    conv => lhs; rw [hs]
    simp
  have hl1 : (els.take (off / sz)).flatten.length = off / sz * sz := by
    rw [flat_length (sz := sz) (fun l hm => hlen l (List.mem_of_mem_take hm))]
    simp [Nat.min_eq_left (Nat.le_of_lt hq)]
  have hB : (setEls els (off / sz) (splice el (off % sz) cs)).flatten = (els.take (off / sz)).flatten ++ (splice el (off % sz) cs ++ (els.drop (off / sz + 1)).flatten) := by
    rw [setEls_get els _ _ hq]; simp
  rw [hB, hfl]
  generalize (els.take (off / sz)).flatten = A at *
  generalize (els.drop (off / sz + 1)).flatten = B at *
  generalize hqq : off / sz * sz = Q at *
  generalize off % sz = r at *
  have e1 : off - A.length = r := by omega
  have e2 : off + cs.length - A.length = r + cs.length := by omega
  have e3 : r + cs.length - el.length = 0 := by omega
  have e4 : r - el.length = 0 := by omega
  constructor
  · rw [List.take_append, List.drop_append, e1, e2, List.take_append, List.drop_append, e3, e4, List.take_of_length_le (l := A) (by omega), List.drop_eq_nil_of_le (as := A) (by omega)]
    simp [splice]
  · simp; omega

theorem rowRel_store {sz off c : Nat} {els : List (List SV)} {ex : Bool} {el cs : List SV} {A : Array Value} {vs : List Value} (hr : rowRel E mu sz els ex c A) (hel : els[off / sz]? = some el)
    (hle : off % sz + cs.length ≤ sz) (hcs : csvs E mu cs = some vs) :
    rowRel E mu sz (setEls els (off / sz) (splice el (off % sz) cs)) ex c (A.toList.take off ++ vs ++ A.toList.drop (off + vs.length)).toArray ∧ off + vs.length ≤ A.size := by
  obtain ⟨hsz, hlen, us, hus, r, hA, hx1, hx2⟩ := hr
  obtain ⟨hf, hfl⟩ := flat_set (cs := cs) hlen hel hle
  have hvl : vs.length = cs.length := om_length hcs
  have hul : us.length = els.flatten.length := om_length hus
  have hAs : A.size = us.length + r.length := by rw [← Array.length_toList, hA]; simp
  have hell : el.length = sz := hlen el (List.mem_of_getElem? hel)
  refine ⟨⟨hsz, setEls_all hlen (by rw [splice_length (by omega)]; exact hell), us.take off ++ vs ++ us.drop (off + vs.length), ?_, r, ?_, hx1, fun hx => ?_⟩, by omega⟩
  · rw [hf]
    refine om_append.2 ⟨us.take off ++ vs, _, om_append.2 ⟨_, _, om_take hus off, hcs, rfl⟩, ?_, rfl⟩
    rw [hvl]; exact om_drop hus _
  · simp only [hA]
    rw [List.take_append, List.drop_append]
    have e1 : off - us.length = 0 := by omega
    have e2 : off + vs.length - us.length = 0 := by omega
    simp [e1, e2]
  · have := hx2 hx
    simp; omega

theorem doStore_ok (hr : HRel E mu h w) (hty : TysOK P C) {t : Nat} {a v : AV} {va vv : Value} (ha : cav E mu a = some va) (hv : cav E mu v = some vv) :
    USound E P mu w (Instr.storeAt t va vv) (doStore C h t a v) := by
  unfold doStore
  split
  · rename_i ti i off cs hti hcs
    have ht := hty t ti hti
    cases hb : Nat.beq cs.length ti.sz && cellsq cs with
    | false => trivial
    | true =>
      simp only [cond_true]
      simp only [Bool.and_eq_true] at hb
      have hlen : cs.length = ti.sz := Nat.eq_of_beq_eq_true hb.1
      split
      · rename_i sz els e ex hobj
        split
        · rename_i el hel
          cases hb2 : Nat.ble (off % sz + cs.length) sz with
          | false => trivial
          | true =>
            simp only [cond_true]
            have hle := Nat.le_of_ble_eq_true hb2
            obtain ⟨b, c, ob, h1, h2, h3, h4⟩ := hr.obj i _ hobj rfl
            simp only [cav, csv, refB, h1, Option.map_some, Option.some.injEq] at ha
            subst ha
            cases ob <;> simp only [orel] at h4
            rename_i A e' fz
            obtain ⟨rfl, rfl, h4⟩ := h4
            have hvs := cav_cells hcs hv
            obtain ⟨hrow, hfit⟩ := rowRel_store h4 hel hle hvs
            have hone := cellsq_ok hvs hb.2
            have hst := run_storeCells_at (P := P) b off e' vv.cells.toList 0 A w h3 (by omega) hone
            refine ⟨mu, _, ?_, Mu.le_refl mu, hr.set hobj rfl h1 (o' := .row sz _ e' ex) (ob' := .cells _ e' (0, 0)) ⟨rfl, rfl, hrow⟩ (Upd.setRow h3)⟩
            have hsz : vv.cells.size = ti.sz := by rw [← Array.length_toList, om_length hvs, hlen]
            have hst' : (storeCells ⟨b, off, none⟩ vv.cells.toList).run P w = .ok () (w.setRow b (A.toList.take off ++ vv.cells.toList ++ A.toList.drop (off + vv.cells.toList.length)).toArray) := by
              simpa using hst
            simp only [Instr.storeAt, Instr.sureAddr, Sem.run_bind, Sem.run_pure, Result.andThen_ok, storeVar, ht.sizeOf, hsz]
            simp [hst']
        · trivial
      · trivial
  · trivial

theorem newVar_ok (hr : HRel E mu h w) (hty : TysOK P C) {t : Nat} {ti : TI} (hti : C.ty.get t = some ti) {cs : List SV} {vv : Value} (hl : cs.length = ti.sz) (h0 : 0 < ti.sz)
    (hc : csvs E mu cs = some vv.cells.toList) :
    ∃ mu', (newVar t vv).run P w = .ok ⟨w.heap.size, 0, none⟩ (w.alloc (.cells vv.cells t)) ∧ Mu.le mu mu' ∧ refB E mu' (.o h.nx) = some w.heap.size ∧
      HRel E mu' (h.push (.row ti.sz [cs] t true)) (w.alloc (.cells vv.cells t)) := by
  have hle : Mu.le mu (mu.add h.nx (w.heap.size, 0)) := Mu.le_add (hr.dom h.nx (Nat.le_refl _)).1
  refine ⟨mu.add h.nx (w.heap.size, 0), ?_, hle, ?_, hr.push ?_⟩
  · simp [newVar, newRow, Sem.run_bind]
  · simp [refB, Mu.add_same]
  · refine ⟨rfl, rfl, h0, by simp [hl], vv.cells.toList, ?_, [], by simp, fun _ => rfl, fun h => by cases h⟩
    simp
    exact csvs_mono hle hc

theorem doBox_ok (hr : HRel E mu h w) (hty : TysOK P C) {t : Nat} {v : AV} {vv : Value} (hv : cav E mu v = some vv) :
    VSound E P mu w (Instr.box t vv) (doBox C h t v) := by
  unfold doBox
  split
  · rename_i ti cs hti hcs
    cases hb : Nat.beq cs.length ti.sz && Nat.blt 0 ti.sz with
    | false => trivial
    | true =>
      simp only [cond_true]
      simp only [Bool.and_eq_true] at hb
      obtain ⟨mu', h1, h2, h3, h4⟩ := newVar_ok hr hty hti (Nat.eq_of_beq_eq_true hb.1) (by simpa using hb.2) (cav_cells hcs hv)
      exact ⟨.pointer (some ⟨w.heap.size, 0, none⟩), mu', _, by simp [Instr.box, Sem.run_bind, h1], h2, by simp [cav, csv, h3], h4⟩
  · trivial

theorem doAlloc_ok (hr : HRel E mu h w) (hty : TysOK P C) {t : Nat} :
    VSound E P mu w (Instr.alloc t true (.tuple #[])) (doAlloc C h t) := by
  unfold doAlloc
  split
  · rename_i ti hti
    cases hb : Nat.beq ti.zero.length ti.sz && Nat.blt 0 ti.sz with
    | false => trivial
    | true =>
      simp only [cond_true]
      simp only [Bool.and_eq_true] at hb
      obtain ⟨z, hz, hz1, _⟩ := (hty t ti hti).zero w
      obtain ⟨mu', h1, h2, h3, h4⟩ := newVar_ok hr hty hti (Nat.eq_of_beq_eq_true hb.1) (by simpa using hb.2) (svsOf_ok hz1)
      exact ⟨.pointer (some ⟨w.heap.size, 0, none⟩), mu', _, by simp [Instr.alloc, Sem.run_bind, hz, h1], h2, by simp [cav, csv, h3], h4⟩
  · trivial
end
end Sx
