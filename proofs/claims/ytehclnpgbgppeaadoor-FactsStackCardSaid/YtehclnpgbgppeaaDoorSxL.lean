/- a part of the executor and of its soundness -/
import Derived.Test.YtehclnpgbgppeaaDoorSxK
namespace Sx
open Go Go.RowKit

section
variable {E : Env} {P : Program} {mu : Mu} {w : World} {C : Cx} {h : Hp} {G : Gam}

theorem strct_field {d : TypeDesc} {fs : List (Nat × Nat)} (hd : tdOf d = .strct fs) : ∃ fields, d = .struct fields ∧ fields.toList.map (fun f => (f.offset, f.type)) = fs := by
  cases d <;> simp [tdOf] at hd
  exact ⟨_, rfl, hd⟩
theorem field_at {fields : Array Field} {fs : List (Nat × Nat)} (he : fields.toList.map (fun f => (f.offset, f.type)) = fs) {i fo ft : Nat} (hi : fs[i]? = some (fo, ft)) :
    ∃ fld, fields[i]? = some fld ∧ fld.offset = fo ∧ fld.type = ft := by
  subst he
  simp only [List.getElem?_map, Option.map_eq_some_iff] at hi
  obtain ⟨fld, h1, h2⟩ := hi
  simp only [Prod.mk.injEq] at h2
  exact ⟨fld, by simpa using h1, h2.1, h2.2⟩

theorem doFieldAddr_ok (hty : TysOK P C) {t f : Nat} {x : AV} {vx : Value} (hx : cav E mu x = some vx) : PSound E P mu h (Instr.fieldAt t vx f) (doFieldAddr C h t x f) := by
  unfold doFieldAddr
  split
  · rename_i ti r off hti
    obtain ⟨d, hd1, hd2⟩ := (hty _ _ hti).und
    split
    · rename_i fs hfs
      rw [hfs] at hd2
      obtain ⟨fields, rfl, hf⟩ := strct_field hd2
      split
      · rename_i fo ft hi
        obtain ⟨fld, g1, g2, g3⟩ := field_at hf hi
        split
        · rename_i fi hfi
          cases hb : Nat.beq fi.sz 0 with
          | true => trivial
          | false =>
            simp only [cond_false]
            have hne : fi.sz ≠ 0 := Nat.ne_of_beq_eq_false hb
            simp only [cav, csv, Option.map_eq_some_iff] at hx
            obtain ⟨b, hb', rfl⟩ := hx
            refine PSound.mk (cv := .pointer (some ⟨b, off + fo, none⟩)) (by simp [cav, csv, hb']) fun w => ?_
            have hs : (Go.sizeOf fld.type).run P w = .ok fi.sz w := by rw [g3]; exact (hty _ _ hfi).sizeOf w
            simp [Instr.fieldAt, Sem.run_bind, run_underlying hd1, g1, Instr.sureAddr, fieldPlace, hs, hne, addr_add, g2]
        · trivial
      · trivial
    · trivial
  · trivial

theorem partOf_ok (hty : TysOK P C) {t off : Nat} {cs : List SV} {vs : List Value} (hc : csvs E mu cs = some vs) : PSound E P mu h (part t vs.toArray off) (partOf C h t cs off) := by
  unfold partOf
  split
  · rename_i ti hti
    split
    · rename_i v hv
      cases hb : Nat.ble (off + ti.sz) cs.length with
      | false => trivial
      | true =>
        simp only [cond_true]
        have hle := Nat.le_of_ble_eq_true hb
        obtain ⟨cv, p1, p2, p3⟩ := mkAV_ok hv (om_take (om_drop hc off) ti.sz)
        refine PSound.mk p1 fun w => ?_
        cases hag : ti.d.agg with
        | true =>
          rw [p2 hag]
          simp [part, Sem.run_bind, (hty _ _ hti).isAgg, hag, (hty _ _ hti).sizeOf]
        | false =>
          have := p3 hag
          have h0 : ((vs.drop off).take ti.sz)[0]? = some cv := by rw [this]; rfl
          have hv0 : vs[off]? = some cv := by
            rw [List.getElem?_take] at h0
            split at h0
            · simpa using h0
            · cases h0
          simp [part, Sem.run_bind, (hty _ _ hti).isAgg, hag, hv0]
    · trivial
  · trivial

theorem doField_ok (hty : TysOK P C) {t f : Nat} {x : AV} {vx : Value} (hx : cav E mu x = some vx) : PSound E P mu h (Instr.field t vx f) (doField C h t x f) := by
  unfold doField
  split
  · rename_i ti cs hti
    obtain ⟨d, hd1, hd2⟩ := (hty _ _ hti).und
    split
    · rename_i fs hfs
      rw [hfs] at hd2
      obtain ⟨fields, rfl, hf⟩ := strct_field hd2
      split
      · rename_i fo ft hi
        obtain ⟨fld, g1, g2, g3⟩ := field_at hf hi
        simp only [cav, Option.map_eq_some_iff] at hx
        obtain ⟨vs, hvs, rfl⟩ := hx
        refine (partOf_ok (h := h) hty (t := ft) (off := fo) hvs).congr fun w => ?_
        simp [Instr.field, Sem.run_bind, run_underlying hd1, g1, asAgg, g2, g3]
      · trivial
    · trivial
  · trivial

theorem lt0 (hs : Sat E.V G) {i : IT} (h0 : ltq G i (.c 0) = some false) : 0 ≤ i.ev E.V.i :=
  Int.not_lt.1 (of_decide_eq_false (ltq_ok hs h0).symm)
theorem ltn (hs : Sat E.V G) {i : IT} {n : Nat} (h0 : ltq G i (.c n) = some true) : i.ev E.V.i < n :=
  of_decide_eq_true (ltq_ok hs h0).symm

theorem numq_int (hs : Sat E.V G) {k : IntKind} {i : IT} {n : Int} (hn : numq G (.s (.int k i)) = .ok n) : i.ev E.V.i = n := by
  obtain ⟨k', t, e1, e2⟩ := numq_ok hs hn
  cases e1; exact e2

theorem doIndex_ok (hs : Sat E.V G) (hty : TysOK P C) {t : Nat} {x ix : AV} {vx vi : Value} (hx : cav E mu x = some vx) (hi : cav E mu ix = some vi) :
    PSound E P mu h (Instr.index t vx vi) (doIndex C G h t x ix) := by
  unfold doIndex
  split
  · rename_i ti cs hti
    obtain ⟨d, hd1, hd2⟩ := (hty _ _ hti).und
    simp only [cav, Option.map_eq_some_iff] at hx
    obtain ⟨vs, hvs, rfl⟩ := hx
    split
    · rename_i n e hfs
      rw [hfs] at hd2
      cases d <;> simp [tdOf] at hd2
      obtain ⟨rfl, rfl⟩ := hd2
      split
      · rename_i te k i hte
        simp only [cav, csv, Option.some.injEq] at hi; subst hi
        split
        · rename_i q0 qn
          have h0 := lt0 hs q0
          have h1 := ltn hs qn
          split
          · rename_i m hm
            have hm' := numq_int hs hm
            refine (partOf_ok (h := h) hty (off := m.toNat * te.sz) hvs).congr fun w => ?_
            simp [Instr.index, asIntOf, Sem.run_bind, run_underlying hd1, h0, h1, (hty _ _ hte).sizeOf, hm']
            intro a; have := a (by omega); omega
          · rename_i e he
            exact (numq_ask hs he).p _
        all_goals trivial
      · trivial
    · trivial
  · rename_i ti s hti
    obtain ⟨d, hd1, hd2⟩ := (hty _ _ hti).und
    simp only [cav, csv, Option.some.injEq] at hx; subst hx
    split
    · rename_i m hdd hm
      rw [hdd] at hd2
      cases d <;> simp [tdOf] at hd2
      obtain ⟨k, i, rfl, hm'⟩ := numq_ok hs hm
      simp only [cav, csv, Option.some.injEq] at hi; subst hi
      cases hb : ile 0 m with
      | false => trivial
      | true =>
        simp only [cond_true]
        have h0 := (ile_iff _ _).1 hb
        split
        · rename_i b hbb
          refine PSound.mk (cv := .int .u8 b.toNat) rfl fun w => ?_
          have : s[m.toNat]? = some b := by
            obtain ⟨⟨l⟩⟩ := s
            simp at hbb
            obtain ⟨hlt, he⟩ := List.getElem?_eq_some_iff.1 hbb
            have hsz : m.toNat < (ByteArray.mk ⟨l⟩).size := hlt
            show (if h : m.toNat < (ByteArray.mk ⟨l⟩).size then some ((ByteArray.mk ⟨l⟩)[m.toNat]) else none) = some b
            rw [dif_pos hsz]
            exact congrArg some he
          simp [Instr.index, asIntOf, Sem.run_bind, run_underlying hd1, hm', h0, this]
        · trivial
    · rename_i e he
      exact (numq_ask hs he).p _
    · trivial
  · trivial

theorem doIndexAddr_ok (hs : Sat E.V G) (hty : TysOK P C) {t : Nat} {x ix : AV} {vx vi : Value} (hx : cav E mu x = some vx) (hi : cav E mu ix = some vi) :
    PSound E P mu h (Instr.indexAt t vx vi) (doIndexAddr C G h t x ix) := by
  unfold doIndexAddr
  split
  · rename_i ti hti
    obtain ⟨d, hd1, hd2⟩ := (hty _ _ hti).und
    split
    · rename_i e hfs
      rw [hfs] at hd2
      cases d <;> simp [tdOf] at hd2
      subst hd2
      rename_i e
      have hel : P.elem t = e := by simp [Program.elem, hd1]
      have hun : P.underlying t = some (.slice (P.elem t)) := by rw [hel]; exact hd1
      split
      · rename_i te i l hte
        split
        · rename_i q hq; exact (sortq_ask hq).p _
        · rename_i r k j hq
          simp only [cav, csv, Option.some.injEq] at hi; subst hi
          simp only [cav, csv, Option.map_eq_some_iff] at hx
          obtain ⟨p, hp, rfl⟩ := hx
          have hlen : r.length = (sd (l.map (·.ev E.V.i))).length := by rw [← sortq_ok hs hq]; simp
          split
          · rename_i q0 qn
            have h0 := lt0 hs q0
            have h1 := ltn hs qn
            split
            · rename_i m hm
              have hm' := numq_int hs hm
              cases hb : Nat.beq te.sz 1 with
              | false => trivial
              | true =>
                simp only [cond_true]
                have hsz := Nat.eq_of_beq_eq_true hb
                refine PSound.mk (cv := .pointer (some ⟨p.1, m.toNat, none⟩)) (by simp [cav, csv, refB, hp]) fun w => ?_
                rw [run_indexAt_slice w t _ _ _ _ _ hun, if_pos (by rw [← hlen]; exact ⟨h0, h1⟩), hel, (hty _ _ hte).sizeOf]
                simp [hsz, addr_add, hm']
            · rename_i e he; exact (numq_ask hs he).p _
          all_goals trivial
        · trivial
      · rename_i te r off len cp hte
        split
        · rename_i k i
          simp only [cav, csv, Option.some.injEq] at hi; subst hi
          split
          · rename_i q0 qn
            have h0 := lt0 hs q0
            have h1 := ltn hs qn
            split
            · rename_i m hm
              have hm' := numq_int hs hm
              have : ∃ b cap, refB E mu r = some b ∧ vx = .slice (some ⟨b, off, none⟩) len cap := by
                cases cp with
                | ex c =>
                  simp only [cav, csv, Option.map_eq_some_iff] at hx
                  obtain ⟨b, hb, rfl⟩ := hx; exact ⟨b, _, hb, rfl⟩
                | up k =>
                  cases r with
                  | g i => simp only [cav, csv, Option.some.injEq] at hx; exact ⟨_, _, rfl, hx.symm⟩
                  | o i =>
                    simp only [cav, csv, Option.map_eq_some_iff] at hx
                    obtain ⟨b, hb, rfl⟩ := hx; exact ⟨b.1, _, by simp [refB, hb], rfl⟩
              obtain ⟨b, cap, hb, rfl⟩ := this
              refine PSound.mk (cv := .pointer (some ⟨b, off + m.toNat * te.sz, none⟩)) (by simp [cav, csv, hb]) fun w => ?_
              rw [run_indexAt_slice w t _ _ _ _ _ hun, if_pos ⟨h0, h1⟩, hel, (hty _ _ hte).sizeOf]
              simp [addr_add, hm']
            · rename_i e he; exact (numq_ask hs he).p _
          all_goals trivial
        · trivial
      · trivial
    · rename_i n e hfs
      rw [hfs] at hd2
      cases d <;> simp [tdOf] at hd2
      obtain ⟨rfl, rfl⟩ := hd2
      rename_i n e
      have hel : P.elem t = e := by simp [Program.elem, hd1]
      have hal : P.arrayLen t = n := by simp [Program.arrayLen, hd1]
      have hun : P.underlying t = some (.array (P.arrayLen t) (P.elem t)) := by rw [hel, hal]; exact hd1
      split
      · rename_i te r off hte
        split
        · rename_i k i
          simp only [cav, csv, Option.some.injEq] at hi; subst hi
          split
          · rename_i q0 qn
            have h0 := lt0 hs q0
            have h1 := ltn hs qn
            split
            · rename_i m hm
              have hm' := numq_int hs hm
              simp only [cav, csv, Option.map_eq_some_iff] at hx
              obtain ⟨b, hb, rfl⟩ := hx
              refine PSound.mk (cv := .pointer (some ⟨b, off + m.toNat * te.sz, none⟩)) (by simp [cav, csv, hb]) fun w => ?_
              rw [run_indexAt_array w t _ _ _ hun, if_pos (by rw [hal]; exact ⟨h0, h1⟩), hel, (hty _ _ hte).sizeOf]
              simp [addr_add, hm']
            · rename_i e he; exact (numq_ask hs he).p _
          all_goals trivial
        · trivial
      · trivial
    · trivial
  · trivial
end
end Sx
