/- a part of the executor and of its soundness -/
import Derived.Test.YtehclnpgbgppeaaDoorSxI
namespace Sx
open Go Go.RowKit

theorem foldSet (off : Nat) : ∀ (vs : List Value) (k : Nat) (A : Array Value), off + k + vs.length ≤ A.size →
    ((vs.zipIdx k).foldl (fun (cs : Array Value) (p : Value × Nat) => cs.setIfInBounds (off + p.2) p.1) A).toList = A.toList.take (off + k) ++ vs ++ A.toList.drop (off + k + vs.length)
  | [], k, A, _ => by simp
  | v :: vs, k, A, h => by
    simp only [List.zipIdx_cons, List.foldl_cons]
    rw [foldSet off vs (k + 1) _ (by simp at h ⊢; omega)]
    have e := list_seg_step A.toList (off + k) v vs (by simp at h ⊢; omega)
    simpa [Array.toList_setIfInBounds, Nat.add_assoc] using e

section
variable {E : Env} {P : Program} {mu : Mu} {w : World} {C : Cx} {h : Hp} {G : Gam}

/-- Parts and their values. -/
def prel (E : Env) (mu : Mu) : List (Nat × AV) → List (Nat × Value) → Prop
  | [], [] => True
  | (i, v) :: l, (j, cv) :: r => i = j ∧ cav E mu v = some cv ∧ prel E mu l r
  | _, _ => False

theorem fill_ok {place : Nat → Option (Nat × Nat)} : ∀ {ps : List (Nat × AV)} {vs : List (Nat × Value)} {cs cs' : List SV} {A : Array Value}, prel E mu ps vs → csvs E mu cs = some A.toList →
    fillAt place cs ps = some cs' → ∃ A', Instr.fill place A vs = some A' ∧ csvs E mu cs' = some A'.toList ∧ cs'.length = cs.length
  | [], [], cs, cs', A, _, hc, hf => by simp [fillAt] at hf; subst hf; exact ⟨A, rfl, hc, rfl⟩
  | (i, v) :: ps, (j, cv) :: vs, cs, cs', A, ⟨hij, hv, hp⟩, hc, hf => by
    subst hij
    simp only [fillAt] at hf
    split at hf
    · rename_i off sz x hpl hx
      cases hb : Nat.beq x.length sz && Nat.ble (off + sz) cs.length with
      | false => simp [hb] at hf
      | true =>
        simp only [hb, cond_true] at hf
        simp only [Bool.and_eq_true] at hb
        have h1 : x.length = sz := Nat.eq_of_beq_eq_true hb.1
        have h2 := Nat.le_of_ble_eq_true hb.2
        have hcx := cav_cells hx hv
        have hl : cv.cells.toList.length = x.length := om_length hcx
        have hA : A.toList.length = cs.length := om_length hc
        have hAs : A.size = cs.length := by rw [← Array.length_toList, hA]
        have hcs : cv.cells.size = sz := by rw [← Array.length_toList, hl, h1]
        have hfold : (cv.cells.zipIdx.foldl (fun (cs : Array Value) (p : Value × Nat) => cs.setIfInBounds (off + p.2) p.1) A).toList = A.toList.take off ++ cv.cells.toList ++ A.toList.drop (off + cv.cells.toList.length) := by
          have := foldSet off cv.cells.toList 0 A (by omega)
          rw [← Array.foldl_toList, Array.toList_zipIdx]
          simpa using this
        have hnew : csvs E mu (splice cs off x) = some (cv.cells.zipIdx.foldl (fun (cs : Array Value) (p : Value × Nat) => cs.setIfInBounds (off + p.2) p.1) A).toList := by
          rw [hfold]
          refine om_append.2 ⟨A.toList.take off ++ cv.cells.toList, _, om_append.2 ⟨_, _, om_take hc off, hcx, rfl⟩, ?_, rfl⟩
          rw [hl]; exact om_drop hc _
        obtain ⟨A', q1, q2, q3⟩ := fill_ok hp hnew hf
        refine ⟨A', ?_, q2, by rw [q3, splice_length (by omega)]⟩
        simp only [Instr.fill, hpl]
        rw [if_neg (by simp only [Bool.or_eq_true, decide_eq_true_eq, not_or]; omega)]
        exact q1
    · cases hf
  | [], _ :: _, _, _, _, hp, _, _ => hp.elim
  | _ :: _, [], _, _, _, hp, _, _ => by simp [prel] at hp

theorem plsOf_ok (hty : TysOK P C) : ∀ {fs : List Field} {pls : List (Nat × Nat)}, plsOf C (fs.map fun f => (f.offset, f.type)) = some pls →
    fs.mapM (fun f => (P.info? f.type).map fun i => (f.offset, i.size)) = some pls
  | [], pls, hp => by simp [plsOf] at hp; subst hp; rfl
  | f :: fs, pls, hp => by
    simp only [List.map_cons, plsOf] at hp
    split at hp
    · rename_i ti hti
      split at hp
      · rename_i r hr
        cases hp
        obtain ⟨i, z, h1, h2, _⟩ := (hty _ _ hti).info
        simp [List.mapM_cons, h1, h2, plsOf_ok hty hr]
      · cases hp
    · cases hp

theorem doBuild_ok (hty : TysOK P C) {t : Nat} {ps : List (Nat × AV)} {vs : Array (Nat × Value)} (hp : prel E mu ps vs.toList) :
    PSound E P mu h (Instr.build t vs) (doBuild C h t ps) := by
  unfold doBuild
  split
  · rename_i ti hti
    have ht := hty t ti hti
    obtain ⟨d, hd1, hd2⟩ := ht.und
    obtain ⟨i, z, hi1, hi2, hi3, hi4, hi5, hi6⟩ := ht.info
    have hz := svsOf_ok (E := E) (mu := mu) hi5
    split
    · rename_i fs hfs
      split
      · rename_i pls hpls
        split
        · rename_i cs hcs
          obtain ⟨A', q1, q2, _⟩ := fill_ok hp hz hcs
          refine PSound.mk (cv := .agg A') (by simp [cav, q2]) fun w => run_build w t vs A' ?_
          rw [hfs] at hd2
          cases d <;> simp [tdOf] at hd2
          rename_i fields
          subst hd2
          simp only [Program.built, hi1, hd1, hi4, plsOf_ok hty hpls]
          simpa using q1
        · trivial
      · trivial
    · rename_i n e hfs
      split
      · rename_i te hte
        split
        · rename_i cs hcs
          obtain ⟨A', q1, q2, _⟩ := fill_ok hp hz hcs
          obtain ⟨i', z', g1, g2, _⟩ := (hty _ _ hte).info
          refine PSound.mk (cv := .agg A') (by simp [cav, q2]) fun w => run_build w t vs A' ?_
          rw [hfs] at hd2
          cases d <;> simp [tdOf] at hd2
          obtain ⟨rfl, rfl⟩ := hd2
          simp only [Program.built, hi1, hd1, hi4, g1, g2]
          exact q1
        · trivial
      · trivial
    · trivial
  · trivial

theorem fillEls_ok {sz : Nat} : ∀ {ps : List (Nat × AV)} {els els' : List (List SV)}, (∀ l ∈ els, l.length = sz) → fillEls els sz ps = some els' →
    fillAt (fun i => some (i * sz, sz)) els.flatten ps = some els'.flatten ∧ (∀ l ∈ els', l.length = sz) ∧ els'.length = els.length
  | [], els, els', hl, hf => by simp [fillEls] at hf; subst hf; exact ⟨rfl, hl, rfl⟩
  | (i, v) :: ps, els, els', hl, hf => by
    simp only [fillEls] at hf
    split at hf
    · rename_i x hx
      cases hb : Nat.beq x.length sz && Nat.blt i els.length with
      | false => simp [hb] at hf
      | true =>
        simp only [hb, cond_true] at hf
        simp only [Bool.and_eq_true] at hb
        have h1 : x.length = sz := Nat.eq_of_beq_eq_true hb.1
        have h2 : i < els.length := by simpa using hb.2
        obtain ⟨q1, q2, q3⟩ := fillEls_ok (setEls_all (p := fun l => l.length = sz) (q := i) (x := x) hl h1) hf
        refine ⟨?_, q2, by rw [q3, setEls_length]⟩
        simp only [fillAt, hx]
        have hfit : i * sz + sz ≤ els.flatten.length := by
          rw [flat_length hl]
          have : (i + 1) * sz ≤ els.length * sz := Nat.mul_le_mul_right _ h2
          rw [Nat.add_mul] at this; omega
        have hc : (Nat.beq x.length sz && Nat.ble (i * sz + sz) els.flatten.length) = true := by
          simp only [Bool.and_eq_true]
          exact ⟨hb.1, Nat.ble_eq_true_of_le hfit⟩
        simp only [hc, cond_true]
        have hs : splice els.flatten (i * sz) x = (setEls els i x).flatten := by
          rw [setEls_get els i x h2, splice, flat_take hl (Nat.le_of_lt h2)]
          have : i * sz + x.length = (i + 1) * sz := by rw [h1, Nat.add_mul]; omega
          rw [this, flat_dropN hl h2]
          simp
        rw [hs]; exact q1
    · cases hf

theorem range_flat (z : List Value) : ∀ (n : Nat), (List.range (n * z.length)).map (fun i => z[i % z.length]!) = (List.replicate n z).flatten
  | 0 => by simp
  | n + 1 => by
    rw [Nat.add_mul, Nat.one_mul, List.range_add, List.map_append, range_flat z n, List.replicate_succ', List.flatten_append]
    congr 1
    simp only [List.map_map, List.flatten_cons, List.flatten_nil, List.append_nil]
    apply List.ext_getElem?
    intro j
    by_cases hj : j < z.length
    · simp [hj, Nat.mul_add_mod_self_right, Nat.mod_eq_of_lt hj, Nat.add_mod, Nat.mul_mod_left]
    · simp [hj, List.getElem?_eq_none (Nat.le_of_not_lt hj)]

theorem rangeA_flat (z : Array Value) (n : Nat) : ((Array.range (n * z.size)).map (fun i => z[i % z.size]!)).toList = (List.replicate n z.toList).flatten := by
  rw [Array.toList_map, Array.toList_range, ← range_flat]
  simp only [Array.length_toList]
  apply List.map_congr_left
  intro a _
  simp [getElem!_def]

theorem doBuildSlice_ok (hr : HRel E mu h w) (hty : TysOK P C) {t n : Nat} {ps : List (Nat × AV)} {vs : Array (Nat × Value)} (hp : prel E mu ps vs.toList) :
    VSound E P mu w (Instr.buildSlice t n vs) (doBuildSlice C h t n ps) := by
  unfold doBuildSlice
  split
  · rename_i ti hti
    have ht := hty t ti hti
    obtain ⟨d, hd1, hd2⟩ := ht.und
    split
    · rename_i e hfs
      split
      · rename_i te hte
        have hte' := hty _ _ hte
        cases hb : Nat.beq te.zero.length te.sz && Nat.blt 0 te.sz && Nat.ble (n * te.sz) 16777216 with
        | false => trivial
        | true =>
          simp only [cond_true]
          simp only [Bool.and_eq_true] at hb
          have b1 : te.zero.length = te.sz := Nat.eq_of_beq_eq_true hb.1.1
          have b2 : 0 < te.sz := by simpa using hb.1.2
          have b3 := Nat.le_of_ble_eq_true hb.2
          split
          · rename_i els hels
            rw [hfs] at hd2
            cases d <;> simp [tdOf] at hd2
            subst hd2
            obtain ⟨z, hz, hz1, _⟩ := hte'.zero w
            have hzc := svsOf_ok (E := E) (mu := mu) hz1
            have hzl : z.cells.size = te.sz := by rw [← Array.length_toList, om_length hzc, b1]
            obtain ⟨q1, q2, q3⟩ := fillEls_ok (sz := te.sz) (by intro l hl; rw [List.eq_of_mem_replicate hl]; exact b1) hels
            by_cases hn : n = 0
            · subst hn
              have hempty : csvs E mu (List.replicate 0 te.zero).flatten = some (#[] : Array Value).toList := by simp [om]
              obtain ⟨A', f1, f2, f3⟩ := fill_ok hp hempty q1
              have hle : Mu.le mu (mu.add h.nx (w.heap.size, 0)) := Mu.le_add (hr.dom h.nx (Nat.le_refl _)).1
              refine ⟨.slice (some ⟨w.heap.size, 0, none⟩) 0 0, _, w.alloc (.cells A' _), ?_, hle, by simp [cav, csv, refB, Mu.add_same], hr.push ⟨rfl, rfl, b2, q2, A'.toList, csvs_mono hle f2, [], by simp, fun _ => rfl, (fun h => by cases h)⟩⟩
              simp [Instr.buildSlice, Sem.run_bind, run_underlying hd1, hte'.sizeOf, newRow, show Array.range 0 = #[] from rfl, f1]
            · have hpos : n * te.sz ≠ 0 := Nat.mul_ne_zero hn (by omega)
              have hrep : csvs E mu (List.replicate n te.zero).flatten = some ((Array.range (n * te.sz)).map (fun i => z.cells[i % z.cells.size]!)).toList := by
                rw [← hzl, rangeA_flat]
                have : ∀ m, csvs E mu (List.replicate m te.zero).flatten = some (List.replicate m z.cells.toList).flatten := by
                  intro m
                  induction m with
                  | zero => rfl
                  | succ m ih => simp only [List.replicate_succ, List.flatten_cons]; exact om_append.2 ⟨_, _, hzc, ih, rfl⟩
                exact this n
              obtain ⟨A', f1, f2, f3⟩ := fill_ok hp hrep q1
              have hle : Mu.le mu (mu.add h.nx (w.heap.size, 0)) := Mu.le_add (hr.dom h.nx (Nat.le_refl _)).1
              refine ⟨.slice (some ⟨w.heap.size, 0, none⟩) n n, _, w.alloc (.cells A' _), ?_, hle, by simp [cav, csv, refB, Mu.add_same], hr.push ⟨rfl, rfl, b2, q2, A'.toList, csvs_mono hle f2, [], by simp, fun _ => rfl, (fun h => by cases h)⟩⟩
              have hn1 : ¬ (n * te.sz > 2 ^ 24) := by omega
              simp [Instr.buildSlice, Sem.run_bind, run_underlying hd1, hte'.sizeOf, hn1, hz, f1, newRow]
              intro h0; exact absurd h0 hpos
          · trivial
      · trivial
    · trivial
  · trivial
end
end Sx
