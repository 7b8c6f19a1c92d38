/- a part of the executor and of its soundness -/
import Derived.Test.YtehclnpgbgppeaaDoorSxS3
import Derived.Test.YtehclnpgbgppeaaDoorSxR2
namespace Go.Proofs
open Go Sx
namespace FC
noncomputable section
def intsOf : List (List SV) → Option (List IT)
  | [] => some []
  | [.int .i64 t] :: l => match intsOf l with
    | some r => some (t :: r)
    | none => none
  | _ => none
theorem intsOf_ok {E : Env} {mu : Mu} : ∀ {els : List (List SV)} {l : List IT} {vs : List Value}, intsOf els = some l → csvs E mu els.flatten = some vs → vs = (l.map (·.ev E.V.i)).map (Value.int .i64) ∧ els.length = l.length
  | [], l, vs, h, hv => by
    cases h
    cases hv
    exact ⟨rfl, rfl⟩
  | el :: els, l, vs, h, hv => by
    unfold intsOf at h
    split at h
    · rename_i heq; cases heq
    · rename_i t tl heq
      simp only [List.cons.injEq] at heq
      obtain ⟨rfl, rfl⟩ := heq
      split at h
      · rename_i r hr
        cases h
        obtain ⟨y, ys, h1, h2, rfl⟩ := om_cons.1 hv
        simp only [csv, Option.some.injEq] at h1; subst h1
        obtain ⟨e1, e2⟩ := intsOf_ok hr h2
        exact ⟨by rw [e1]; rfl, by simp [e2]⟩
      · cases h
    · cases h
def suRise (h : Hp) (G : Gam) (v : AV) : Option (List (AV × Hp × Gam)) :=
  match elsOf (Tryd.CX noSu) h 1 v with
  | some els => match intsOf els with
    | some (x :: l) => bif Nat.ble l.length 1000 then some [(.s (.ss h.nx (x :: l)), h.push (.srt (x :: l) 3), G)] else none
    | _ => none
  | none => none
def suSt : Su := fun f args h G =>
  match f, args with
  | 6, [] => some [(.s (.bool true), h, G)]
  | 5, [.agg l] => bif opq G kin l then some (both h G) else none
  | 16, [v] => suRise h G v
  | _, _ => none
theorem suRise_ok {W : World} (ht : Tab W) (V : Val) {h : Hp} {G : Gam} {a : AV} {outs : List (AV × Hp × Gam)} (hsu : suRise h G a = some outs) (mu : Mu) (w : World) (v : Value) (m : Nat) (R : Ending → World → Prop)
    (hh : HRel ⟨V, fun g => g, W⟩ mu h w) (hg : Sat V G) (hv : cav ⟨V, fun g => g, W⟩ mu a = some v)
    (hR : ∀ x h' G' cv w' mu', (x, h', G') ∈ outs → Mu.le mu mu' → cav ⟨V, fun g => g, W⟩ mu' x = some cv → HRel ⟨V, fun g => g, W⟩ mu' h' w' → Sat V G' → R (.returned cv) w') : CallsIn Fence.wide m Tryd.prog 16 #[v] w R := by
  unfold suRise at hsu
  split at hsu
  · rename_i els hels
    split at hsu
    · rename_i x l hints
      cases hb : Nat.ble l.length 1000 with
      | false => rw [hb] at hsu; cases hsu
      | true =>
        rw [hb] at hsu
        simp only [cond_true, Option.some.injEq] at hsu
        have hbl := Nat.le_of_ble_eq_true hb
        obtain ⟨_, vs, h1, h2, h3⟩ := elsOf_ok hh (ht.old noSu V) hels hv
        obtain ⟨e1, e2⟩ := intsOf_ok hints h1
        rcases h3 with ⟨_, _, h3⟩ | ⟨b, off, len, cap, rfl, hlen, hc⟩
        · rw [h3] at hints; cases hints
        let zs : List Int := (x :: l).map (·.ev V.i)
        have hzl : zs.length = len := by simp only [zs, List.length_map]; rw [← e2]; exact hlen
        have hcalls := rising b off len cap zs w (by omega) (by rw [← hzl]; simp [zs]; omega) (fun j hj => by
          refine hc j _ ?_
          rw [e1]
          show (zs.map (Value.int .i64))[j]? = _
          simp [List.getElem?_eq_getElem hj, List.getD])
        refine CallsIn.mono (callsIn_wide.2 hcalls) ?_
        have hz2 : zs.take len = zs := by rw [← hzl]; exact List.take_length
        rw [hz2]
        rintro e w' ⟨g, cp, rfl, hown, hbel⟩
        rcases hown.2 with ⟨h0, _⟩ | ⟨g', cap', cur, hval, hbase, hheap, _, _, _, htake⟩
        · cases h0
        cases hval
        have hh' := hh.past hbel
        have hfree : ∀ i o c', h.m.get i = some o → o.live = true → mu i ≠ some (g, c') := fun i o c' hi hl hm => by
          obtain ⟨b1, c1, ob, q1, _, q3, _⟩ := hh.obj i o hi hl
          rw [hm] at q1; cases q1
          have := Sx.lt_of_heap q3
          omega
        have hup : Upd w' w' g (.cells cur 3 (0, 0)) := ⟨rfl, rfl, rfl, rfl, hheap, fun _ _ => rfl⟩
        have had := HRel.adopt hh' (b := g) (c := cp) (o' := .srt (x :: l) 3) (ob' := .cells cur 3 (0, 0)) hfree (Nat.le_trans hh.below.size hbase)
          ⟨rfl, rfl, cur.toList.drop ((sd zs).length * 1), by rw [← htake, List.take_append_drop]⟩ hup
        refine hR (.s (.ss h.nx (x :: l))) _ G _ w' _ (by rw [← hsu]; simp) (Mu.le_add (hh.dom h.nx (Nat.le_refl _)).1) ?_ had hg
        simp only [cav, csv, Mu.add_same, Option.map_some]
        rfl
    · cases hsu
  · cases hsu
theorem suSt_ok {W : World} (ht : Tab W) (V : Val) : SuOK ⟨V, fun g => g, W⟩ Tryd.prog (Tryd.CX suSt) := by
  refine ⟨fun f args h G outs hsu mu w vs m R hh hg hv hR => ?_⟩
  have htw : Tab w := ht.past hh.below
  have hsu : suSt f args h G = some outs := hsu
  unfold suSt at hsu
  split at hsu
  · simp [om] at hv; subst hv
    refine CallsIn.mono (callsIn_wide.2 (wakes htw)) ?_
    rintro e w' ⟨rfl, hbel⟩
    cases hsu
    exact hR (.s (.bool true)) h G _ w' mu (by simp) (Mu.le_refl _) rfl (hh.past hbel) hg
  · rename_i l _
    cases hb : opq G kin l with
    | false => rw [hb] at hsu; cases hsu
    | true =>
      rw [hb] at hsu
      simp only [cond_true, Option.some.injEq] at hsu
      obtain ⟨fv, r2, hf, hr2, rfl⟩ := om_cons.1 hv
      simp [om] at hr2; subst hr2
      simp only [cav, Option.map_eq_some_iff] at hf
      obtain ⟨l8, hl8, rfl⟩ := hf
      obtain ⟨e1, e2⟩ := opq_ok (E := ⟨V, fun g => g, W⟩) (mu := mu) hg 0 hb hl8 (fun j => valF (l8.getD j default)) (fun j => valB (l8.getD j default)) (fun j v hj => by simp [List.getD, hj])
      rw [e1]
      refine CallsIn.mono (callsIn_wide.2 (right htw _ (fun j k hj => by have := e2 j k hj; simpa using this))) ?_
      rintro e w' ⟨b, rfl, hbel⟩
      refine hR (.s (.bool b)) h G _ w' mu ?_ (Mu.le_refl _) rfl (hh.past hbel) hg
      rw [← hsu]
      cases b <;> simp [both]
  · rename_i v _
    obtain ⟨fv, r2, hf, hr2, rfl⟩ := om_cons.1 hv
    simp [om] at hr2; subst hr2
    exact suRise_ok ht V hsu mu w fv m R hh hg hf hR
  · cases hsu
/-- FactsStack, run over a box of deeds and operands' kinds. -/
def stackRun (l0 h0 l3 h3 l11 h11 : Int) : Bool :=
  ex (Tryd.CX suSt) 60000 (.call 3 [.agg inV]) (st0 ⟨(((bdOf kin).set 0 (l0, h0)).set 3 (l3, h3)).set 11 (l11, h11), []⟩) (endv isT)
end
end FC
end Go.Proofs
