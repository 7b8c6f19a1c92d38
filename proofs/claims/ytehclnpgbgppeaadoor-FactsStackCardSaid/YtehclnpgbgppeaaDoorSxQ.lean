/- a part of the executor and of its soundness -/
import Derived.Test.YtehclnpgbgppeaaDoorSxP
namespace Sx
open Go Go.RowKit

section
variable {E : Env} {P : Program} {mu : Mu} {w : World} {C : Cx} {h : Hp} {G : Gam}

theorem doLen_ok (hr : HRel E mu h w) (hs : Sat E.V G) (hty : TysOK P C) {ts : Array TypeId} {args : List AV} {vs : List Value} (ha : cavs E mu args = some vs) (ty : TypeId) :
    RSound E P mu h w (Builtin.len_ ts ty vs.toArray) (doLen C G h ts.toList args) := by
  unfold doLen
  split
  · rename_i t x hts
    obtain rfl : ts = #[t] := by apply Array.ext'; simpa using hts
    obtain ⟨cx, r2, hx, hr2, rfl⟩ := om_cons.1 ha
    simp [om] at hr2; subst hr2
    split
    · rename_i ti hti
      obtain ⟨d, hd1, hd2⟩ := (hty _ _ hti).und
      split
      · rename_i e i l hfs
        rw [hfs] at hd2
        cases d <;> simp [tdOf] at hd2
        simp only [cav, csv, Option.map_eq_some_iff] at hx
        obtain ⟨p, hp, rfl⟩ := hx
        split
        · rename_i r hq
          refine RSound.of_val hr (cv := goInt (sd (l.map (·.ev E.V.i))).length) ?_ ?_
          · simp [Builtin.len_, Sem.run_bind, run_underlying hd1]
          · have : r.length = (sd (l.map (·.ev E.V.i))).length := by rw [← sortq_ok hs hq]; simp
            simp [cav, csv, IT.ev, goInt, this]
        · rename_i e he; exact (sortq_ask he).r _
      · rename_i e hfs
        rw [hfs] at hd2
        cases d <;> simp [tdOf] at hd2
        simp only [cav, csv, Option.some.injEq] at hx; subst hx
        exact RSound.of_val hr (cv := goInt 0) (by simp [Builtin.len_, Sem.run_bind, run_underlying hd1]) rfl
      · rename_i e r off len cp hfs
        rw [hfs] at hd2
        cases d <;> simp [tdOf] at hd2
        have hv : ∃ a c, cx = .slice a len c := by
          cases cp with
          | ex c =>
            simp only [cav, csv, Option.map_eq_some_iff] at hx
            obtain ⟨b, _, rfl⟩ := hx; exact ⟨_, _, rfl⟩
          | up k =>
            cases r with
            | g i => simp only [cav, csv, Option.some.injEq] at hx; exact ⟨_, _, hx.symm⟩
            | o i =>
              simp only [cav, csv, Option.map_eq_some_iff] at hx
              obtain ⟨b, _, rfl⟩ := hx; exact ⟨_, _, rfl⟩
        obtain ⟨a, c, rfl⟩ := hv
        exact RSound.of_val hr (cv := goInt len) (by simp [Builtin.len_, Sem.run_bind, run_underlying hd1]) rfl
      · rename_i n e hfs
        rw [hfs] at hd2
        cases d <;> simp [tdOf] at hd2
        obtain ⟨rfl, rfl⟩ := hd2
        refine RSound.of_val hr (cv := goInt _) (?_ : _ = Result.ok (goInt _) w) rfl
        simp [Builtin.len_, Sem.run_bind, run_underlying hd1]; rfl
      · rename_i k e hfs
        rw [hfs] at hd2
        cases d <;> simp [tdOf] at hd2
        simp only [cav, csv, Option.some.injEq] at hx; subst hx
        exact RSound.of_val hr (cv := goInt 0) (by simp [Builtin.len_, Sem.run_bind, run_underlying hd1]) rfl
      · rename_i k e i hfs
        rw [hfs] at hd2
        cases d <;> simp [tdOf] at hd2
        split
        · rename_i es c hobj
          obtain ⟨b, cc, ob, e1, _, e3, e4⟩ := hr.obj i _ hobj rfl
          cases ob <;> simp only [orel] at e4
          rename_i ents clock
          obtain ⟨rfl, e4⟩ := e4
          simp only [cav, csv, e1, Option.map_some, Option.some.injEq] at hx; subst hx
          have hlen : ∀ {es : List (SV × AP × Nat)} {l : List MapEntry}, erel E mu es l → es.length = l.length := by
            intro es
            induction es with
            | nil => intro l hl; cases l <;> first | rfl | exact hl.elim
            | cons p es ih =>
              intro l hl
              obtain ⟨k, v, b⟩ := p
              cases l with
              | nil => exact hl.elim
              | cons e l => simp [ih hl.2.2.2]
          refine RSound.of_val hr (cv := goInt ents.size) (by simp [Builtin.len_, Sem.run_bind, run_underlying hd1, run_getObj_map e3]) ?_
          simp [cav, csv, IT.ev, goInt, hlen e4]
        · trivial
      · trivial
    · trivial
  · trivial

theorem pickq_ask {V : Val} {mx : Bool} {k : IntKind} (l : List AV) : ∀ {a : IT} {e : R}, pickq G mx k a l = .error e → Asking V e := by
  induction l with
  | nil => intro a e he; simp [pickq] at he
  | cons v l ih =>
    intro a e he
    unfold pickq at he
    split at he
    · rename_i heq; simp at heq
    · rename_i k' b l' heq
      simp only [List.cons.injEq] at heq
      obtain ⟨_, rfl⟩ := heq
      cases hk : keq k k'
      · simp only [hk, cond_false] at he; cases he; trivial
      · simp only [hk, cond_true] at he
        split at he
        · exact ih he
        · exact ih he
        · cases he; trivial
    · cases he; trivial
theorem pickq_ok (hs : Sat E.V G) {mx : Bool} {k : IntKind} (l : List AV) : ∀ {a t : IT} {vs : List Value}, pickq G mx k a l = .ok t → cavs E mu l = some vs →
    ∀ w, (vs.foldlM (if mx then Builtin.max2 else Builtin.min2) (.int k (a.ev E.V.i))).run P w = .ok (.int k (t.ev E.V.i)) w := by
  induction l with
  | nil => intro a t vs hp hv w; simp [pickq] at hp; subst hp; simp [om] at hv; subst hv; simp
  | cons v l ih =>
    intro a t vs hp hv w
    obtain ⟨cv, us, h1, h2, rfl⟩ := om_cons.1 hv
    unfold pickq at hp
    split at hp
    · rename_i heq; simp at heq
    · rename_i a _ _ k' b l' heq
      simp only [List.cons.injEq] at heq
      obtain ⟨rfl, rfl⟩ := heq
      simp only [cav, csv, Option.some.injEq] at h1; subst h1
      cases hk : keq k k'
      · simp only [hk, cond_false] at hp; cases hp
      · obtain rfl := kn_inj hk
        simp only [hk, cond_true] at hp
        cases mx with
        | true =>
          simp only [cond_true] at hp
          split at hp
          · rename_i hq
            have he : a.ev E.V.i < b.ev E.V.i := of_decide_eq_true (ltq_ok hs hq).symm
            have ih' := ih hp h2 w
            simp only [if_true] at ih' ⊢
            simp [List.foldlM_cons, Sem.run_bind, Builtin.max2, he]
            exact ih'
          · rename_i hq
            have he : ¬ a.ev E.V.i < b.ev E.V.i := of_decide_eq_false (ltq_ok hs hq).symm
            have ih' := ih hp h2 w
            simp only [if_true] at ih' ⊢
            simp [List.foldlM_cons, Sem.run_bind, Builtin.max2, he]
            exact ih'
          · cases hp
        | false =>
          simp only [cond_false] at hp
          split at hp
          · rename_i hq
            have he : b.ev E.V.i < a.ev E.V.i := of_decide_eq_true (ltq_ok hs hq).symm
            have ih' := ih hp h2 w
            simp only [Bool.false_eq_true, if_false] at ih' ⊢
            simp [List.foldlM_cons, Sem.run_bind, Builtin.min2, he]
            exact ih'
          · rename_i hq
            have he : ¬ b.ev E.V.i < a.ev E.V.i := of_decide_eq_false (ltq_ok hs hq).symm
            have ih' := ih hp h2 w
            simp only [Bool.false_eq_true, if_false] at ih' ⊢
            simp [List.foldlM_cons, Sem.run_bind, Builtin.min2, he]
            exact ih'
          · cases hp
    · cases hp

theorem doPick_ok (hs : Sat E.V G) {mx : Bool} {ts : Array TypeId} {args : List AV} {vs : List Value} (ha : cavs E mu args = some vs) (ty : TypeId) :
    PSound E P mu h (if mx then Builtin.max_ ts ty vs.toArray else Builtin.min_ ts ty vs.toArray) (doPick G h mx args) := by
  unfold doPick
  generalize hM : (if mx then Builtin.max_ ts ty vs.toArray else Builtin.min_ ts ty vs.toArray) = M
  split
  · obtain ⟨cx, us, hx, h2, rfl⟩ := om_cons.1 ha
    simp only [cav, csv, Option.some.injEq] at hx; subst hx
    split
    · rename_i t ht
      refine PSound.mk rfl fun w => ?_
      have := pickq_ok (P := P) hs _ ht h2 w
      subst hM
      cases mx <;> simpa [Builtin.max_, Builtin.min_] using this
    · rename_i e he; exact (pickq_ask _ he).p _
  · trivial

theorem zeroCells_ok {te : TI} {z : Value} (hz1 : svsOf z.cells.toList = some te.zero) (hzl : te.zero.length = te.sz) (n : Nat) :
    csvs E mu (List.replicate n te.zero).flatten = some (Builtin.zeroCells z.cells n).toList := by
  have hzc := svsOf_ok (E := E) (mu := mu) hz1
  unfold Builtin.zeroCells
  rw [rangeA_flat]
  have : ∀ m, csvs E mu (List.replicate m te.zero).flatten = some (List.replicate m z.cells.toList).flatten := by
    intro m
    induction m with
    | zero => rfl
    | succ m ih => simp only [List.replicate_succ, List.flatten_cons]; exact om_append.2 ⟨_, _, hzc, ih, rfl⟩
  exact this n

theorem doClear_ok (hr : HRel E mu h w) (hty : TysOK P C) {ts : Array TypeId} {args : List AV} {vs : List Value} (ha : cavs E mu args = some vs) (ty : TypeId) :
    VSound E P mu w (Builtin.clear_ ts ty vs.toArray) (doClear C h ts.toList args) := by
  unfold doClear
  split
  · rename_i t x hts
    obtain rfl : ts = #[t] := by apply Array.ext'; simpa using hts
    obtain ⟨cx, r2, hx, hr2, rfl⟩ := om_cons.1 ha
    simp [om] at hr2; subst hr2
    split
    · rename_i ti hti
      obtain ⟨d, hd1, hd2⟩ := (hty _ _ hti).und
      split
      · rename_i e hfs
        simp only [cav, csv, Option.some.injEq] at hx; subst hx
        exact VSound.of_val hr (cv := .tuple #[]) (by simp [Builtin.clear_, Sem.run_bind, run_underlying hd1]) rfl
      · rename_i e r off len cp hfs
        rw [hfs] at hd2
        cases d <;> simp [tdOf] at hd2
        obtain rfl := hd2
        rename_i e
        cases hl0 : Nat.beq len 0 with
        | true =>
          obtain rfl := Nat.eq_of_beq_eq_true hl0
          obtain ⟨a, n, c, rfl⟩ := slice_val hx
          have hn : n = 0 := by
            cases cp with
            | ex c =>
              simp only [cav, csv, Option.map_eq_some_iff] at hx
              obtain ⟨b, _, hx⟩ := hx; cases hx; rfl
            | up k =>
              cases r with
              | g i => simp only [cav, csv, Option.some.injEq] at hx; cases hx; rfl
              | o i =>
                simp only [cav, csv, Option.map_eq_some_iff] at hx
                obtain ⟨b, _, hx⟩ := hx; cases hx; rfl
          subst hn
          exact VSound.of_val hr (cv := .tuple #[]) (by simp [Builtin.clear_, Sem.run_bind, run_underlying hd1]) rfl
        | false =>
          simp only [cond_false]
          have hl := Nat.ne_of_beq_eq_false hl0
          split
          · rename_i i te hte
            split
            · rename_i sz els e' ex hobj
              cases hb : Nat.beq sz te.sz && Nat.beq te.zero.length te.sz && Nat.blt 0 te.sz && Nat.beq (off % sz) 0 && Nat.ble (off / sz + len) els.length && cellsq te.zero with
              | false => trivial
              | true =>
                simp only [cond_true]
                simp only [Bool.and_eq_true] at hb
                obtain rfl : sz = te.sz := Nat.eq_of_beq_eq_true hb.1.1.1.1.1
                have hzl : te.zero.length = te.sz := Nat.eq_of_beq_eq_true hb.1.1.1.1.2
                have hsz : 0 < te.sz := by simpa using hb.1.1.1.2
                have hm := Nat.eq_of_beq_eq_true hb.1.1.2
                have hle := Nat.le_of_ble_eq_true hb.1.2
                obtain ⟨b, c, ob, p1, p2, p3, p4⟩ := hr.obj i _ hobj rfl
                cases ob <;> simp only [orel] at p4
                rename_i A e2' fz
                obtain ⟨rfl, rfl, hrow⟩ := p4
                obtain ⟨z, hz, hz1, _⟩ := (hty _ _ hte).zero w
                have hval : ∃ cap, cx = .slice (some ⟨b, off, none⟩) len cap := by
                  cases cp with
                  | ex c =>
                    simp only [cav, csv, refB, p1, Option.map_some, Option.some.injEq] at hx
                    exact ⟨_, hx.symm⟩
                  | up k =>
                    simp only [cav, csv, p1, Option.map_some, Option.some.injEq] at hx
                    exact ⟨_, hx.symm⟩
                obtain ⟨cap, rfl⟩ := hval
                have hoff : off / te.sz * te.sz = off := by
                  have := Nat.div_add_mod off te.sz
                  rw [hm, Nat.mul_comm] at this; simpa using this
                have hzs := zeroCells_ok (E := E) (mu := mu) hz1 hzl len
                have hrl : ∀ l ∈ List.replicate len te.zero, l.length = te.sz := fun l hl => by rw [List.eq_of_mem_replicate hl]; exact hzl
                obtain ⟨r1, r2⟩ := rowRel_splice (q := off / te.sz) hrow hrl (by simpa using hle) hzs
                rw [hoff] at r1 r2
                have hone : ∀ v ∈ (Builtin.zeroCells z.cells len).toList, v.oneCell' = true := by
                  refine cellsq_ok hzs ?_
                  have : ∀ {a b : List SV}, cellsq a = true → cellsq b = true → cellsq (a ++ b) = true := by
                    intro a
                    induction a with
                    | nil => intro b _ hb; exact hb
                    | cons x a ih =>
                      intro b ha hb
                      simp only [cellsq, Bool.and_eq_true, List.cons_append] at ha ⊢
                      exact ⟨ha.1, ih ha.2 hb⟩
                  have rep : ∀ m, cellsq (List.replicate m te.zero).flatten = true := by
                    intro m
                    induction m with
                    | zero => rfl
                    | succ m ih => simp only [List.replicate_succ, List.flatten_cons]; exact this hb.2 ih
                  exact rep len
                have hst := run_storeCells_at (P := P) b off e2' (Builtin.zeroCells z.cells len).toList 0 A w p3 (by omega) hone
                simp only [Nat.add_zero] at hst
                refine ⟨.tuple #[], mu, _, ?_, Mu.le_refl mu, rfl, hr.set hobj rfl p1 (o' := .row te.sz _ e2' ex) (ob' := .cells _ e2' (0, 0)) ⟨rfl, rfl, r1⟩ (Upd.setRow p3)⟩
                obtain ⟨len, rfl⟩ : ∃ m, len = m + 1 := ⟨len - 1, by omega⟩
                simp only [Builtin.clear_, Sem.run_bind, List.getElem?_toArray, List.getElem?_cons_zero, Result.andThen_ok, run_underlying hd1, hz, hst, Sem.run_pure]
            · trivial
          · trivial
      · trivial
    · trivial
  · trivial

theorem doMakeSlice_ok (hr : HRel E mu h w) (hs : Sat E.V G) (hty : TysOK P C) {t : Nat} {l c : AV} {vl vc : Value} (hl : cav E mu l = some vl) (hc : cav E mu c = some vc) :
    VSound E P mu w (Instr.makeSlice t vl vc) (doMakeSlice C G h t l c) := by
  unfold doMakeSlice
  split
  · rename_i ti hti
    obtain ⟨d, hd1, hd2⟩ := (hty _ _ hti).und
    split
    · rename_i e hfs
      rw [hfs] at hd2
      cases d <;> simp [tdOf] at hd2
      obtain rfl := hd2
      rename_i e
      split
      · rename_i te n m hte hn hm
        cases hb : ile 0 n && ile n m && ile m 1000000 && Nat.ble te.by_ 4096 && Nat.beq te.zero.length te.sz && Nat.blt 0 te.sz with
        | false => trivial
        | true =>
          simp only [cond_true]
          simp only [Bool.and_eq_true] at hb
          have b1 := (ile_iff _ _).1 hb.1.1.1.1.1
          have b2 := (ile_iff _ _).1 hb.1.1.1.1.2
          have b3 := (ile_iff _ _).1 hb.1.1.1.2
          have b4 := Nat.le_of_ble_eq_true hb.1.1.2
          have b5 : te.zero.length = te.sz := Nat.eq_of_beq_eq_true hb.1.2
          have b6 : 0 < te.sz := by simpa using hb.2
          obtain ⟨k1, t1, rfl, e1⟩ := numq_ok hs hn
          obtain ⟨k2, t2, rfl, e2⟩ := numq_ok hs hm
          simp only [cav, csv, Option.some.injEq] at hl hc; subst hl; subst hc
          obtain ⟨i, z, hi1, hi2, hi3, hi4, hi5, _⟩ := (hty _ _ hte).info
          have hzl : z.cells.size = te.sz := by
            have := om_length (svsOf_ok (E := E) (mu := mu) hi5)
            rw [← Array.length_toList, this, b5]
          have hle : Mu.le mu (mu.add h.nx (w.heap.size, 0)) := Mu.le_add (hr.dom h.nx (Nat.le_refl _)).1
          have hzs := zeroCells_ok (E := E) (mu := mu) hi5 b5 m.toNat
          refine ⟨.slice (some ⟨w.heap.size, 0, none⟩) n.toNat m.toNat, _, w.alloc (.cells (Builtin.zeroCells z.cells m.toNat) e), ?_, hle, by simp [cav, csv, refB, Mu.add_same],
            hr.push ⟨rfl, rfl, b6, (fun l hl => by rw [List.eq_of_mem_replicate hl]; exact b5), _, csvs_mono hle hzs, [], by simp, fun _ => rfl, (fun h => by cases h)⟩⟩
          have w1 : IntKind.i64.wrap n = n := wrap_fits (by simp [kmin]; omega) (by simp [kmax]; omega)
          have w2 : IntKind.i64.wrap m = m := wrap_fits (by simp [kmin]; omega) (by simp [kmax]; omega)
          have ask : ∀ (b : Nat) (w : World), (askRoom b).run P w = .ok () w := fun b w => by unfold askRoom; split <;> simp [mark, Sem.run]
          have c1 : ¬ (m < 0) := by omega
          have c2 : ¬ ((i.bytes : Int) * m > 2 ^ 48) := by
            have h1 : (i.bytes : Int) ≤ 4096 := by omega
            have h2 : (i.bytes : Int) * m ≤ 4096 * 1000000 := by
              calc (i.bytes : Int) * m ≤ 4096 * m := Int.mul_le_mul_of_nonneg_right h1 (by omega)
                _ ≤ 4096 * 1000000 := Int.mul_le_mul_of_nonneg_left b3 (by omega)
            omega
          have c3 : ¬ (n < 0) := by omega
          have c4 : ¬ (n > m) := by omega
          obtain ⟨len, rfl⟩ : ∃ k : Nat, n = k := ⟨n.toNat, by omega⟩
          obtain ⟨cap, rfl⟩ : ∃ k : Nat, m = k := ⟨m.toNat, by omega⟩
          have c5 : decide ((i.bytes : Int) * cap > 2 ^ 48) = false := by simpa using c2
          have hti : (typeInfo e).run P w = .ok i w := by simp [typeInfo, hi1, Sem.run_bind, Sem.run]
          have hsz : (Go.sizeOf e).run P w = .ok te.sz w := by simp [Go.sizeOf, hti, hi2, Sem.run_bind]
          have hzv : (zeroValue e).run P w = .ok z w := by simp [zeroValue, hti, hi4, Sem.run_bind]
          unfold Instr.makeSlice
          simp only [Sem.run_bind, run_underlying hd1, Result.andThen_ok, e1, e2, show ∀ k (n : Int), (asInt (.int k n)).run P w = .ok n w from fun _ _ => rfl, w1, w2, hti, c5]
          simp only [c1, c3, c4, decide_false, Bool.or_false, Bool.false_eq_true, if_false, Sem.run_bind, ask, hsz, Result.andThen_ok]
          have hfin : (Array.range (cap * te.sz)).map (fun x => z.cells[x % te.sz]!) = Builtin.zeroCells z.cells cap := by
            unfold Builtin.zeroCells; rw [hzl]
          split
          · rename_i h0
            obtain rfl : cap = 0 := by
              rcases Nat.mul_eq_zero.1 h0 with h | h
              · simpa using h
              · omega
            have r0 : Array.range 0 = #[] := rfl
            simp [newRow, Sem.run_bind, Builtin.zeroCells, r0]
          · simp [newRow, Sem.run_bind, hzv, hzl, hfin]
      · exact (numq_ask hs (by assumption)).v _
      · exact (numq_ask hs (by assumption)).v _
      · trivial
    · trivial
  · trivial
end
end Sx
