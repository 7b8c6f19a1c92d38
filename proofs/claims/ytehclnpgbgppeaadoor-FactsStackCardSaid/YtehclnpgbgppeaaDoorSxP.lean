/- a part of the executor and of its soundness -/
import Derived.Test.YtehclnpgbgppeaaDoorSxO
namespace Sx
open Go Go.RowKit

theorem growBy_le (n : Nat) : ∀ (r c : Nat), Builtin.growBy n r c ≤ 2 ^ r * (c + 192)
  | 0, c => by simp [Builtin.growBy]
  | r + 1, c => by
    simp only [Builtin.growBy]
    have hp : 1 ≤ 2 ^ (r + 1) := Nat.one_le_two_pow
    split
    · calc c ≤ c + 192 := by omega
        _ = 1 * (c + 192) := by omega
        _ ≤ 2 ^ (r + 1) * (c + 192) := Nat.mul_le_mul_right _ hp
    · have ih := growBy_le n r (c + (c + 768) / 4)
      have h2 : c + (c + 768) / 4 + 192 ≤ 2 * (c + 192) := by omega
      calc _ ≤ 2 ^ r * (c + (c + 768) / 4 + 192) := ih
        _ ≤ 2 ^ r * (2 * (c + 192)) := Nat.mul_le_mul_left _ h2
        _ = 2 ^ (r + 1) * (c + 192) := by rw [Nat.pow_succ, Nat.mul_assoc]
theorem nextcap_le {need cap : Nat} (h : cap < need) (hn : need ≤ 1000000) : Builtin.nextslicecap need cap ≤ 17000000 := by
  unfold Builtin.nextslicecap
  split
  · omega
  · split
    · omega
    · have := growBy_le need 4 cap
      have : 2 ^ 4 * (cap + 192) = 16 * (cap + 192) := by rfl
      omega

section
variable {E : Env} {P : Program} {mu : Mu} {w : World} {C : Cx} {h : Hp} {G : Gam}

theorem run_append_grow {st xt : Nat} {e : TypeId} {te : TI} (hst : P.underlying st = some (.slice e)) {xe : TypeId} (hxt : P.underlying xt = some (.slice xe)) (hte : TyOK P e te) (hz0 : te.zero.length = te.sz) (hby : te.by_ ≤ 4096)
    {base : Option Addr} {sLen sCap n : Nat} {cx : Value} {old new : List Value} (hlx : (Builtin.lenOf cx).run P w = .ok n w) (hneed : sCap < sLen + n) (hn : sLen + n ≤ 1000000) (ty : TypeId)
    (hold : (Builtin.firstCells te.sz sLen (.slice base sLen sCap)).run P w.drew = .ok old.toArray w.drew)
    (hnew : (Builtin.firstCells te.sz n cx).run P w.drew = .ok new.toArray w.drew)
    (ho : old.length = sLen * te.sz) (hnl : new.length = n * te.sz) :
    ∃ (cap : Nat) (rest : List Value) (w' : World), (Builtin.append_ #[st, xt] ty #[.slice base sLen sCap, cx]).run P w = .ok (.slice (some ⟨w.heap.size, 0, none⟩) (sLen + n) cap) (w'.alloc (.cells (old ++ new ++ rest).toArray e)) ∧
      (old ++ new ++ rest).length = cap * te.sz ∧ w'.heap = w.heap ∧ w'.os = w.os ∧ w'.tape = w.tape ∧ w'.output = w.output := by
  obtain ⟨i, z, hi1, hi2, hi3, hi4, hi5, _⟩ := hte.info
  have hzl : z.cells.size = te.sz := by
    have := om_length (svsOf_ok (E := ⟨⟨fun _ => 0, fun _ => false⟩, fun _ => 0, default⟩) (mu := fun _ => none) hi5)
    rw [← Array.length_toList, this, hz0]
  generalize hcap : (Question.appendCap (sLen + n) sCap e).cut (w.tape w.drawn (.appendCap (sLen + n) sCap e)) = cap
  have hge : sLen + n ≤ cap := by rw [← hcap]; simp [Question.cut]
  refine ⟨cap, (Builtin.zeroCells z.cells (cap - (sLen + n))).toList, { w with drawn := w.drawn + 1 }, ?_, ?_, rfl, rfl, rfl, rfl⟩
  · have b1 : ¬ (sLen + n ≤ sCap) := by omega
    have b2 : ¬ (((sLen + n : Nat) : Int) > IntKind.i64.max) := by
      have : IntKind.i64.max = 9223372036854775807 := rfl
      rw [this]; omega
    have b3 : ¬ (Builtin.nextslicecap (sLen + n) sCap * i.bytes > 2 ^ 48) := by
      have := nextcap_le hneed hn
      have h2 : Builtin.nextslicecap (sLen + n) sCap * i.bytes ≤ 17000000 * 4096 := Nat.mul_le_mul this (by omega)
      omega
    have ask : ∀ (b : Nat) (w : World), (askRoom b).run P w = .ok () w := fun b w => by unfold askRoom; split <;> simp [mark, Sem.run]
    have sz := fun w => hte.sizeOf w
    have tin : ∀ w, (typeInfo e).run P w = .ok i w := fun w => run_typeInfo w hi1
    have hz : ∀ w, (zeroValue e).run P w = .ok z w := fun w => by simp [zeroValue, run_typeInfo w hi1, hi4]
    have b2' : ¬ (9223372036854775807 < (sLen : Int) + (n : Int)) := by omega
    have b3' : ¬ (2 ^ 48 < Builtin.nextslicecap (sLen + n) sCap * i.bytes) := b3
    simp [Builtin.append_, Sem.run_bind, run_underlying hst, run_underlying hxt, sz, hlx, b1, b2', b3', Question.forced, hcap, tin, ask, hold, hnew, hz, newRow]
    congr 2
    apply Array.ext'
    simp
  · simp [Builtin.zeroCells, hzl, ho, hnl]
    rw [← Nat.add_mul, ← Nat.add_mul]
    congr 1; omega

theorem run_append_fits {st xt : Nat} {e : TypeId} {te : TI} (hst : P.underlying st = some (.slice e)) {xe : TypeId} (hxt : P.underlying xt = some (.slice xe)) (hte : TyOK P e te)
    {b off sLen sCap n : Nat} {cx : Value} {new : List Value} (hlx : (Builtin.lenOf cx).run P w = .ok n w) (hfit : sLen + n ≤ sCap) (ty : TypeId)
    (hnew : (Builtin.firstCells te.sz n cx).run P w = .ok new.toArray w) {A : Array Value} {e' : TypeId} (hb : w.heap[b]? = some (.cells A e' (0, 0))) (hr : off + sLen * te.sz + new.length ≤ A.size) (hone : ∀ v ∈ new, v.oneCell' = true) :
    (Builtin.append_ #[st, xt] ty #[.slice (some ⟨b, off, none⟩) sLen sCap, cx]).run P w =
      .ok (.slice (some ⟨b, off, none⟩) (sLen + n) sCap) (w.setRow b (A.toList.take (off + sLen * te.sz) ++ new ++ A.toList.drop (off + sLen * te.sz + new.length)).toArray) := by
  have hs := run_storeCells_at (P := P) b (off + sLen * te.sz) e' new 0 A w hb (by omega) hone
  simp only [Nat.add_zero] at hs
  simp [Builtin.append_, Sem.run_bind, run_underlying hst, run_underlying hxt, hte.sizeOf, hlx, hfit, hnew, addr_add, hs]
theorem run_append_nil {st xt : Nat} {e : TypeId} {te : TI} (hst : P.underlying st = some (.slice e)) {xe : TypeId} (hxt : P.underlying xt = some (.slice xe)) (hte : TyOK P e te)
    {cx : Value} (hlx : (Builtin.lenOf cx).run P w = .ok 0 w) (ty : TypeId) (hnew : (Builtin.firstCells te.sz 0 cx).run P w = .ok #[] w) :
    (Builtin.append_ #[st, xt] ty #[.slice none 0 0, cx]).run P w = .ok (.slice none 0 0) w := by
  simp [Builtin.append_, Sem.run_bind, run_underlying hst, run_underlying hxt, hte.sizeOf, hlx, hnew]

theorem HRel.drew (hr : HRel E mu h w) : HRel E mu h w.drew := hr.of_heap rfl rfl rfl rfl

/-- What a growing append leaves. -/
theorem grown_ok (hr : HRel E mu h w) {w' : World} (h1 : w'.heap = w.heap) (h2 : w'.os = w.os) (h3 : w'.tape = w.tape) (h4 : w'.output = w.output) {sz cap e : Nat} {els : List (List SV)} {vs rest : List Value} (hsz : 0 < sz)
    (hlen : ∀ l ∈ els, l.length = sz) (hvs : csvs E mu els.flatten = some vs) (hcap : (vs ++ rest).length = cap * sz) :
    Mu.le mu (mu.add h.nx (w.heap.size, cap)) ∧ HRel E (mu.add h.nx (w.heap.size, cap)) (h.push (.row sz els e false)) (w'.alloc (.cells (vs ++ rest).toArray e)) := by
  have hle : Mu.le mu (mu.add h.nx (w.heap.size, cap)) := Mu.le_add (hr.dom h.nx (Nat.le_refl _)).1
  have hr' := hr.of_heap h1 h2 h3 h4
  refine ⟨hle, ?_⟩
  have := hr'.push (c := cap) (o := .row sz els e false) (ob := .cells (vs ++ rest).toArray e) (by
    rw [h1]
    refine ⟨rfl, rfl, hsz, hlen, vs, csvs_mono hle hvs, rest, by simp, (fun h => by cases h), fun _ => by simpa using hcap⟩)
  rwa [h1] at this

theorem doAppend_ok (hr : HRel E mu h w) (ho : OldOK C E) (hty : TysOK P C) {ts : Array TypeId} {args : List AV} {vs : List Value} (ha : cavs E mu args = some vs) (ty : TypeId) :
    VSound E P mu w (Builtin.append_ ts ty vs.toArray) (doAppend C h ts.toList args) := by
  unfold doAppend
  split
  · rename_i st xt s x hts
    obtain rfl : ts = #[st, xt] := by apply Array.ext'; simpa using hts
    obtain ⟨cs, r1, hs1, hr1, rfl⟩ := om_cons.1 ha
    obtain ⟨cx, r2, hx1, hr2, rfl⟩ := om_cons.1 hr1
    simp [om] at hr2; subst hr2
    split
    · rename_i si xi hsi hxi
      obtain ⟨d, hd1, hd2⟩ := (hty _ _ hsi).und
      obtain ⟨d', hd1', hd2'⟩ := (hty _ _ hxi).und
      split
      · rename_i e xe e1 e2
        rw [e1] at hd2; rw [e2] at hd2'
        cases d <;> simp [tdOf] at hd2
        cases d' <;> simp [tdOf] at hd2'
        obtain rfl := hd2; obtain rfl := hd2'
        rename_i e xe
        split
        · rename_i te hte
          have ht := hty _ _ hte
          split
          · rename_i new hnew
            cases hb : !(Nat.blt 0 te.sz && Nat.beq te.zero.length te.sz && Nat.ble te.by_ 4096) with
            | true => trivial
            | false =>
              simp only [cond_false]
              simp only [Bool.not_eq_false', Bool.and_eq_true] at hb
              have hsz : 0 < te.sz := by simpa using hb.1.1
              have hzl : te.zero.length = te.sz := Nat.eq_of_beq_eq_true hb.1.2
              have hby : te.by_ ≤ 4096 := Nat.le_of_ble_eq_true hb.2
              obtain ⟨nv, n1, n2, n3, n4⟩ := run_firstCells (P := P) hr ho hnew hx1
              obtain ⟨nv', n1', n2', n3', n4'⟩ := run_firstCells (P := P) hr.drew ho hnew hx1
              rw [n1] at n1'; cases n1'
              have hnl : ∀ l ∈ new, l.length = te.sz := (elsOf_ok hr ho hnew hx1).1
              split
              · simp only [cav, csv, Option.some.injEq] at hs1; subst hs1
                split
                · have : nv = [] := List.eq_nil_of_length_eq_zero (by simpa using n2)
                  subst this
                  exact VSound.of_val hr (run_append_nil hd1 hd1' ht n4 ty n3) rfl
                · rename_i hne
                  cases hb2 : Nat.ble new.length 1000000 with
                  | false => trivial
                  | true =>
                    simp only [cond_true]
                    have hle := Nat.le_of_ble_eq_true hb2
                    have hpos : 0 < new.length := List.length_pos_iff.2 hne
                    obtain ⟨cap, rest, w', g1, g2, g3, g4, g5, g6⟩ := run_append_grow (P := P) (w := w) hd1 hd1' ht hzl hby (base := none) (sLen := 0) (sCap := 0) n4 (by omega) (by omega) ty (old := []) (by simp [Builtin.firstCells]) n3' (by simp) (by simpa using n2)
                    simp only [List.nil_append, Nat.zero_add] at g1 g2
                    obtain ⟨q1, q2⟩ := grown_ok hr g3 g4 g5 g6 (e := e) hsz hnl n1 g2
                    exact ⟨_, _, _, g1, q1, by simp [cav, csv, Mu.add_same], q2⟩
              · rename_i i off len c
                split
                · rename_i sz els e' ex hobj
                  obtain ⟨b, c', ob, p1, p2, p3, p4⟩ := hr.obj i _ hobj rfl
                  cases ob <;> simp only [orel] at p4
                  rename_i A e2' fz
                  obtain ⟨rfl, rfl, hrow⟩ := p4
                  simp only [cav, csv, refB, p1, Option.map_some, Option.some.injEq] at hs1
                  subst hs1
                  cases hfit : Nat.ble (len + new.length) c with
                  | true =>
                    simp only [cond_true]
                    have hfit' := Nat.le_of_ble_eq_true hfit
                    cases hb2 : Nat.beq sz te.sz && Nat.beq (off % sz) 0 && Nat.ble (off / sz + len + new.length) els.length && cellsq new.flatten with
                    | false => trivial
                    | true =>
                      simp only [cond_true]
                      simp only [Bool.and_eq_true] at hb2
                      obtain rfl : sz = te.sz := Nat.eq_of_beq_eq_true hb2.1.1.1
                      have hm := Nat.eq_of_beq_eq_true hb2.1.1.2
                      have hle := Nat.le_of_ble_eq_true hb2.1.2
                      have hoff : off / te.sz * te.sz = off := by
                        have := Nat.div_add_mod off te.sz
                        rw [hm, Nat.mul_comm] at this; simpa using this
                      obtain ⟨r1', r2'⟩ := rowRel_splice (q := off / te.sz + len) hrow hnl hle n1
                      rw [Nat.add_mul, hoff] at r1' r2'
                      refine ⟨_, mu, _, run_append_fits hd1 hd1' ht n4 hfit' ty n3 p3 r2' (cellsq_ok n1 hb2.2), Mu.le_refl mu, by simp [cav, csv, refB, p1], hr.set hobj rfl p1 (o' := .row te.sz _ e2' ex) (ob' := .cells _ e2' (0, 0)) ⟨rfl, rfl, r1'⟩ (Upd.setRow p3)⟩
                  | false =>
                    simp only [cond_false]
                    have hfit' : c < len + new.length := by
                      have : ¬ (len + new.length ≤ c) := fun hh => by rw [Nat.ble_eq_true_of_le hh] at hfit; cases hfit
                      omega
                    split
                    · rename_i old hold
                      cases hb2 : Nat.ble (len + new.length) 1000000 && Nat.beq old.length len with
                      | false => trivial
                      | true =>
                        simp only [cond_true]
                        simp only [Bool.and_eq_true] at hb2
                        have hle := Nat.le_of_ble_eq_true hb2.1
                        have hol : old.length = len := Nat.eq_of_beq_eq_true hb2.2
                        have hs1 : cav E mu (.s (.slice (.o i) off len (.ex c))) = some (.slice (some ⟨b, off, none⟩) len c) := by simp [cav, csv, refB, p1]
                        obtain ⟨ov, o1, o2, o3, _⟩ := run_firstCells (P := P) hr.drew ho hold hs1
                        have hols := (elsOf_ok hr ho hold hs1).1
                        rw [hol] at o3
                        obtain ⟨cap, rest, w', g1, g2, g3, g4, g5, g6⟩ := run_append_grow (P := P) (w := w) hd1 hd1' ht hzl hby n4 hfit' hle ty o3 n3' (by rw [o2, hol]) n2
                        obtain ⟨q1, q2⟩ := grown_ok hr g3 g4 g5 g6 (e := e) hsz (els := old ++ new) (vs := ov ++ nv) (fun l hl => by
                          rcases List.mem_append.1 hl with hl | hl
                          · exact hols l hl
                          · exact hnl l hl) (by rw [List.flatten_append]; exact om_append.2 ⟨_, _, o1, n1, rfl⟩) g2
                        exact ⟨_, _, _, g1, q1, by simp [cav, csv, Mu.add_same], q2⟩
                    · trivial
                · trivial
              · rename_i i len
                split
                · rename_i sz els e' hobj
                  obtain ⟨b, c, ob, p1, p2, p3, p4⟩ := hr.obj i _ hobj rfl
                  cases ob <;> simp only [orel] at p4
                  rename_i A e2' fz
                  obtain ⟨rfl, rfl, hrow⟩ := p4
                  cases hb2 : Nat.beq sz te.sz && Nat.beq els.length len && Nat.beq e2' e && Nat.ble (len + new.length) 1000000 && cellsq new.flatten with
                  | false => trivial
                  | true =>
                    simp only [cond_true]
                    simp only [Bool.and_eq_true] at hb2
                    obtain rfl : sz = te.sz := Nat.eq_of_beq_eq_true hb2.1.1.1.1
                    obtain rfl : els.length = len := Nat.eq_of_beq_eq_true hb2.1.1.1.2
                    obtain rfl : e2' = e := Nat.eq_of_beq_eq_true hb2.1.1.2
                    have hle := Nat.le_of_ble_eq_true hb2.1.2
                    simp only [cav, csv, p1, Option.map_some, Option.some.injEq, Nat.sub_zero] at hs1
                    subst hs1
                    obtain ⟨_, hlen, us, hus, r, hA, _, hx2⟩ := hrow
                    have hAs := hx2 rfl
                    have hul : us.length = els.length * te.sz := by rw [om_length hus, flat_length hlen]
                    have hAl : A.size = us.length + r.length := by rw [← Array.length_toList, hA]; simp
                    have hin : i < h.nx := by
                      rcases Nat.lt_or_ge i h.nx with hx | hx
                      · exact hx
                      · have := (hr.dom i hx).2; rw [this] at hobj; cases hobj
                    have hk := hr.kill i hin
                    have hlens : ∀ l ∈ els ++ new, l.length = te.sz := fun l hl => by
                      rcases List.mem_append.1 hl with hl | hl
                      · exact hlen l hl
                      · exact hnl l hl
                    have hvs : csvs E mu (els ++ new).flatten = some (us ++ nv) := by rw [List.flatten_append]; exact om_append.2 ⟨_, _, hus, n1, rfl⟩
                    by_cases hfit : els.length + new.length ≤ c
                    · have hr2 : 0 + els.length * te.sz + nv.length ≤ A.size := by
                        rw [hAs, n2, Nat.zero_add, ← Nat.add_mul]; exact Nat.mul_le_mul_right _ hfit
                      have hrun := run_append_fits (P := P) hd1 hd1' ht n4 hfit ty n3 p3 hr2 (cellsq_ok n1 hb2.2)
                      have hle2 : Mu.le mu (mu.add h.nx (b, c)) := Mu.le_add (hr.dom h.nx (Nat.le_refl _)).1
                      refine ⟨_, mu.add h.nx (b, c), _, hrun, hle2, by simp [cav, csv, Mu.add_same], ?_⟩
                      refine HRel.adopt (h := { h with m := h.m.set i .dead }) hk (ob' := .cells _ e2' (0, 0)) ?_ p2 ⟨rfl, rfl, hsz, hlens, us ++ nv, csvs_mono hle2 hvs, r.drop nv.length, ?_, (fun h => by cases h), fun _ => ?_⟩ (Upd.setRow p3)
                      · intro j oj c' hj hlj hmj
                        have hji : j ≠ i := fun e => by subst e; simp only [T.get_set_same, Option.some.injEq] at hj; subst hj; cases hlj
                        simp only [T.get_set_ne hji] at hj
                        exact hji (hr.inj j i oj _ b c' c hj hobj hlj rfl hmj p1)
                      · simp only [hA, Nat.zero_add]
                        rw [← hul]
                        simp [List.take_append, List.drop_append]
                      · simp; omega
                    · have hs1 : cav E mu (.s (.slice (.o i) 0 els.length (.up 0))) = some (.slice (some ⟨b, 0, none⟩) els.length c) := by simp [cav, csv, p1]
                      have hel : elsOf C h te.sz (.s (.slice (.o i) 0 els.length (.up 0))) = some els := by
                        have e0 : (Nat.beq te.sz te.sz && Nat.beq (0 % te.sz) 0) = true := by simp
                        have e1' : Nat.ble (0 / te.sz + els.length) els.length = true := by simp
                        simp only [elsOf, objAt, hobj, hb.1.1, e0, e1', cond_true]
                        simp
                      obtain ⟨ov, o1, o2, o3, _⟩ := run_firstCells (P := P) hr.drew ho hel hs1
                      rw [hus] at o1; cases o1
                      obtain ⟨cap, rest, w', g1, g2, g3, g4, g5, g6⟩ := run_append_grow (P := P) (w := w) hd1 hd1' ht hzl hby n4 (by omega) hle ty o3 n3' o2 n2
                      obtain ⟨q1, q2⟩ := grown_ok hk g3 g4 g5 g6 (e := e2') hsz hlens hvs g2
                      exact ⟨_, _, _, g1, q1, by simp [cav, csv, Mu.add_same], q2⟩
                · trivial
              · trivial
          · trivial
        · trivial
      · trivial
    · trivial
  · trivial
end
end Sx
