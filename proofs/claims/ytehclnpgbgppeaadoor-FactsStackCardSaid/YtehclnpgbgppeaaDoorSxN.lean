/- a part of the executor and of its soundness -/
import Derived.Test.YtehclnpgbgppeaaDoorSxM
namespace Sx
open Go Go.RowKit

section
variable {E : Env} {P : Program} {mu : Mu} {w : World} {C : Cx} {h : Hp} {G : Gam}

/-! ### Maps -/
theorem findK_ask {V : Val} {k : SV} : ∀ {es : List (SV × AP × Nat)} {i : Nat} {e : R}, findK G k es i = .error e → Asking V e
  | [], i, e, he => by simp [findK] at he
  | (k', v, b) :: es, i, e, he => by
    simp only [findK] at he
    split at he
    · rename_i q a q' b'
      cases hk : keq q q'
      · simp only [hk, cond_false] at he; cases he; trivial
      · simp only [hk, cond_true] at he
        split at he
        · cases he
        · exact findK_ask he
        · cases he; exact askEq_ask _ _
    · cases he; trivial

/-- What a key's place says. -/
theorem findK_ok (hs : Sat E.V G) {q : IntKind} {a : IT} : ∀ {es : List (SV × AP × Nat)} {l : List MapEntry} {i : Nat} {r : Option (Nat × AP)}, findK G (.int q a) es i = .ok r → erel E mu es l →
    (r = none ∧ Instr.findNow (.int q) (.int q (a.ev E.V.i)) l i = some none ∨ r = none ∧ ∀ kd, Instr.findNow (.int kd) (.int q (a.ev E.V.i)) l i = some none) ∨
    ∃ j v e, r = some (i + j, v) ∧ l[j]? = some e ∧ cap_ E mu v = some e.val ∧ e.key = .int q (a.ev E.V.i) ∧ ∀ kd, Instr.findNow (.int kd) (.int q (a.ev E.V.i)) l i = some (some (i + j, e.val))
  | [], [], i, r, hf, _ => by simp [findK] at hf; subst hf; exact .inl (.inr ⟨rfl, fun kd => rfl⟩)
  | (k', v, b) :: es, e :: l, i, r, hf, ⟨h1, h2, h3, h4⟩ => by
    simp only [findK] at hf
    split at hf
    · rename_i q1 a1 q' b' hk1
      cases hk1
      simp only [csv, Option.some.injEq] at h1
      cases hk : keq q q'
      · simp only [hk, cond_false] at hf; cases hf
      · obtain rfl := kn_inj hk
        simp only [hk, cond_true] at hf
        split at hf
        · rename_i hq
          have he : a.ev E.V.i = b'.ev E.V.i := of_decide_eq_true (eqq_ok hs hq).symm
          cases hf
          refine .inr ⟨0, v, e, rfl, rfl, h2, by rw [← h1, he], fun kd => ?_⟩
          simp [Instr.findNow, Instr.sameNow, ← h1, he]
        · rename_i hq
          have he : ¬ a.ev E.V.i = b'.ev E.V.i := of_decide_eq_false (eqq_ok hs hq).symm
          have ih := findK_ok hs hf h4
          have hb : (a.ev E.V.i == b'.ev E.V.i) = false := by simpa using he
          have step : ∀ kd, Instr.findNow (.int kd) (.int q (a.ev E.V.i)) (e :: l) i = Instr.findNow (.int kd) (.int q (a.ev E.V.i)) l (i + 1) := fun kd => by
            simp [Instr.findNow, Instr.sameNow, ← h1, hb]
          rcases ih with (⟨hr, hn⟩ | ⟨hr, hn⟩) | ⟨j, v', e', g1, g2, g3, g4, g5⟩
          · exact .inl (.inl ⟨hr, by rw [step]; exact hn⟩)
          · exact .inl (.inr ⟨hr, fun kd => by rw [step]; exact hn kd⟩)
          · have e1 : i + 1 + j = i + (j + 1) := by omega
            rw [e1] at g1
            refine .inr ⟨j + 1, v', e', g1, by simpa using g2, g3, g4, fun kd => ?_⟩
            rw [step, g5 kd, e1]
        · cases hf
    · cases hf
  | [], _ :: _, _, _, _, he => he.elim
  | (_, _, _) :: _, [], _, _, _, he => he.elim

theorem isIntT_ok (hty : TysOK P C) {t : Nat} (hi : isIntT C t = true) : ∃ k, P.underlying t = some (.int k) := by
  unfold isIntT at hi
  split at hi
  · rename_i ti hti
    obtain ⟨d, hd1, hd2⟩ := (hty _ _ hti).und
    split at hi
    · rename_i k hk
      rw [hk] at hd2
      cases d <;> simp [tdOf] at hd2
      exact ⟨_, hd1⟩
    · cases hi
  · cases hi

theorem checkKey_int {kt : TypeId} {k : IntKind} (hu : P.underlying kt = some (.int k)) (e : Bool) (d : Nat) (q : IntKind) (n : Int) : (Instr.checkKey e (d + 1) kt (.int q n)).run P w = .ok () w := by
  simp [Instr.checkKey, Sem.run_bind, run_underlying hu]

theorem findKey_ok (hs : Sat E.V G) {kt : TypeId} {k : IntKind} (hu : P.underlying kt = some (.int k)) {q : IntKind} {a : IT} {es : List (SV × AP × Nat)} {l : List MapEntry} {r : Option (Nat × AP)}
    (hf : findK G (.int q a) es 0 = .ok r) (he : erel E mu es l) :
    (r = none ∧ ∀ w, (Instr.findKey kt (.int q (a.ev E.V.i)) l).run P w = .ok none w) ∨
    ∃ j v e, r = some (j, v) ∧ l[j]? = some e ∧ cap_ E mu v = some e.val ∧ e.key = .int q (a.ev E.V.i) ∧ ∀ w, (Instr.findKey kt (.int q (a.ev E.V.i)) l).run P w = .ok (some (j, e.val)) w := by
  have anyK : ∀ (k1 k2 : IntKind) (v : Value) (l : List MapEntry) (i : Nat), Instr.findNow (.int k1) v l i = Instr.findNow (.int k2) v l i := by
    intro k1 k2 v l
    induction l with
    | nil => intro i; rfl
    | cons e l ih =>
      intro i
      simp only [Instr.findNow, ih]
      cases v <;> cases e.key <;> rfl
  rcases findK_ok hs hf he with (⟨hr, hn⟩ | ⟨hr, hn⟩) | ⟨j, v, e, g1, g2, g3, g4, g5⟩
  · refine .inl ⟨hr, fun w => ?_⟩
    simp [Instr.findKey, Sem.run_bind, run_underlying hu, anyK k q, hn]
  · refine .inl ⟨hr, fun w => ?_⟩
    simp [Instr.findKey, Sem.run_bind, run_underlying hu, hn]
  · refine .inr ⟨j, v, e, by simpa using g1, g2, g3, g4, fun w => ?_⟩
    simp [Instr.findKey, Sem.run_bind, run_underlying hu, g5]

theorem mapOf_ok (hr : HRel E mu h w) {x : AV} {vx : Value} (hx : cav E mu x = some vx) {es : List (SV × AP × Nat)} {c : Nat} (hm : mapOf h x = some (es, c)) :
    (vx = .map none ∧ es = []) ∨ ∃ b ents, vx = .map (some b) ∧ w.heap[b]? = some (.map ents c) ∧ erel E mu es ents.toList := by
  unfold mapOf at hm
  split at hm
  · rename_i i
    split at hm
    · rename_i es' c' hobj
      cases hm
      obtain ⟨b, cc, ob, e1, _, e3, e4⟩ := hr.obj i _ hobj rfl
      cases ob <;> simp only [orel] at e4
      obtain ⟨rfl, e4⟩ := e4
      simp only [cav, csv, e1, Option.map_some, Option.some.injEq] at hx
      subst hx
      exact .inr ⟨b, _, rfl, e3, e4⟩
    · cases hm
  · cases hm
    simp only [cav, csv, Option.some.injEq] at hx
    exact .inl ⟨hx.symm, rfl⟩
  · cases hm

theorem run_getObj_map {b c : Nat} {ents : Array MapEntry} (hb : w.heap[b]? = some (.map ents c)) : (getObj b).run P w = .ok (.map ents c) w := by simp [getObj, Sem.run, hb]

theorem doLookup_ok (hr : HRel E mu h w) (hs : Sat E.V G) (hty : TysOK P C) {t : Nat} {x k : AV} {vx vk : Value} (hx : cav E mu x = some vx) (hk : cav E mu k = some vk) (ok : Bool) :
    RSound E P mu h w (Instr.lookup t vx vk ok) (doLookup C G h t x k ok) := by
  unfold doLookup
  split
  · rename_i ti es c q a hti hm
    obtain ⟨d, hd1, hd2⟩ := (hty _ _ hti).und
    split
    · rename_i kt e hfs
      rw [hfs] at hd2
      cases d <;> simp [tdOf] at hd2
      obtain ⟨rfl, rfl⟩ := hd2
      rename_i kt e
      cases hi : isIntT C kt with
      | false => trivial
      | true =>
        simp only [cond_true]
        obtain ⟨kd, hu⟩ := isIntT_ok hty hi
        simp only [cav, csv, Option.some.injEq] at hk; subst hk
        -- the run, once the entries and the key's place are known
        have runs : ∀ {ents : Array MapEntry} {fk : Option (Nat × Value)}, (vx = .map none ∧ ents = #[] ∨ ∃ b, vx = .map (some b) ∧ w.heap[b]? = some (.map ents c)) →
            (∀ w, (Instr.findKey kt (.int q (a.ev E.V.i)) ents.toList).run P w = .ok fk w) → ∀ {z : Value}, (zeroValue e).run P w = .ok z w ∨ fk.isSome = true →
            (Instr.lookup t vx (.int q (a.ev E.V.i)) ok).run P w = .ok (let r : Value × Bool := match fk with | some (_, v) => (v, true) | none => (z, false); if ok then .tuple #[r.1, .bool r.2] else r.1) w := by
          intro ents fk hv hf z hz
          have hf' := hf w
          rcases hv with ⟨rfl, rfl⟩ | ⟨b, rfl, hb⟩
          · cases fk with
            | none =>
              have hz := hz.resolve_right (by simp)
              simp only [Instr.lookup, Sem.run_bind, run_underlying hd1, Result.andThen_ok, Sem.run_pure, checkKey_int (d := 9999) hu, hf', hz]
            | some p =>
              simp only [Instr.lookup, Sem.run_bind, run_underlying hd1, Result.andThen_ok, Sem.run_pure, checkKey_int (d := 9999) hu, hf']
          · cases fk with
            | none =>
              have hz := hz.resolve_right (by simp)
              simp only [Instr.lookup, Sem.run_bind, run_underlying hd1, Result.andThen_ok, Sem.run_pure, run_getObj_map hb, checkKey_int (d := 9999) hu, hf', hz]
            | some p =>
              simp only [Instr.lookup, Sem.run_bind, run_underlying hd1, Result.andThen_ok, Sem.run_pure, run_getObj_map hb, checkKey_int (d := 9999) hu, hf']
        have entries : ∃ ents : Array MapEntry, erel E mu es ents.toList ∧ (vx = .map none ∧ ents = #[] ∨ ∃ b, vx = .map (some b) ∧ w.heap[b]? = some (.map ents c)) := by
          rcases mapOf_ok hr hx hm with ⟨rfl, rfl⟩ | ⟨b, ents, rfl, hb, he⟩
          · exact ⟨#[], trivial, .inl ⟨rfl, rfl⟩⟩
          · exact ⟨ents, he, .inr ⟨b, rfl, hb⟩⟩
        obtain ⟨ents, he, hent⟩ := entries
        split
        · rename_i j v hf
          rcases findKey_ok hs hu hf he with ⟨hno, _⟩ | ⟨j', v', e', g1, g2, g3, g4, g5⟩
          · cases hno
          · cases g1
            refine RSound.of_val hr (cv := if ok then .tuple #[e'.val, .bool true] else e'.val) (runs hent g5 (z := .nilFunc) (.inr rfl)) ?_
            cases ok
            · simp [cav_av, g3]
            · have : caps E mu [v, .s (.bool true)] = some [e'.val, .bool true] := om_cons.2 ⟨_, _, g3, om_cons.2 ⟨_, _, rfl, rfl, rfl⟩, rfl⟩
              simp [cav, this]
        · rename_i hf
          split
          · rename_i te hte
            split
            · rename_i z hz
              split
              · rename_i z' hz'
                obtain ⟨zv, zr, zs, za, zn⟩ := (hty _ _ hte).zero w
                obtain ⟨cv, p1, p2, p3⟩ := mkAV_ok (E := E) (mu := mu) hz (svsOf_ok zs)
                have hcv : cv = zv := by
                  cases hag : te.d.agg with
                  | true =>
                    obtain ⟨cs, hcs⟩ := za hag
                    rw [p2 hag, hcs]; rfl
                  | false =>
                    have h1 := p3 hag
                    have h2 := zn hag
                    rw [h2] at h1; simp at h1; exact h1.symm
                subst hcv
                have hz2 : cap_ E mu z' = some cv := (cap_of hz').trans p1
                rcases findKey_ok hs hu hf he with ⟨_, hn⟩ | ⟨j', v', e', g1, _⟩
                · refine RSound.of_val hr (cv := if ok then .tuple #[cv, .bool false] else cv) (runs hent hn (.inl zr)) ?_
                  cases ok
                  · simp [cav_av, hz2]
                  · have : caps E mu [z', .s (.bool false)] = some [cv, .bool false] := om_cons.2 ⟨_, _, hz2, om_cons.2 ⟨_, _, rfl, rfl, rfl⟩, rfl⟩
                    simp [cav, this]
                · cases g1
              · trivial
            · trivial
          · trivial
        · rename_i e' he'
          exact (findK_ask he').r _
    · trivial
  · trivial
theorem erel_set : ∀ {es : List (SV × AP × Nat)} {l : List MapEntry} {j : Nat} {e : MapEntry} {k : SV} {v : AP} {kv vv : Value}, erel E mu es l → l[j]? = some e → csv E mu k = some kv → cap_ E mu v = some vv →
    erel E mu (setEnt es j k v) (l.set j { e with key := kv, val := vv })
  | (k', v', b) :: es, e' :: l, 0, e, k, v, kv, vv, ⟨h1, h2, h3, h4⟩, he, hk, hv => by
    simp at he; subst he
    exact ⟨hk, hv, h3, h4⟩
  | (k', v', b) :: es, e' :: l, j + 1, e, k, v, kv, vv, ⟨h1, h2, h3, h4⟩, he, hk, hv => by
    exact ⟨h1, h2, h3, erel_set h4 (by simpa using he) hk hv⟩
  | [], [], j, e, k, v, kv, vv, _, he, _, _ => by simp at he
theorem erel_push : ∀ {es : List (SV × AP × Nat)} {l : List MapEntry} {k : SV} {v : AP} {e : MapEntry}, erel E mu es l → csv E mu k = some e.key → cap_ E mu v = some e.val →
    erel E mu (es ++ [(k, v, e.born)]) (l ++ [e])
  | [], [], k, v, e, _, hk, hv => ⟨hk, hv, rfl, trivial⟩
  | (k', v', b) :: es, e' :: l, k, v, e, ⟨h1, h2, h3, h4⟩, hk, hv => ⟨h1, h2, h3, erel_push h4 hk hv⟩

theorem run_setObj_map {b c : Nat} {ents : Array MapEntry} (hb : w.heap[b]? = some (.map ents c)) (o : Obj) : (setObj b o).run P w = .ok () (w.putObj b o) := by simp [setObj, Sem.run, hb, World.putObj]

theorem doMapSet_ok (hr : HRel E mu h w) (hs : Sat E.V G) (hty : TysOK P C) {t : Nat} {m k v : AV} {vm vk vv : Value} (hm : cav E mu m = some vm) (hk : cav E mu k = some vk) (hv : cav E mu v = some vv) :
    USound E P mu w (Instr.mapUpdate t vm vk vv) (doMapSet C G h t m k v) := by
  unfold doMapSet
  split
  · rename_i ti i q a v' hti hv'
    obtain ⟨d, hd1, hd2⟩ := (hty _ _ hti).und
    split
    · rename_i kt e es c hfs hobj
      rw [hfs] at hd2
      cases d <;> simp [tdOf] at hd2
      obtain ⟨rfl, rfl⟩ := hd2
      rename_i kt e
      cases hi : isIntT C kt with
      | false => trivial
      | true =>
        simp only [cond_true]
        obtain ⟨kd, hu⟩ := isIntT_ok hty hi
        obtain ⟨b, cc, ob, e1, _, e3, e4⟩ := hr.obj i _ hobj rfl
        cases ob <;> simp only [orel] at e4
        rename_i ents clock
        obtain ⟨rfl, e4⟩ := e4
        simp only [cav, csv, e1, Option.map_some, Option.some.injEq] at hm hk
        subst hm; subst hk
        have hvv : cap_ E mu v' = some vv := (cap_of hv').trans hv
        split
        · rename_i j vj hf
          rcases findKey_ok hs hu hf e4 with ⟨hno, _⟩ | ⟨j', v2, e', g1, g2, g3, g4, g5⟩
          · cases hno
          · cases g1
            have hsb : Instr.sameBits 10000 e'.key (.int q (a.ev E.V.i)) = true := by rw [g4]; simp [Instr.sameBits]
            have hget : ents[j]? = some e' := by simpa using g2
            have hmod : ents.modify j (fun e => { e with key := .int q (a.ev E.V.i), val := vv }) = ents.set! j { e' with key := .int q (a.ev E.V.i), val := vv } := by
              obtain ⟨hlt, hge⟩ := Array.getElem?_eq_some_iff.1 hget
              apply Array.ext_getElem?
              intro n
              simp only [Array.getElem?_modify, Array.set!_eq_setIfInBounds, Array.getElem?_setIfInBounds]
              by_cases hn : j = n
              · subst hn; simp [hlt, hge]
              · simp [hn]
            refine ⟨mu, w.putObj b (.map (ents.set! j { e' with key := .int q (a.ev E.V.i), val := vv }) clock), ?_, Mu.le_refl mu, hr.set hobj rfl e1 (o' := .map _ clock) (ob' := .map _ clock) ⟨rfl, ?_⟩ (Upd.putObj _ (lt_of_heap e3))⟩
            · simp [Instr.mapUpdate, Sem.run_bind, run_underlying hd1, run_getObj_map e3, checkKey_int (d := 9999) hu, g5 w, Instr.keyThatStays, hget, hsb, run_setObj_map e3]
              simpa using congrArg (fun x => w.putObj b (Obj.map x clock)) hmod
            · have := erel_set (k := .int q a) (v := v') e4 g2 rfl hvv
              simpa using this
        · rename_i hf
          rcases findKey_ok hs hu hf e4 with ⟨_, hn⟩ | ⟨j', v2, e', g1, _⟩
          · refine ⟨mu, w.putObj b (.map (ents.push { key := .int q (a.ev E.V.i), val := vv, born := clock }) (clock + 1)), ?_, Mu.le_refl mu, hr.set hobj rfl e1 (o' := .map _ (clock + 1)) (ob' := .map _ (clock + 1)) ⟨rfl, ?_⟩ (Upd.putObj _ (lt_of_heap e3))⟩
            · simp [Instr.mapUpdate, Sem.run_bind, run_underlying hd1, run_getObj_map e3, checkKey_int (d := 9999) hu, hn w, run_setObj_map e3]
            · have := erel_push (k := .int q a) (v := v') (e := { key := .int q (a.ev E.V.i), val := vv, born := clock }) e4 rfl hvv
              simpa using this
          · cases g1
        · rename_i e' he'
          exact (findK_ask he').u _
    · trivial
  · trivial
end
end Sx
