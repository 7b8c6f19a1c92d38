/- a part of the executor and of its soundness -/
import Derived.Test.YtehclnpgbgppeaaDoorSxC
namespace Sx
open Go Go.RowKit

def AO.live : AO → Bool
  | .dead => false
  | _ => true

section
variable (E : Env) (mu : Mu)
def tmRel (tm : T AV) (nt : Nat) (a : Array Value) : Prop := a.size = nt ∧ ∀ i, cav E mu ((tm.get i).getD (.s .undef)) = some (a.getD i undef)
def erel : List (SV × AP × Nat) → List MapEntry → Prop
  | [], [] => True
  | (k, v, b) :: es, e :: l => csv E mu k = some e.key ∧ cap_ E mu v = some e.val ∧ e.born = b ∧ erel es l
  | _, _ => False
def rowRel (sz : Nat) (els : List (List SV)) (ex : Bool) (c : Nat) (C : Array Value) : Prop :=
  0 < sz ∧ (∀ l ∈ els, l.length = sz) ∧ ∃ vs, csvs E mu els.flatten = some vs ∧ ∃ r, C.toList = vs ++ r ∧ (ex = true → r = []) ∧ (ex = false → C.size = c * sz)
def orel (c : Nat) : AO → Obj → Prop
  | .row sz els e ex, .cells C e' fz => e' = e ∧ fz = (0, 0) ∧ rowRel E mu sz els ex c C
  | .map es clk, .map ents clock => clock = clk ∧ erel E mu es ents.toList
  | .loop st pend tm nt ps asg body df, .loop r => r.state = st ∧ r.pending = pend ∧ tmRel E mu tm nt r.tmps ∧ r.params.toList = ps ∧ r.assign = asg ∧ r.body = body ∧ ∃ p, mu df = some p ∧ r.defers = p.1
  | .dfr o, .deferred x => x = if o then some [] else none
  | .srt l e, .cells C e' fz => e' = e ∧ fz = (0, 0) ∧ ∃ r, C.toList = (sd (l.map (·.ev E.V.i))).map (Value.int .i64) ++ r
  | _, _ => False

structure HRel (h : Hp) (w : World) : Prop where
  dom : ∀ i, h.nx ≤ i → mu i = none ∧ h.m.get i = none
  obj : ∀ i o, h.m.get i = some o → o.live = true → ∃ b c ob, mu i = some (b, c) ∧ E.w0.heap.size ≤ b ∧ w.heap[b]? = some ob ∧ orel E mu c o ob
  inj : ∀ i j oi oj b c c', h.m.get i = some oi → h.m.get j = some oj → oi.live = true → oj.live = true → mu i = some (b, c) → mu j = some (b, c') → i = j
  below : Below E.w0.heap.size E.w0 w
end

/-- A row, as a reader sees it. -/
def rowRd (E : Env) (mu : Mu) (sz : Nat) (els : List (List SV)) (C : Array Value) : Prop :=
  0 < sz ∧ (∀ l ∈ els, l.length = sz) ∧ ∃ vs, csvs E mu els.flatten = some vs ∧ ∃ r, C.toList = vs ++ r
theorem rowRd_of {E : Env} {mu : Mu} {sz c : Nat} {els : List (List SV)} {ex : Bool} {C : Array Value} (h : rowRel E mu sz els ex c C) : rowRd E mu sz els C := by
  obtain ⟨h1, h2, vs, h3, r, h4, _⟩ := h
  exact ⟨h1, h2, vs, h3, r, h4⟩
/-- What a reader asks of an object. -/
def rrel (E : Env) (mu : Mu) (c : Nat) : AO → Obj → Prop
  | .row sz els _ _, .cells C _ _ => rowRd E mu sz els C
  | .srt l _, .cells C _ _ => ∃ r, C.toList = (sd (l.map (·.ev E.V.i))).map (Value.int .i64) ++ r
  | .row .., _ => False
  | .srt .., _ => False
  | _, _ => True
theorem rrel_of {E : Env} {mu : Mu} {c : Nat} {o : AO} {ob : Obj} (h : orel E mu c o ob) : rrel E mu c o ob := by
  cases o <;> cases ob <;> first | trivial | exact h.elim | exact rowRd_of h.2.2 | exact h.2.2

/-- The old rows that are known. -/
structure OldOK (C : Cx) (E : Env) : Prop where
  row : ∀ g o, C.gl.get g = some o → ∃ ob, E.gb g < E.w0.heap.size ∧ E.w0.heap[E.gb g]? = some ob ∧ rrel E (fun _ => none) 0 o ob
  glob : ∀ g, g < 1000000 → E.gb g = g

section
variable {E : Env} {mu mu' : Mu}
theorem tmRel_mono (h : Mu.le mu mu') {tm : T AV} {nt : Nat} {a : Array Value} (e : tmRel E mu tm nt a) : tmRel E mu' tm nt a := ⟨e.1, fun i => cav_mono h _ _ (e.2 i)⟩
theorem erel_mono (h : Mu.le mu mu') : ∀ {es : List (SV × AP × Nat)} {l : List MapEntry}, erel E mu es l → erel E mu' es l
  | [], [], _ => trivial
  | (k, v, b) :: es, e :: l, ⟨h1, h2, h3, h4⟩ => ⟨csv_mono h _ _ h1, cap_mono h _ _ h2, h3, erel_mono h h4⟩
  | [], _ :: _, e => e.elim
  | (_, _, _) :: _, [], e => e.elim
theorem orel_mono (h : Mu.le mu mu') {c : Nat} {o : AO} {ob : Obj} (e : orel E mu c o ob) : orel E mu' c o ob := by
  cases o <;> cases ob <;> simp only [orel] at e ⊢ <;> try exact e
  · obtain ⟨h1, h2, h3, h4, vs, h5, r, h6⟩ := e
    exact ⟨h1, h2, h3, h4, vs, csvs_mono h h5, r, h6⟩
  · exact ⟨e.1, erel_mono h e.2⟩
  · obtain ⟨h1, h2, h3, h4, h5, h6, p, h7, h8⟩ := e
    exact ⟨h1, h2, tmRel_mono h h3, h4, h5, h6, p, h _ _ h7, h8⟩
theorem orel_live {c : Nat} {o : AO} {ob : Obj} (e : orel E mu c o ob) : o.live = true := by
  cases o <;> first | rfl | (cases ob <;> exact e.elim)

/-- A world with one block turned. -/
structure Upd (w w' : World) (b : Nat) (ob : Obj) : Prop where
  os : w'.os = w.os
  tape : w'.tape = w.tape
  output : w'.output = w.output
  size : w'.heap.size = w.heap.size
  same : w'.heap[b]? = some ob
  other : ∀ k, k ≠ b → w'.heap[k]? = w.heap[k]?

theorem Upd.putObj {w : World} {b : Nat} (o : Obj) (h : b < w.heap.size) : Upd w (w.putObj b o) b o :=
  ⟨rfl, rfl, rfl, by simp [World.putObj], World.putObj_heap_same h, fun k hk => World.putObj_heap_other hk⟩
theorem Upd.setRow {w : World} {b : Nat} {old cs : Array Value} {t : TypeId} {fr : Nat × Nat} (h : w.heap[b]? = some (.cells old t fr)) : Upd w (w.setRow b cs) b (.cells cs t fr) :=
  ⟨rfl, rfl, rfl, setRow_size w b cs, setRow_heap w b old cs t fr h, fun k hk => setRow_other w b k cs hk⟩

theorem lt_of_heap {w : World} {b : Nat} {ob : Obj} (h : w.heap[b]? = some ob) : b < w.heap.size := (Array.getElem?_eq_some_iff.1 h).1

theorem HRel.set {h : Hp} {w w' : World} (hr : HRel E mu h w) {i b c : Nat} {o o' : AO} {ob' : Obj} (hi : h.m.get i = some o) (hl : o.live = true) (hm : mu i = some (b, c)) (hrel : orel E mu c o' ob')
    (hu : Upd w w' b ob') : HRel E mu { h with m := h.m.set i o' } w' := by
  have hin : i < h.nx := by
    rcases Nat.lt_or_ge i h.nx with hx | hx
    · exact hx
    · have := (hr.dom i hx).2; rw [this] at hi; cases hi
  have hb0 : E.w0.heap.size ≤ b := by
    obtain ⟨b', c', ob, e1, e2, _⟩ := hr.obj i o hi hl
    rw [hm] at e1; cases e1; exact e2
  refine ⟨fun j hj => ?_, fun j oj hj hlj => ?_, fun j k oj ok b1 c1 c2 hj hk hlj hlk e1 e2 => ?_, ?_⟩
  · have : j ≠ i := by simp at hj; omega
    have hd := hr.dom j hj
    exact ⟨hd.1, by simp only [T.get_set_ne this]; exact hd.2⟩
  · by_cases e : j = i
    · subst e
      simp only [T.get_set_same, Option.some.injEq] at hj
      subst hj
      exact ⟨b, c, ob', hm, hb0, hu.same, hrel⟩
    · simp only [T.get_set_ne e] at hj
      obtain ⟨b1, c1, ob1, e1, e2, e3, e4⟩ := hr.obj j oj hj hlj
      refine ⟨b1, c1, ob1, e1, e2, ?_, e4⟩
      rw [hu.other b1 ?_]; exact e3
      intro e5; subst e5
      exact e (hr.inj j i oj o b1 c1 c hj hi hlj hl e1 hm)
  · have key : ∀ j oj, (h.m.set i o').get j = some oj → oj.live = true → ∃ oj', h.m.get j = some oj' ∧ oj'.live = true := fun j oj hj hlj => by
      by_cases e : j = i
      · subst e; exact ⟨o, hi, hl⟩
      · simp only [T.get_set_ne e] at hj; exact ⟨oj, hj, hlj⟩
    obtain ⟨o1, g1, l1⟩ := key j oj hj hlj
    obtain ⟨o2, g2, l2⟩ := key k ok hk hlk
    exact hr.inj j k o1 o2 b1 c1 c2 g1 g2 l1 l2 e1 e2
  · have hb := hr.below
    exact ⟨hu.os.trans hb.os, hu.tape.trans hb.tape, hu.output.trans hb.output, by rw [hu.size]; exact hb.size, fun k hk => by rw [hu.other k (by omega)]; exact hb.block k hk⟩

def Mu.add (mu : Mu) (i : Nat) (p : Nat × Nat) : Mu := fun j => if j = i then some p else mu j
theorem Mu.le_add {i : Nat} {p : Nat × Nat} (h : mu i = none) : Mu.le mu (mu.add i p) := fun j x e => by
  unfold Mu.add
  by_cases hj : j = i
  · subst hj; rw [h] at e; cases e
  · simp [hj, e]
theorem Mu.add_same (mu : Mu) (i : Nat) (p : Nat × Nat) : mu.add i p i = some p := by simp [Mu.add]

theorem HRel.push {h : Hp} {w : World} (hr : HRel E mu h w) {c : Nat} {o : AO} {ob : Obj} (hrel : orel E (mu.add h.nx (w.heap.size, c)) c o ob) :
    HRel E (mu.add h.nx (w.heap.size, c)) (h.push o) (w.alloc ob) := by
  have hle : Mu.le mu (mu.add h.nx (w.heap.size, c)) := Mu.le_add (hr.dom h.nx (Nat.le_refl _)).1
  have hold : ∀ b ob1, w.heap[b]? = some ob1 → (w.alloc ob).heap[b]? = some ob1 := fun b ob1 e => by
    have hlt := lt_of_heap e
    show (w.heap.push ob)[b]? = _
    rw [Array.getElem?_push]; simp [Nat.ne_of_lt hlt, e]
  have mune : ∀ j, j ≠ h.nx → mu.add h.nx (w.heap.size, c) j = mu j := fun j hj => by simp [Mu.add, hj]
  refine ⟨fun j hj => ?_, fun j oj hj hlj => ?_, fun j k oj ok b1 c1 c2 hj hk hlj hlk e1 e2 => ?_, ?_⟩
  · simp only [Hp.push] at hj ⊢
    have : j ≠ h.nx := by omega
    have hd := hr.dom j (by omega)
    exact ⟨by rw [mune j this]; exact hd.1, by rw [T.get_set_ne this]; exact hd.2⟩
  · simp only [Hp.push] at hj
    by_cases e : j = h.nx
    · subst e
      rw [T.get_set_same] at hj; cases hj
      exact ⟨w.heap.size, c, ob, Mu.add_same _ _ _, hr.below.size, World.alloc_heap_new w ob, hrel⟩
    · rw [T.get_set_ne e] at hj
      obtain ⟨b1, c1, ob1, e1, e2, e3, e4⟩ := hr.obj j oj hj hlj
      exact ⟨b1, c1, ob1, hle _ _ e1, e2, hold _ _ e3, orel_mono hle e4⟩
  · simp only [Hp.push] at hj hk
    have fresh : ∀ j oj b c', j ≠ h.nx → (h.m.set h.nx o).get j = some oj → oj.live = true → mu.add h.nx (w.heap.size, c) j = some (b, c') → b < w.heap.size := fun j oj b c' hne hj hlj e => by
      rw [T.get_set_ne hne] at hj
      rw [mune j hne] at e
      obtain ⟨b1, c1, ob1, e1, _, e3, _⟩ := hr.obj j oj hj hlj
      rw [e] at e1; cases e1
      exact lt_of_heap e3
    by_cases ej : j = h.nx <;> by_cases ek : k = h.nx
    · rw [ej, ek]
    · subst ej; rw [Mu.add_same] at e1; cases e1
      have := fresh k ok _ _ ek hk hlk e2; omega
    · subst ek; rw [Mu.add_same] at e2; cases e2
      have := fresh j oj _ _ ej hj hlj e1; omega
    · rw [T.get_set_ne ej] at hj; rw [T.get_set_ne ek] at hk
      rw [mune j ej] at e1; rw [mune k ek] at e2
      exact hr.inj j k oj ok b1 c1 c2 hj hk hlj hlk e1 e2
  · have hb := hr.below
    refine ⟨hb.os, hb.tape, hb.output, by simp; exact Nat.le_succ_of_le hb.size, fun k hk => ?_⟩
    rw [← hb.block k hk]
    show (w.heap.push ob)[k]? = _
    rw [Array.getElem?_push]
    have := hb.size
    simp [show k ≠ w.heap.size by omega]

theorem HRel.of_heap {h : Hp} {w w' : World} (hr : HRel E mu h w) (h1 : w'.heap = w.heap) (h2 : w'.os = w.os) (h3 : w'.tape = w.tape) (h4 : w'.output = w.output) : HRel E mu h w' :=
  ⟨hr.dom, fun i o a b => by rw [h1]; exact hr.obj i o a b, hr.inj, ⟨h2.trans hr.below.os, h3.trans hr.below.tape, h4.trans hr.below.output, by rw [h1]; exact hr.below.size, fun k hk => by rw [h1]; exact hr.below.block k hk⟩⟩

/-- An object is struck. -/
theorem HRel.kill {h : Hp} {w : World} (hr : HRel E mu h w) (i : Nat) (hi : i < h.nx) : HRel E mu { h with m := h.m.set i .dead } w := by
  have key : ∀ j oj, (h.m.set i AO.dead).get j = some oj → oj.live = true → j ≠ i ∧ h.m.get j = some oj := fun j oj hj hlj => by
    by_cases e : j = i
    · subst e; rw [T.get_set_same] at hj; cases hj; cases hlj
    · rw [T.get_set_ne e] at hj; exact ⟨e, hj⟩
  refine ⟨fun j hj => ?_, fun j oj hj hlj => ?_, fun j k oj ok b1 c1 c2 hj hk hlj hlk e1 e2 => ?_, hr.below⟩
  · have : j ≠ i := by simp at hj; omega
    exact ⟨(hr.dom j hj).1, by simp only [T.get_set_ne this]; exact (hr.dom j hj).2⟩
  · exact hr.obj j oj (key j oj hj hlj).2 hlj
  · exact hr.inj j k oj ok b1 c1 c2 (key j oj hj hlj).2 (key k ok hk hlk).2 hlj hlk e1 e2

/-- What goes on elsewhere leaves what is related as it is. -/
theorem HRel.past {h : Hp} {w w' : World} (hr : HRel E mu h w) (hb : Below w.heap.size w w') : HRel E mu h w' :=
  ⟨hr.dom, fun i o a b => by
    obtain ⟨b1, c1, ob1, e1, e2, e3, e4⟩ := hr.obj i o a b
    exact ⟨b1, c1, ob1, e1, e2, by rw [hb.block b1 (lt_of_heap e3)]; exact e3, e4⟩, hr.inj,
   ⟨hb.os.trans hr.below.os, hb.tape.trans hr.below.tape, hb.output.trans hr.below.output, Nat.le_trans hr.below.size hb.size, fun k hk => by
      have := hr.below.size
      rw [hb.block k (by omega)]; exact hr.below.block k hk⟩⟩

theorem rrel_mono (h : Mu.le mu mu') {c : Nat} {o : AO} {ob : Obj} (e : rrel E mu c o ob) : rrel E mu' c o ob := by
  cases o <;> cases ob <;> try exact e
  obtain ⟨h3, h4, vs, h5, r, h6⟩ := e
  exact ⟨h3, h4, vs, csvs_mono h h5, r, h6⟩
theorem objAt_ok {C : Cx} {h : Hp} {w : World} (hr : HRel E mu h w) (ho : OldOK C E) {r : Ref} {o : AO} (hx : objAt C h r = some o) (hl : o.live = true) :
    ∃ b c ob, refB E mu r = some b ∧ w.heap[b]? = some ob ∧ rrel E mu c o ob := by
  cases r with
  | o i =>
    obtain ⟨b, c, ob, e1, _, e3, e4⟩ := hr.obj i o hx hl
    exact ⟨b, c, ob, by simp [refB, e1], e3, rrel_of e4⟩
  | g i =>
    obtain ⟨ob, e1, e2, e3⟩ := ho.row i o hx
    exact ⟨E.gb i, 0, ob, rfl, by rw [hr.below.block _ e1]; exact e2, rrel_mono (fun _ _ h => by cases h) e3⟩
end
end Sx
