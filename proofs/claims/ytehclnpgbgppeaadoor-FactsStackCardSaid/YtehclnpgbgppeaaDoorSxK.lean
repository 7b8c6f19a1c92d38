/- a part of the executor and of its soundness -/
import Derived.Test.YtehclnpgbgppeaaDoorSxJ
import Derived.Laws.StructEq
namespace Sx
open Go Go.RowKit

section
variable {E : Env} {P : Program} {mu : Mu} {w : World} {C : Cx} {h : Hp} {G : Gam}
/-! ### Whole numbers -/
theorem doArith_ok (hs : Sat E.V G) {o : AOp} {op : BinOp} (ho : arithOf op = some o) {k k' : IntKind} {a b : IT} (hk : k = k' ∨ op = .shl ∨ op = .shr) (t : TypeId) :
    PSound E P mu h (binOp op t (.int k (a.ev E.V.i)) (.int k' (b.ev E.V.i))) (doArith G h o k a b) := by
  have val : ∀ (cv : Value), cv = .int k (goOp o k (a.ev E.V.i) (b.ev E.V.i)) → cav E mu (.s (.int k (mk G o k a b))) = some cv := fun cv e => by
    rw [e]; simp [cav, csv, mk_ev hs]
  have hne : ∀ {r}, eqq G b (.c 0) = some r → r = decide (b.ev E.V.i = 0) := fun h => eqq_ok hs h
  have hlt : ∀ {r}, ltq G b (.c 0) = some r → r = decide (b.ev E.V.i < 0) := fun h => ltq_ok hs h
  cases op <;> simp [arithOf] at ho <;> subst ho
  case shl =>
    simp only [doArith]
    split
    · rename_i hq
      have := hlt hq
      have h0 : ¬ b.ev E.V.i < 0 := by simpa using this.symm
      exact PSound.mk (val _ rfl) fun w => by simp [binOp, Op.shift, h0, goOp]
    · trivial
    · trivial
  case shr =>
    simp only [doArith]
    split
    · rename_i hq
      have := hlt hq
      have h0 : ¬ b.ev E.V.i < 0 := by simpa using this.symm
      exact PSound.mk (val _ rfl) fun w => by simp [binOp, Op.shift, h0, goOp]
    · trivial
    · trivial
  all_goals
    obtain rfl : k = k' := by simpa using hk
    simp only [doArith]
  case quo =>
    split
    · rename_i hq
      have := hne hq
      have h0 : ¬ b.ev E.V.i = 0 := by simpa using this.symm
      exact PSound.mk (val _ rfl) fun w => by simp [binOp, Op.intDiv, h0, goOp]
    · trivial
    · trivial
  case rem =>
    split
    · rename_i hq
      have := hne hq
      have h0 : ¬ b.ev E.V.i = 0 := by simpa using this.symm
      exact PSound.mk (val _ rfl) fun w => by simp [binOp, Op.intDiv, h0, goOp]
    · trivial
    · trivial
  case add => exact PSound.mk (val _ rfl) fun w => by simp [binOp, Op.intArith, goOp]
  case sub => exact PSound.mk (val _ rfl) fun w => by simp [binOp, Op.intArith, goOp]
  case mul => exact PSound.mk (val _ rfl) fun w => by simp [binOp, Op.intArith, goOp]
  case and => exact PSound.mk (val _ rfl) fun w => by simp [binOp, Op.intBits, goOp]
  case or => exact PSound.mk (val _ rfl) fun w => by simp [binOp, Op.intBits, goOp]
  case xor => exact PSound.mk (val _ rfl) fun w => by simp [binOp, Op.intBits, goOp]
  case andNot => exact PSound.mk (val _ rfl) fun w => by simp [binOp, Op.intBits, goOp]

theorem doCmp_ok (hs : Sat E.V G) {op : BinOp} (ho : arithOf op = none) {k : IntKind} {a b : IT} (t : TypeId) :
    PSound E P mu h (binOp op t (.int k (a.ev E.V.i)) (.int k (b.ev E.V.i))) (doCmp G h op a b) := by
  have ye : ∀ {x : Bool} {s : Sem Value}, (∀ w, s.run P w = .ok (.bool x) w) → PSound E P mu h s (yes x h) := fun hx => PSound.mk rfl hx
  cases op <;> simp [arithOf] at ho <;> simp only [doCmp] <;> try trivial
  case eql =>
    split
    · rename_i r hq
      have := eqq_ok hs hq
      exact ye fun w => by simp [binOp, Op.intCmp, this]; by_cases e : a.ev E.V.i = b.ev E.V.i <;> simp [e]
    · exact (askEq_ask a b).p _
  case neq =>
    split
    · rename_i r hq
      have := eqq_ok hs hq
      exact ye fun w => by simp [binOp, Op.intCmp, this]; by_cases e : a.ev E.V.i = b.ev E.V.i <;> simp [e, bne]
    · exact (askEq_ask a b).p _
  case lss =>
    split
    · rename_i r hq
      have := ltq_ok hs hq
      exact ye fun w => by simp [binOp, Op.intCmp, this]
    · trivial
  case gtr =>
    split
    · rename_i r hq
      have := ltq_ok hs hq
      exact ye fun w => by simp [binOp, Op.intCmp, this]
    · trivial
  case leq =>
    split
    · rename_i r hq
      have := ltq_ok hs hq
      exact ye fun w => by simp [binOp, Op.intCmp, this, ← Int.not_lt]
    · trivial
  case geq =>
    split
    · rename_i r hq
      have := ltq_ok hs hq
      exact ye fun w => by simp [binOp, Op.intCmp, this, ← Int.not_lt]
    · trivial

theorem eqSV_ask {V : Val} {x y : SV} {e : R} (he : eqSV G x y = .error e) : Asking V e := by
  unfold eqSV at he
  split at he
  · rename_i k a k' b
    cases hk : keq k k'
    · simp only [hk, cond_false] at he; cases he; trivial
    · simp only [hk, cond_true] at he
      split at he
      · cases he
      · cases he; exact askEq_ask _ _
  · split at he
    · split at he
      · cases he
      · rename_i h; cases he; exact boolSV_ask h
    · rename_i h; cases he; exact boolSV_ask h
theorem eqSV_ok (hs : Sat E.V G) {x y : SV} {r : Bool} (he : eqSV G x y = .ok r) : ∃ a b, csv E mu x = some a ∧ csv E mu y = some b ∧ r = veq a b := by
  unfold eqSV at he
  split at he
  · rename_i k a k' b
    cases hk : keq k k'
    · simp only [hk, cond_false] at he; cases he
    · simp only [hk, cond_true] at he
      split at he
      · rename_i r' hq
        cases he
        refine ⟨_, _, rfl, rfl, ?_⟩
        rw [eqq_ok hs hq]
        simp only [veq]
        by_cases e : a.ev E.V.i = b.ev E.V.i <;> simp [e]
      · cases he
  · split at he
    · rename_i a ha
      split at he
      · rename_i b hb
        cases he
        exact ⟨_, _, boolSV_ok hs ha, boolSV_ok hs hb, by cases a <;> cases b <;> rfl⟩
      · cases he
    · cases he
theorem eqCells_ask {V : Val} : ∀ {l l' : List SV} {e : R}, eqCells G l l' = .error e → Asking V e
  | [], [], e, he => by simp [eqCells] at he
  | x :: l, y :: l', e, he => by
    simp only [eqCells] at he
    split at he
    · exact eqCells_ask he
    · cases he
    · rename_i h; cases he; exact eqSV_ask h
  | [], _ :: _, e, he => by simp [eqCells] at he; subst he; trivial
  | _ :: _, [], e, he => by simp [eqCells] at he; subst he; trivial
theorem eqCells_ok (hs : Sat E.V G) : ∀ {l l' : List SV} {r : Bool} {a b : List Value}, eqCells G l l' = .ok r → csvs E mu l = some a → csvs E mu l' = some b → r = veqs a b
  | [], [], r, a, b, he, ha, hb => by simp [eqCells] at he; simp [om] at ha hb; subst ha; subst hb; simp [veqs, he]
  | x :: l, y :: l', r, a, b, he, ha, hb => by
    obtain ⟨va, as, h1, h2, rfl⟩ := om_cons.1 ha
    obtain ⟨vb, bs, h3, h4, rfl⟩ := om_cons.1 hb
    simp only [eqCells] at he
    split at he
    · rename_i h
      obtain ⟨a', b', e1, e2, e3⟩ := eqSV_ok (mu := mu) hs h
      rw [h1] at e1; cases e1; rw [h3] at e2; cases e2
      simp only [veqs, ← e3, Bool.true_and]
      exact eqCells_ok hs he h2 h4
    · rename_i h
      obtain ⟨a', b', e1, e2, e3⟩ := eqSV_ok (mu := mu) hs h
      rw [h1] at e1; cases e1; rw [h3] at e2; cases e2
      cases he
      simp [veqs, ← e3]
    · cases he
  | [], _ :: _, r, a, b, he, _, _ => by simp [eqCells] at he
  | _ :: _, [], r, a, b, he, _, _ => by simp [eqCells] at he

theorem lfq_ok : ∀ {f : List Bool} {l l' : List SV} {a b : List Value}, lfq f l l' = true → csvs E mu l = some a → csvs E mu l' = some b → shp f a b
  | [], [], [], a, b, _, ha, hb => by simp [om] at ha hb; subst ha; subst hb; trivial
  | true :: f, x :: l, y :: l', a, b, hl, ha, hb => by
    obtain ⟨va, as, h1, h2, rfl⟩ := om_cons.1 ha
    obtain ⟨vb, bs, h3, h4, rfl⟩ := om_cons.1 hb
    simp only [lfq, Bool.and_eq_true] at hl
    have key : ∀ {z : SV} {v : Value}, (match z with | .bool _ | .bv _ => true | _ => false) = true → csv E mu z = some v → ∃ c, v = .bool c := fun {z v} hz hv => by
      cases z <;> simp at hz <;> simp [csv] at hv <;> exact ⟨_, hv.symm⟩
    obtain ⟨c, rfl⟩ := key hl.1.1 h1
    obtain ⟨d, rfl⟩ := key hl.1.2 h3
    exact lfq_ok (f := f) hl.2 h2 h4
  | false :: f, .int k t :: l, .int k' t' :: l', a, b, hl, ha, hb => by
    obtain ⟨va, as, h1, h2, rfl⟩ := om_cons.1 ha
    obtain ⟨vb, bs, h3, h4, rfl⟩ := om_cons.1 hb
    simp only [lfq, Bool.and_eq_true] at hl
    simp only [csv, Option.some.injEq] at h1 h3
    subst h1; subst h3
    exact ⟨kn_inj hl.1, lfq_ok (f := f) hl.2 h2 h4⟩

theorem doEq_ok (hs : Sat E.V G) (hty : TysOK P C) {op : BinOp} {neg : Bool} (ho : isEq op = some neg) {t : Nat} {ti : TI} (hti : C.ty.get t = some ti) {l l' : List SV} {a b : List Value}
    (ha : csvs E mu l = some a) (hb : csvs E mu l' = some b) (hl0 : Nat.blt 0 ti.lf.length = true) (hl : lfq ti.lf l l' = true) (x y : Operand) :
    PSound E P mu h (do eqGuard op t x y (.agg a.toArray) (.agg b.toArray); binOp op t (.agg a.toArray) (.agg b.toArray)) (doEqR (eqCells G l l') h neg) := by
  have hlf : ti.lf ≠ [] := by intro e; rw [e] at hl0; simp at hl0
  obtain ⟨hg, he⟩ := (hty t ti hti).leaf hlf
  unfold doEqR
  split
  · rename_i r hr
    have hv := eqCells_ok hs hr ha hb
    have hrun := fun w => he w a.toArray b.toArray (by simpa using lfq_ok hl ha hb)
    refine PSound.mk rfl fun w => ?_
    cases op <;> simp [isEq] at ho <;> subst ho
    · simp [Sem.run_bind, run_eqGuard_agg w _ _ _ _ _ _ hg, run_eql_struct, hrun w, ← hv]
    · simp [Sem.run_bind, run_eqGuard_agg w _ _ _ _ _ _ hg, run_neq_struct, hrun w, ← hv]
  · rename_i e he
    exact (eqCells_ask he).p _

/-- A scalar whose equality is looked up by its type. -/
def Value.eqv : Value → Bool
  | .bool _ | .pointer _ | .slice .. => true
  | _ => false
theorem binOp_eq_run {op : BinOp} {neg : Bool} (ho : isEq op = some neg) (t : TypeId) {a b : Value} (ha : Value.eqv a = true) (hb : Value.eqv b = true) (w : World) :
    (binOp op t a b).run P w = ((Op.equal t a b).run P w).andThen fun r w' => .ok (.bool (bif neg then !r else r)) w' := by
  have e1 : binOp .eql t a b = (do pure (.bool (← Op.equal t a b))) := by
    cases a <;> simp [Value.eqv] at ha <;> cases b <;> simp [Value.eqv] at hb <;> rfl
  have e2 : binOp .neq t a b = (do pure (.bool (!(← Op.equal t a b)))) := by
    cases a <;> simp [Value.eqv] at ha <;> cases b <;> simp [Value.eqv] at hb <;> rfl
  cases op <;> simp [isEq] at ho <;> subst ho
  · rw [e1]; simp only [Sem.run_bind, Sem.run_pure, cond_false]
  · rw [e2]; simp only [Sem.run_bind, Sem.run_pure, cond_true]
theorem eqGuard_run (op : BinOp) (t : TypeId) (x y : Operand) {a b : Value} (ha : Value.eqv a = true) (w : World) : (eqGuard op t x y a b).run P w = .ok () w := by
  cases a <;> simp [Value.eqv] at ha <;> cases op <;> simp [eqGuard]

theorem eqS_ask {V : Val} {d : TD} {x y : SV} {e : R} (he : eqS G d x y = .error e) : Asking V e := by
  unfold eqS at he
  split at he
  · split at he
    · split at he
      · cases he
      · rename_i h; cases he; exact boolSV_ask h
    · rename_i h; cases he; exact boolSV_ask h
  · split at he <;> cases he; trivial
  · split at he <;> cases he; trivial
  · cases he; trivial

theorem u8sBeq_eq : ∀ (a b : List UInt8), u8sBeq a b = (a == b)
  | [], [] => rfl
  | [], _ :: _ => rfl
  | _ :: _, [] => rfl
  | a :: l, b :: r => by
    have h : Nat.beq a.toNat b.toNat = (a == b) := by
      by_cases e : a = b
      · subst e; simp
      · have h1 : ¬ a.toNat = b.toNat := fun h => e (UInt8.toNat_inj.1 h)
        rw [Bool.eq_iff_iff]; simp [e, h1]
    simp only [u8sBeq, u8sBeq_eq l r, h, List.cons_beq_cons]
theorem strq_eq (a b : ByteArray) : strq a b = (a == b) := by
  rw [beq_toListBytes, ByteArray.toList_eq, ByteArray.toList_eq]
  exact u8sBeq_eq _ _

theorem slice_val {r : Ref} {off len : Nat} {cp : Cap} {v : Value} (hv : csv E mu (.slice r off len cp) = some v) : ∃ a n c, v = .slice (some a) n c := by
  cases cp with
  | ex c =>
    simp only [csv, Option.map_eq_some_iff] at hv
    obtain ⟨b, _, rfl⟩ := hv; exact ⟨_, _, _, rfl⟩
  | up k =>
    cases r with
    | g i => simp only [csv, Option.some.injEq] at hv; exact ⟨_, _, _, hv.symm⟩
    | o i =>
      simp only [csv, Option.map_eq_some_iff] at hv
      obtain ⟨b, _, rfl⟩ := hv; exact ⟨_, _, _, rfl⟩

theorem eqS_ok (hs : Sat E.V G) {t : Nat} {d : TypeDesc} {td : TD} (hd1 : P.underlying t = some d) (hd2 : tdOf d = td) {x y : SV} {r : Bool} {vx vy : Value} (he : eqS G td x y = .ok r)
    (hx : csv E mu x = some vx) (hy : csv E mu y = some vy) : Value.eqv vx = true ∧ Value.eqv vy = true ∧ ∀ w, (Op.equal t vx vy).run P w = .ok r w := by
  unfold eqS at he
  split at he
  · cases d <;> simp [tdOf] at hd2
    split at he
    · rename_i a ha
      split at he
      · rename_i b hb
        cases he
        have e1 := boolSV_ok (mu := mu) hs ha
        have e2 := boolSV_ok (mu := mu) hs hb
        rw [hx] at e1; cases e1; rw [hy] at e2; cases e2
        refine ⟨rfl, rfl, fun w => ?_⟩
        rw [run_equal_bool w t a b hd1]
        cases a <;> cases b <;> rfl
      · cases he
    · cases he
  · cases d <;> simp [tdOf] at hd2
    have eqp : ∀ {p q : Option Addr}, (p = none ∨ q = none) → ∀ w, (Op.equal t (.pointer p) (.pointer q)).run P w = .ok (p.isNone && q.isNone) w := fun {p q} hpq w => by
      have key : ∀ dd : Nat, (Op.equalIn (dd + 1) t (.pointer p) (.pointer q)).run P w = .ok (p.isNone && q.isNone) w := fun dd => by
        cases p <;> cases q
        case some.some => simp at hpq
        all_goals simp [Op.equalIn, Sem.run_bind, run_underlying hd1]
      exact key 9999
    split at he
    · cases he
      simp only [csv, Option.some.injEq] at hx hy; subst hx; subst hy
      exact ⟨rfl, rfl, eqp (.inl rfl)⟩
    · cases he
      simp only [csv, Option.some.injEq, Option.map_eq_some_iff] at hx hy; subst hx; obtain ⟨b, _, rfl⟩ := hy
      exact ⟨rfl, rfl, eqp (.inl rfl)⟩
    · cases he
      simp only [csv, Option.some.injEq, Option.map_eq_some_iff] at hx hy; subst hy; obtain ⟨b, _, rfl⟩ := hx
      exact ⟨rfl, rfl, eqp (.inr rfl)⟩
    · cases he
  · cases d <;> simp [tdOf] at hd2
    have eqp : ∀ {p : Option Addr} {n c : Nat}, ∀ w, (Op.equal t (.slice p n c) (.slice none 0 0)).run P w = .ok p.isNone w := fun {p n c} w => by
      have key : ∀ dd : Nat, (Op.equalIn (dd + 1) t (.slice p n c) (.slice none 0 0)).run P w = .ok p.isNone w := fun dd => by
        cases p <;> simp [Op.equalIn, Sem.run_bind, run_underlying hd1]
      exact key 9999
    split at he
    · cases he
      simp only [csv, Option.some.injEq] at hx hy; subst hx; subst hy
      exact ⟨rfl, rfl, eqp⟩
    · cases he
      obtain ⟨a, n, c, rfl⟩ := slice_val hx
      simp only [csv, Option.some.injEq] at hy; subst hy
      exact ⟨rfl, rfl, eqp⟩
    · cases he
      simp only [csv, Option.some.injEq, Option.map_eq_some_iff] at hx hy; subst hy; obtain ⟨b, _, rfl⟩ := hx
      exact ⟨rfl, rfl, eqp⟩
    · cases he
  · cases he

theorem doBin_ok (hs : Sat E.V G) (hty : TysOK P C) {op : BinOp} {t : Nat} {x y : AV} {vx vy : Value} (hx : cav E mu x = some vx) (hy : cav E mu y = some vy) (ox oy : Operand) :
    PSound E P mu h (do eqGuard op t ox oy vx vy; binOp op t vx vy) (doBin C G h op t x y) := by
  have guard : ∀ {a b : Value}, (∀ w, (eqGuard op t ox oy a b).run P w = .ok () w) → ∀ w, (do eqGuard op t ox oy a b; binOp op t a b : Sem Value).run P w = (binOp op t a b).run P w := fun hg w => by
    simp [Sem.run_bind, hg w]
  unfold doBin
  split
  · rename_i k a k' b
    simp only [cav, csv, Option.some.injEq] at hx hy
    subst hx; subst hy
    have hg := guard (a := .int k (a.ev E.V.i)) (b := .int k' (b.ev E.V.i)) (fun w => by cases op <;> simp [eqGuard])
    split
    · rename_i ho; exact (doArith_ok hs ho (by cases op <;> simp [arithOf] at ho ⊢) t).congr hg
    · rename_i ho; exact (doArith_ok hs ho (by cases op <;> simp [arithOf] at ho ⊢) t).congr hg
    · rename_i o _ _ ho
      cases hk : keq k k'
      · trivial
      · simp only [cond_true]
        exact (doArith_ok hs ho (.inl (kn_inj hk)) t).congr hg
    · rename_i ho
      cases hk : keq k k'
      · trivial
      · simp only [cond_true]
        obtain rfl := kn_inj hk
        exact (doCmp_ok hs ho t).congr hg
  · rename_i l l'
    simp only [cav, Option.map_eq_some_iff] at hx hy
    obtain ⟨a, ha, rfl⟩ := hx
    obtain ⟨b, hb, rfl⟩ := hy
    split
    · rename_i neg ti ho hti
      cases hc : Nat.blt 0 ti.lf.length && lfq ti.lf l l'
      · trivial
      · simp only [cond_true]
        simp only [Bool.and_eq_true] at hc
        exact doEq_ok hs hty ho hti ha hb hc.1 hc.2 ox oy
    · trivial
  · rename_i a b
    simp only [cav, csv, Option.some.injEq] at hx hy; subst hx; subst hy
    split
    · rename_i neg ho
      have hgs : ∀ w, (eqGuard op t ox oy (.string a) (.string b)).run P w = .ok () w := fun w => by cases op <;> simp [eqGuard]
      have e1 : strq a b = (a.toList == b.toList) := by rw [strq_eq, beq_toListBytes]
      simp only [doEqR, e1]
      refine PSound.mk rfl fun w => ?_
      cases op <;> simp [isEq] at ho <;> subst ho
      · rw [guard hgs w]; rfl
      · rw [guard hgs w]; rfl
    · trivial
  · rename_i x y _
    split
    · rename_i neg ti ho hti
      obtain ⟨d, hd1, hd2⟩ := (hty t ti hti).und
      unfold doEqR
      split
      · rename_i r hr
        obtain ⟨q1, q2, q3⟩ := eqS_ok hs hd1 hd2 hr hx hy
        exact PSound.mk rfl fun w => by simp [Sem.run_bind, eqGuard_run op t ox oy q1 w, binOp_eq_run ho t q1 q2 w, q3 w]
      · rename_i e he
        exact (eqS_ask he).p _
    · trivial
  · trivial

theorem doUn_ok (hs : Sat E.V G) {op : UnOp} {x : AV} {vx : Value} (hx : cav E mu x = some vx) : PSound E P mu h (Op.unary op vx) (doUn G h op x) := by
  unfold doUn
  split
  · rename_i k a
    simp only [cav, csv, Option.some.injEq] at hx; subst hx
    exact PSound.mk (cv := .int k (k.wrap (0 - a.ev E.V.i))) (by simp [cav, csv, mk_ev hs, goOp, IT.ev]) fun w => by simp [Op.unary, Op.intArith]
  · rename_i k a
    simp only [cav, csv, Option.some.injEq] at hx; subst hx
    have e : ((bif k.signed then -1 else kmax k : Int)) = if k.signed then -1 else k.max := by
      cases k <;> simp [IntKind.signed, kmax, IntKind.max, IntKind.bits]
    exact PSound.mk (cv := .int k (goOp .xor k (if k.signed then -1 else k.max) (a.ev E.V.i))) (by simp [cav, csv, mk_ev hs, IT.ev, e]) fun w => by simp [Op.unary, Op.intBits, goOp]
  · split
    · rename_i b hb
      have := boolSV_ok (mu := mu) hs hb
      simp only [cav, this, Option.some.injEq] at hx; subst hx
      exact PSound.mk rfl fun w => by simp [Op.unary]
    · rename_i e he
      exact (boolSV_ask he).p _
  · trivial

theorem doConvert_ok (hs : Sat E.V G) (hty : TysOK P C) {src dst : Nat} {x : AV} {vx : Value} (hx : cav E mu x = some vx) : PSound E P mu h (convert src dst vx) (doConvert C G h src dst x) := by
  unfold doConvert
  split
  · rename_i si ti k a hsi hti
    simp only [cav, csv, Option.some.injEq] at hx; subst hx
    obtain ⟨d, hd1, hd2⟩ := (hty _ _ hsi).und
    obtain ⟨d', hd1', hd2'⟩ := (hty _ _ hti).und
    split
    · rename_i k1 k2 e1 e2
      rw [e1] at hd2; rw [e2] at hd2'
      cases d <;> simp [tdOf] at hd2
      cases d' <;> simp [tdOf] at hd2'
      rename_i k3 k4
      obtain rfl : k4 = k2 := hd2'
      exact PSound.mk (cv := .int k4 (k4.wrap (a.ev E.V.i))) (by simp [cav, csv, mk_ev hs, goOp]) fun w => by simp [convert, run_underlying hd1, run_underlying hd1', Conv.intToInt]
    · trivial
  · trivial
end
end Sx
