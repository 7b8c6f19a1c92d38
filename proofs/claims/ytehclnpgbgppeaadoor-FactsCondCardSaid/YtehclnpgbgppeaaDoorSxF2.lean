/- a part of the executor and of its soundness -/
import Derived.Test.YtehclnpgbgppeaaDoorSxF1
namespace Go.Proofs
open Go Sx
namespace FC
noncomputable section
abbrev Outs := List (AV × Hp × Gam)
def isB : SV → Bool
  | .bool _ | .bv _ => true
  | _ => false
def forkB (G : Gam) (x : SV) (k : Bool → Gam → Outs) : Outs := match boolSV G x with
  | .ok b => k b G
  | .error _ => match x with
    | .bv i => (match take G (.bv i) true with
        | some G' => k true G'
        | none => []) ++ (match take G (.bv i) false with
        | some G' => k false G'
        | none => [])
    | _ => []
def hfork (j : Nat) (G : Gam) (c z s o p : SV) (k : Bool → Gam → Outs) : Outs := match j with
  | 0 => forkB G o k
  | 1 => forkB G c k
  | 2 => forkB G z k
  | 3 => forkB G c fun a G => bif a then k true G else forkB G z k
  | 4 => forkB G s k
  | 5 => forkB G p k
  | 6 => forkB G s fun a G => forkB G o fun b G => k (a != b) G
  | _ => forkB G z fun a G => bif a then k true G else forkB G s fun a G => forkB G o fun b G => k (a != b) G
def su2 (f : Nat) (args : List AV) (h : Hp) (G : Gam) : Option Outs :=
  match f, args with
  | 6, [] => some [(.s (.bool true), h, G)]
  | 11, [.agg [c, z, s, o, p], .s (.int .u8 t)] => match rng G t, res G (.op .rem .u8 t (.c 16)), eqq G (hodd t) (.c 1) with
    | some (l, u), .c m, some r => bif ile 0 l && ile u 255 && isB c && isB z && isB s && isB o && isB p then some (hfork (goOp .quo .u8 m 2).toNat G c z s o p fun b G => [(.s (.bool (b != r)), h, G)]) else none
    | _, _, _ => none
  | _, _ => none
section
variable {E : Env} {mu : Mu} {G : Gam}
theorem forkB_ok (hs : Sat E.V G) {x : SV} {b : Bool} (hB : isB x = true) (hx : csv E mu x = some (.bool b)) (k : Bool → Gam → Outs) : ∃ G', Sat E.V G' ∧ ∀ y ∈ k b G', y ∈ forkB G x k := by
  unfold forkB
  split
  · rename_i b' hb
    rw [boolSV_ok hs hb] at hx
    cases hx
    exact ⟨G, hs, fun y hy => hy⟩
  · rename_i he
    cases x <;> try (cases hB; done)
    case bool b' => simp [boolSV] at he
    case bv i =>
      simp only [csv, Option.some.injEq, Value.bool.injEq] at hx
      obtain ⟨G', h1, h2⟩ := take_ok (a := .bv i) (r := b) hs hx
      refine ⟨G', h2, fun y hy => ?_⟩
      simp only [List.mem_append]
      cases b
      · right; rw [h1]; exact hy
      · left; rw [h1]; exact hy
theorem isB_val {x : SV} {v : Value} (hB : isB x = true) (hx : csv E mu x = some v) : ∃ b, v = .bool b := by
  cases x <;> try (cases hB; done)
  · simp only [csv, Option.some.injEq] at hx; exact ⟨_, hx.symm⟩
  · simp only [csv, Option.some.injEq] at hx; exact ⟨_, hx.symm⟩
theorem hfork_ok (hs : Sat E.V G) {c z s o p : SV} {vc vz vs vo vp : Bool} (bc : isB c = true) (bz : isB z = true) (bs : isB s = true) (bo : isB o = true) (bp : isB p = true) (hc : csv E mu c = some (.bool vc)) (hz : csv E mu z = some (.bool vz)) (hss : csv E mu s = some (.bool vs)) (ho : csv E mu o = some (.bool vo)) (hp : csv E mu p = some (.bool vp))
    (j : Nat) (k : Bool → Gam → Outs) : ∃ G', Sat E.V G' ∧ ∀ y ∈ k (hval j vc vz vs vo vp) G', y ∈ hfork j G c z s o p k := by
  have xr : ∀ {G : Gam}, Sat E.V G → ∃ G', Sat E.V G' ∧ ∀ y ∈ k (vs != vo) G', y ∈ (forkB G s fun a G => forkB G o fun b G => k (a != b) G) := fun {G} hs => by
    obtain ⟨G1, s1, e1⟩ := forkB_ok hs bs hss (fun a G => forkB G o fun b G => k (a != b) G)
    obtain ⟨G2, s2, e2⟩ := forkB_ok s1 bo ho (fun b G => k (vs != b) G)
    exact ⟨G2, s2, fun y hy => e1 y (e2 y hy)⟩
  unfold hfork
  split
  · exact forkB_ok hs bo ho k
  · exact forkB_ok hs bc hc k
  · exact forkB_ok hs bz hz k
  · obtain ⟨G1, s1, e1⟩ := forkB_ok hs bc hc (fun a G => bif a then k true G else forkB G z k)
    cases vc with
    | true => exact ⟨G1, s1, fun y hy => e1 y hy⟩
    | false =>
      obtain ⟨G2, s2, e2⟩ := forkB_ok s1 bz hz k
      exact ⟨G2, s2, fun y hy => e1 y (e2 y hy)⟩
  · exact forkB_ok hs bs hss k
  · exact forkB_ok hs bp hp k
  · exact xr hs
  · rename_i n0 n1 n2 n3 n4 n5 n6
    have hv : hval j vc vz vs vo vp = (vz || (vs != vo)) := by
      unfold hval
      split <;> first | rfl | (exfalso; simp_all)
    rw [hv]
    obtain ⟨G1, s1, e1⟩ := forkB_ok hs bz hz (fun a G => bif a then k true G else forkB G s fun a G => forkB G o fun b G => k (a != b) G)
    cases vz with
    | true => exact ⟨G1, s1, fun y hy => e1 y hy⟩
    | false =>
      obtain ⟨G2, s2, e2⟩ := xr s1
      exact ⟨G2, s2, fun y hy => e1 y (e2 y hy)⟩
end

theorem csv_bool {E : Env} {mu : Mu} {l : List SV} {vs : List Value} (h : csvs E mu l = some vs) : vs.length = l.length := om_length h

theorem su2_ok {W : World} (ht : Tab W) (V : Val) : SuOK ⟨V, fun g => g, W⟩ Tryd.prog (Tryd.CX su2) := by
  refine ⟨fun f args h G outs hsu mu w vs m R hh hg hv hR => ?_⟩
  have htw : Tab w := ht.past hh.below
  have hsu : su2 f args h G = some outs := hsu
  unfold su2 at hsu
  split at hsu
  · cases hsu
    simp [om] at hv; subst hv
    refine CallsIn.mono (callsIn_wide.2 (wakes htw)) ?_
    rintro e w' ⟨rfl, hb⟩
    exact hR _ h G _ w' mu (List.mem_singleton.2 rfl) (Mu.le_refl _) rfl (hh.past hb) hg
  · rename_i c z s o p t _
    split at hsu
    · rename_i l u mm r hr hm hq
      cases hb : ile 0 l && ile u 255 && isB c && isB z && isB s && isB o && isB p with
      | false => rw [hb] at hsu; cases hsu
      | true =>
        rw [hb] at hsu
        simp only [cond_true, Option.some.injEq] at hsu
        simp only [Bool.and_eq_true] at hb
        obtain ⟨⟨⟨⟨⟨⟨a1, a2⟩, bc⟩, bz⟩, bs⟩, bo⟩, bp⟩ := hb
        have b1 := (ile_iff _ _).1 a1
        have b2 := (ile_iff _ _).1 a2
        have br : l ≤ t.ev V.i ∧ t.ev V.i ≤ u := rng_ok hg _ _ _ hr
        obtain ⟨fv, r2, hf, hr2, rfl⟩ := om_cons.1 hv
        obtain ⟨nv, r3, hn, hr3, rfl⟩ := om_cons.1 hr2
        simp [om] at hr3; subst hr3
        simp only [cav, csv, Option.some.injEq] at hn; subst hn
        simp only [cav, Option.map_eq_some_iff] at hf
        obtain ⟨l5, hl5, rfl⟩ := hf
        obtain ⟨x1, q1, e1, hq1, rfl⟩ := om_cons.1 hl5
        obtain ⟨x2, q2, e2, hq2, rfl⟩ := om_cons.1 hq1
        obtain ⟨x3, q3, e3, hq3, rfl⟩ := om_cons.1 hq2
        obtain ⟨x4, q4, e4, hq4, rfl⟩ := om_cons.1 hq3
        obtain ⟨x5, q5, e5, hq5, rfl⟩ := om_cons.1 hq4
        simp [om] at hq5; subst hq5
        obtain ⟨v1, rfl⟩ := isB_val bc e1
        obtain ⟨v2, rfl⟩ := isB_val bz e2
        obtain ⟨v3, rfl⟩ := isB_val bs e3
        obtain ⟨v4, rfl⟩ := isB_val bo e4
        obtain ⟨v5, rfl⟩ := isB_val bp e5
        have em := res_ev hg (.op .rem .u8 t (.c 16))
        rw [hm] at em
        have em : mm = goOp .rem .u8 (t.ev V.i) 16 := em
        have er : r = decide (goOp .rem .u8 (t.ev V.i) 2 = 1) := eqq_ok hg hq
        obtain ⟨G', s', hin⟩ := hfork_ok (E := ⟨V, fun g => g, W⟩) (mu := mu) hg bc bz bs bo bp e1 e2 e3 e4 e5 (goOp .quo .u8 mm 2).toNat (fun b G => [(.s (.bool (b != r)), h, G)])
        refine CallsIn.mono (callsIn_wide.2 (holds htw (n := t.ev V.i) (by omega) (by omega) v1 v2 v3 v4 v5)) ?_
        rintro e w' ⟨rfl, hbel⟩
        refine hR (.s (.bool (hval (goOp .quo .u8 mm 2).toNat v1 v2 v3 v4 v5 != r))) h G' _ w' mu ?_ (Mu.le_refl _) ?_ (hh.past hbel) s'
        · rw [← hsu]; exact hin _ (List.mem_singleton.2 rfl)
        · simp only [cav, csv, hsem, em, er]
    · cases hsu
  · cases hsu
end
end FC
end Go.Proofs
