/- a part of the executor and of its soundness -/
import Derived.Test.YtehclnpgbgppeaaDoorSxS1
namespace Go.Proofs
open Go Sx
namespace FC
noncomputable section
def isBx : SV → Bool
  | .bool _ | .bv _ => true
  | _ => false
def opq (G : Gam) : List (Option IntKind) → List SV → Bool
  | [], [] => true
  | some k :: ks, .int k' t :: l => keq k k' && (match rng G t with
    | some (a, b) => ile (kmin k) a && ile b (kmax k)
    | none => false) && opq G ks l
  | none :: ks, x :: l => isBx x && opq G ks l
  | _, _ => false
theorem opq_ok {E : Env} {mu : Mu} {G : Gam} (hs : Sat E.V G) : ∀ {ks : List (Option IntKind)} {l : List SV} {vs : List Value} (i : Nat), opq G ks l = true → csvs E mu l = some vs → ∀ (F : Nat → Int) (B : Nat → Bool),
    (∀ (j : Nat) (v : Value), vs[j]? = some v → F (i + j) = valF v ∧ B (i + j) = valB v) → vs = flatV F B i ks ∧ ∀ (j : Nat) (k : IntKind), ks[j]? = some (some k) → k.has (F (i + j))
  | [], [], vs, i, _, hv, F, B, _ => by
    simp [om] at hv; subst hv
    exact ⟨rfl, by simp⟩
  | some k :: ks, x :: l, vs, i, hq, hv, F, B, hF => by
    cases x <;> try (simp only [opq] at hq; cases hq; done)
    rename_i k' t
    simp only [opq, Bool.and_eq_true] at hq
    obtain ⟨⟨hk, hr⟩, hq⟩ := hq
    obtain rfl := kn_inj hk
    obtain ⟨y, ys, h1, h2, rfl⟩ := om_cons.1 hv
    simp only [csv, Option.some.injEq] at h1; subst h1
    obtain ⟨e1, e2⟩ := opq_ok hs (i + 1) hq h2 F B (fun j v hj => by have := hF (j + 1) v (by simpa using hj); rwa [show i + (j + 1) = i + 1 + j by omega] at this)
    have h0 := hF 0 _ rfl
    rw [Nat.add_zero] at h0
    refine ⟨by rw [flatV, ← e1, h0.1]; rfl, fun j k2 hj => ?_⟩
    cases j with
    | zero =>
      simp at hj; subst hj
      rw [Nat.add_zero, h0.1]
      split at hr
      · rename_i a b hab
        simp only [Bool.and_eq_true] at hr
        have b1 := (ile_iff _ _).1 hr.1
        have b2 := (ile_iff _ _).1 hr.2
        obtain ⟨c1, c2⟩ := rng_ok hs _ _ _ hab
        unfold IntKind.has
        rw [kmin_eq, kmax_eq]
        exact ⟨Int.le_trans b1 c1, Int.le_trans c2 b2⟩
      · cases hr
    | succ j =>
      have := e2 j k2 (by simpa using hj)
      rwa [show i + 1 + j = i + (j + 1) by omega] at this
  | none :: ks, x :: l, vs, i, hq, hv, F, B, hF => by
    simp only [opq, Bool.and_eq_true] at hq
    obtain ⟨hb, hq⟩ := hq
    obtain ⟨y, ys, h1, h2, rfl⟩ := om_cons.1 hv
    obtain ⟨e1, e2⟩ := opq_ok hs (i + 1) hq h2 F B (fun j v hj => by have := hF (j + 1) v (by simpa using hj); rwa [show i + (j + 1) = i + 1 + j by omega] at this)
    have h0 := hF 0 _ rfl
    rw [Nat.add_zero] at h0
    have hy : ∃ b, y = .bool b := by
      cases x <;> simp only [isBx] at hb <;> first | (cases hb; done) | skip
      · simp only [csv, Option.some.injEq] at h1; exact ⟨_, h1.symm⟩
      · simp only [csv, Option.some.injEq] at h1; exact ⟨_, h1.symm⟩
    obtain ⟨b, rfl⟩ := hy
    refine ⟨by rw [flatV, ← e1, h0.2]; rfl, fun j k2 hj => ?_⟩
    cases j with
    | zero => simp at hj
    | succ j =>
      have := e2 j k2 (by simpa using hj)
      rwa [show i + 1 + j = i + (j + 1) by omega] at this
  | [], _ :: _, _, _, hq, _, _, _, _ => by cases hq
  | some _ :: _, [], _, _, hq, _, _, _, _ => by cases hq
  | none :: _, [], _, _, hq, _, _, _, _ => by cases hq

def both (h : Hp) (G : Gam) : List (AV × Hp × Gam) := [(.s (.bool true), h, G), (.s (.bool false), h, G)]
def suIs (f : Nat) (args : List AV) (h : Hp) (G : Gam) : Option (List (AV × Hp × Gam)) :=
  match f, args with
  | 20, [.agg op, .s (.str s)] => bif opq G kop op && kwords.any (strq s) then some (both h G) else none
  | _, _ => none
theorem suIs_ok {W : World} (ht : Tab W) (V : Val) : SuOK ⟨V, fun g => g, W⟩ Tryd.prog (Tryd.CX suIs) := by
  refine ⟨fun f args h G outs hsu mu w vs m R hh hg hv hR => ?_⟩
  have htw : Tab w := ht.past hh.below
  have hsu : suIs f args h G = some outs := hsu
  unfold suIs at hsu
  split at hsu
  · rename_i op s _
    cases hb : opq G kop op && kwords.any (strq s) with
    | false => rw [hb] at hsu; cases hsu
    | true =>
      rw [hb] at hsu
      simp only [cond_true, Option.some.injEq] at hsu
      simp only [Bool.and_eq_true] at hb
      obtain ⟨hq, hk⟩ := hb
      obtain ⟨t, ht1, ht2⟩ := List.any_eq_true.1 hk
      have ht3 : s = t := by
        unfold strq at ht2
        rw [u8sBeq_eq] at ht2
        exact ByteArray.ext (Array.ext' (eq_of_beq ht2))
      subst ht3
      obtain ⟨fv, r2, hf, hr2, rfl⟩ := om_cons.1 hv
      obtain ⟨nv, r3, hn, hr3, rfl⟩ := om_cons.1 hr2
      simp [om] at hr3; subst hr3
      simp only [cav, csv, Option.some.injEq] at hn; subst hn
      simp only [cav, Option.map_eq_some_iff] at hf
      obtain ⟨l8, hl8, rfl⟩ := hf
      obtain ⟨e1, e2⟩ := opq_ok (E := ⟨V, fun g => g, W⟩) (mu := mu) hg 0 hq hl8 (fun j => valF (l8.getD j default)) (fun j => valB (l8.getD j default)) (fun j v hj => by simp [List.getD, hj])
      rw [e1]
      refine CallsIn.mono (callsIn_wide.2 (isAny htw _ (fun j k hj => by have := e2 j k hj; simpa using this) ht1)) ?_
      rintro e w' ⟨b, rfl, hbel⟩
      refine hR (.s (.bool b)) h G _ w' mu ?_ (Mu.le_refl _) rfl (hh.past hbel) hg
      rw [← hsu]
      cases b <;> simp [both]
  · cases hsu

def kin : List (Option IntKind) := [some .u8, some .u8, some .i64, some .u8, some .i64, some .i64, some .i64, some .i64, some .i64, none, some .i64, some .u8, some .i64, some .i64, some .i64, some .i64, some .i64, none, some .i64, some .u8, some .i64]
def inV : List SV := [.int .u8 (.v 0), .int .u8 (.v 1), .int .i64 (.v 2), .int .u8 (.v 3), .int .i64 (.v 4), .int .i64 (.v 5), .int .i64 (.v 6), .int .i64 (.v 7), .int .i64 (.v 8), .bv 9, .int .i64 (.v 10),
  .int .u8 (.v 11), .int .i64 (.v 12), .int .i64 (.v 13), .int .i64 (.v 14), .int .i64 (.v 15), .int .i64 (.v 16), .bv 17, .int .i64 (.v 18), .int .u8 (.v 19), .int .i64 (.v 20)]
end
end FC
end Go.Proofs
