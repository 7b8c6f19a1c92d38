/- a part of the executor and of its soundness -/
import Derived.Test.YtehclnpgbgppeaaDoorSxF0
namespace Go.Proofs
open Go Sx
namespace FC
def bq (G : Gam) (x : SV) : Option Bool := match boolSV G x with
  | .ok b => some b
  | .error _ => none
def hval (j : Nat) (c z s o p : Bool) : Bool := match j with
  | 0 => o
  | 1 => c
  | 2 => z
  | 3 => c || z
  | 4 => s
  | 5 => p
  | 6 => s != o
  | _ => z || (s != o)
def hexp (G : Gam) (j : Nat) (c z s o p : SV) : Option Bool := match j with
  | 0 => bq G o
  | 1 => bq G c
  | 2 => bq G z
  | 3 => match bq G c with
    | some true => some true
    | some false => bq G z
    | none => none
  | 4 => bq G s
  | 5 => bq G p
  | 6 => match bq G s, bq G o with
    | some a, some b => some (a != b)
    | _, _ => none
  | _ => match bq G z with
    | some true => some true
    | some false => match bq G s, bq G o with
      | some a, some b => some (a != b)
      | _, _ => none
    | none => none
variable {E : Env} {mu : Mu} {G : Gam}
theorem bq_ok (hs : Sat E.V G) {x : SV} {a b : Bool} (hx : csv E mu x = some (.bool a)) (h : bq G x = some b) : b = a := by
  unfold bq at h
  split at h
  · rename_i b' hb
    cases h
    rw [boolSV_ok hs hb] at hx
    cases hx; rfl
  · cases h
theorem hexp_ok (hs : Sat E.V G) {j : Nat} {c z s o p : SV} {vc vz vs vo vp e : Bool} (hc : csv E mu c = some (.bool vc)) (hz : csv E mu z = some (.bool vz)) (hss : csv E mu s = some (.bool vs)) (ho : csv E mu o = some (.bool vo)) (hp : csv E mu p = some (.bool vp))
    (h : hexp G j c z s o p = some e) : e = hval j vc vz vs vo vp := by
  unfold hexp at h
  split at h
  · exact bq_ok hs ho h
  · exact bq_ok hs hc h
  · exact bq_ok hs hz h
  · split at h
    · rename_i h1; cases h; rw [← bq_ok hs hc h1]; rfl
    · rename_i h1; rw [bq_ok hs hz h, ← bq_ok hs hc h1] at *; simp [hval, ← bq_ok hs hc h1]
    · cases h
  · exact bq_ok hs hss h
  · exact bq_ok hs hp h
  · split at h
    · rename_i a b h1 h2; cases h; rw [bq_ok hs hss h1, bq_ok hs ho h2]; rfl
    · cases h
  · rename_i n0 n1 n2 n3 n4 n5 n6
    have hv : hval j vc vz vs vo vp = (vz || (vs != vo)) := by
      unfold hval
      split <;> first | rfl | (exfalso; simp_all)
    rw [hv]
    split at h
    · rename_i h1; cases h; rw [← bq_ok hs hz h1]; rfl
    · rename_i h1
      split at h
      · rename_i a b h2 h3; cases h; rw [← bq_ok hs hz h1, bq_ok hs hss h2, bq_ok hs ho h3]; rfl
      · cases h
    · cases h

def hidx (t : IT) : IT := .op .quo .u8 (.op .rem .u8 t (.c 16)) (.c 2)
def hodd (t : IT) : IT := .op .rem .u8 t (.c 2)
def hsem (n : Int) (c z s o p : Bool) : Bool := hval (goOp .quo .u8 (goOp .rem .u8 n 16) 2).toNat c z s o p != decide (goOp .rem .u8 n 2 = 1)
noncomputable def hleaf (o : Out) (s : St) : Bool := match o with
  | .v (.s x) => match bq s.gm x, res s.gm (hidx (.v 0)), eqq s.gm (hodd (.v 0)) (.c 1) with
    | some b, .c j, some r => match hexp s.gm j.toNat (.bv 0) (.bv 1) (.bv 2) (.bv 3) (.bv 4) with
      | some e => b == (e != r)
      | none => false
    | _, _, _ => false
  | _ => false
noncomputable def G8 : Gam := { bd := (T.e : T (Int × Int)).set 0 (0, 255), at_ := [] }
def fl (k : Nat) : AV := .agg [.bv k, .bv (k + 1), .bv (k + 2), .bv (k + 3), .bv (k + 4)]
theorem holdsRun : ex (Tryd.CX noSu) 20000 (.call 11 [fl 0, .s (.int .u8 (.v 0))]) (st0 G8) hleaf = true := by kernel_rfl

theorem satBd {V : Val} {l u : Int} (h1 : l ≤ V.i 0) (h2 : V.i 0 ≤ u) {at_ : List (Atom × Bool)} (h : ∀ p ∈ at_, p.1.ev V = p.2) : Sat V ⟨(T.e : T (Int × Int)).set 0 (l, u), at_⟩ := by
  refine ⟨fun i a b hi => ?_, h⟩
  by_cases e : i = 0
  · subst e; rw [T.get_set_same] at hi; cases hi; exact ⟨h1, h2⟩
  · rw [T.get_set_ne e, T.get_e] at hi; cases hi

theorem holds {W : World} (h : Tab W) {n : Int} (h1 : 0 ≤ n) (h2 : n ≤ 255) (c z s o p : Bool) :
    Calls Tryd.prog 11 #[.agg #[.bool c, .bool z, .bool s, .bool o, .bool p], .int .u8 n] W fun e w' => e = .returned (.bool (hsem n c z s o p)) ∧ Go.RowKit.Below W.heap.size W w' := by
  let V : Val := ⟨fun _ => n, fun i => match i with | 0 => c | 1 => z | 2 => s | 3 => o | _ => p⟩
  refine (ex_alone (h.good V) (vs := [.agg #[.bool c, .bool z, .bool s, .bool o, .bool p], .int .u8 n]) holdsRun (satBd h1 h2 (by simp)) rfl).mono ?_
  rintro e w' ⟨v, h', G', cv, mu', rfl, hk, hcv, _, hs, hb⟩
  refine ⟨?_, hb⟩
  cases v with
  | agg l => cases hk
  | tup l => cases hk
  | s x =>
    simp only [hleaf] at hk
    split at hk
    · rename_i b j r hb1 hj hr
      split at hk
      · rename_i e he
        have e1 := hexp_ok (E := ⟨V, fun g => g, W⟩) (mu := mu') (vc := c) (vz := z) (vs := s) (vo := o) (vp := p) hs rfl rfl rfl rfl rfl he
        have e2 := res_ev hs (hidx (.v 0))
        rw [hj] at e2
        have e3 := eqq_ok hs hr
        have e4 : b = (e != r) := by simpa using hk
        have hcx : csv ⟨V, fun g => g, W⟩ mu' x = some (.bool b) := by
          unfold bq at hb1
          split at hb1
          · rename_i hbb; cases hb1; exact boolSV_ok (E := ⟨V, fun g => g, W⟩) hs hbb
          · cases hb1
        simp only [cav] at hcv
        rw [hcx] at hcv
        cases hcv
        have e5 : j = goOp .quo .u8 (goOp .rem .u8 n 16) 2 := e2
        have e6 : r = decide (goOp .rem .u8 n 2 = 1) := e3
        rw [e4, e1, e5, e6]; rfl
      · cases hk
    · cases hk
end FC
end Go.Proofs
