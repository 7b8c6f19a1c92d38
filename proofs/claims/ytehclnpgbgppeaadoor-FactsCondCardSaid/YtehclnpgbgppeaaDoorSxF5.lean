/- a part of the executor and of its soundness -/
import Derived.Test.YtehclnpgbgppeaaDoorSxF4
namespace Go.Proofs
open Go Sx
namespace FC
theorem satGC {V : Val} {n : Int} (hn : V.i 0 = n) (h1 : 0 ≤ n) (h2 : n ≤ 255) : ∃ k : Nat, k < 16 ∧ Sat V (GC k) := by
  obtain ⟨m, rfl⟩ : ∃ m : Nat, n = m := ⟨n.toNat, by omega⟩
  have hm : m < 256 := by omega
  have key : ∀ m : Fin 256, goOp .rem .u8 (m.val : Int) 16 = ((m.val % 16 : Nat) : Int) ∧ goOp .rem .u8 (m.val : Int) 2 = ((m.val % 16 : Nat) : Int) % 2 ∧
      goOp .rem .u8 (goOp .xor .u8 (m.val : Int) 1) 16 = ((m.val % 16 : Nat) : Int) + 1 - 2 * (((m.val % 16 : Nat) : Int) % 2) := by decide +kernel
  obtain ⟨k1, k2, k3⟩ := key ⟨m, hm⟩
  refine ⟨m % 16, Nat.mod_lt _ (by decide), satBd (by omega) (by omega) ?_⟩
  intro p hp
  simp only [List.mem_cons, List.not_mem_nil, or_false] at hp
  rcases hp with rfl | rfl | rfl
  · simp only [Atom.ev, IT.ev, hn]; exact decide_eq_true k1
  · simp only [Atom.ev, IT.ev, hn]; exact decide_eq_true k2
  · simp only [Atom.ev, IT.ev, hn]; exact decide_eq_true k3

theorem condRun : ∀ k : Nat, k < 16 → ex (Tryd.CX su2) 20000 (.call 4 [fl 0, fl 5, .s (.int .u8 (.v 0))]) (st0 (GC k)) (endv isT) = true
  | 0, _ => condRun0 | 1, _ => condRun1 | 2, _ => condRun2 | 3, _ => condRun3 | 4, _ => condRun4 | 5, _ => condRun5 | 6, _ => condRun6 | 7, _ => condRun7
  | 8, _ => condRun8 | 9, _ => condRun9 | 10, _ => condRun10 | 11, _ => condRun11 | 12, _ => condRun12 | 13, _ => condRun13 | 14, _ => condRun14 | 15, _ => condRun15
  | n + 16, h => by omega

/-- FactsCond: whatever the flags and the condition. -/
theorem cond {W : World} (h : Tab W) {n : Int} (h1 : 0 ≤ n) (h2 : n ≤ 255) (b : Nat → Bool) :
    Calls Tryd.prog 4 #[.agg #[.bool (b 0), .bool (b 1), .bool (b 2), .bool (b 3), .bool (b 4)], .agg #[.bool (b 5), .bool (b 6), .bool (b 7), .bool (b 8), .bool (b 9)], .int .u8 n] W
      fun e w' => e = .returned (.bool true) ∧ Go.RowKit.Below W.heap.size W w' := by
  let V : Val := ⟨fun _ => n, b⟩
  obtain ⟨k, hk, hs⟩ := satGC (V := V) (n := n) rfl h1 h2
  have g : Sx.Good ⟨V, fun g => g, W⟩ Tryd.prog (Tryd.CX su2) := ⟨Tryd.tys _, h.old _ V, Tryd.fns _, su2_ok h V, Tryd.mixed⟩
  refine (ex_alone g (vs := [.agg #[.bool (b 0), .bool (b 1), .bool (b 2), .bool (b 3), .bool (b 4)], .agg #[.bool (b 5), .bool (b 6), .bool (b 7), .bool (b 8), .bool (b 9)], .int .u8 n]) (condRun k hk) hs rfl).mono ?_
  rintro e w' ⟨v, h', G', cv, mu', rfl, hkv, hcv, _, _, hb⟩
  refine ⟨?_, hb⟩
  simp only [endv] at hkv
  match v, hkv with
  | .s (.bool b), hkv =>
    simp only [isT] at hkv
    subst hkv
    simp only [cav, csv, Option.some.injEq] at hcv
    rw [← hcv]
end FC
end Go.Proofs
