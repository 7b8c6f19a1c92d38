/- a part of the executor and of its soundness -/
import Derived.Test.YtehclnpgbgppeaaDoorSxFL
import Derived.Test.YtehclnpgbgppeaaDoorSxR1
import Derived.Test.YtehclnpgbgppeaaDoorSxShelf
import Derived.WalkKit
import Derived.Deep.LoopGhost
import Derived.Lib.OwnBridge
import Derived.Sort.OwnSortedInts
import Derived.Sort.Grow
namespace Go.Proofs
open Go Sx Go.RowKit Go.Shelf Go.Sort
namespace FC
def Left (w : World) (zs : List Int) (e : Ending) (w' : World) : Prop :=
  ∃ g cap, e = .returned (.slice (some ⟨g, 0, none⟩) (sd zs).length cap) ∧ w'.ownsRow w.heap.size 3 1 (.slice (some ⟨g, 0, none⟩) (sd zs).length cap) (sd zs).length ((sd zs).map (Value.int .i64)) ∧ Go.RowKit.Below w.heap.size w w'

theorem left_of {w w1 : World} {g cap n nn q : Nat} {os : Array Obj} {ss : List Int} (hown : w1.ownsRow w.heap.size 3 1 (.slice (some ⟨g, 0, none⟩) n cap) n (ss.map (Value.int .i64))) (hbel : Go.RowKit.Below w.heap.size w w1) (hbg : w.heap.size ≤ g) (hlen : ss.length = n) :
    Left w ss (.returned (.slice (some ⟨g, 0, none⟩) (Lib.compact (ss.mergeSort fun x y => decide (x ≤ y))).length cap))
      (putRow (Value.int .i64) (Sort.ahead (grow (putRow (Value.int .i64) (Sort.ahead w1 nn) g 0 (ss.mergeSort fun x y => decide (x ≤ y)).toArray) os) q) g 0 (Lib.compact (ss.mergeSort fun x y => decide (x ≤ y)) ++ List.replicate (n - (Lib.compact (ss.mergeSort fun x y => decide (x ≤ y))).length) 0).toArray) := by
  have hl2 : (ss.mergeSort fun x y => decide (x ≤ y)).length = ss.length := List.length_mergeSort ss
  have hle := Lib.compact_length_le (ss.mergeSort fun x y => decide (x ≤ y))
  subst hlen
  rcases hown.2 with ⟨h0, _⟩ | ⟨g', cap', cur, hv, hbase, hb, h1, h2, h3, h4⟩
  · cases h0
  cases hv
  have hs := ownsRow_sortedI (n := nn) (os := os) (ts := ss.mergeSort fun x y => decide (x ≤ y)) hl2 hbase hb h1 h2 h3
  have hc := Lib.ownsRow_putRow (q := q) (k := (Lib.compact (ss.mergeSort fun x y => decide (x ≤ y))).length) (ys := Lib.compact (ss.mergeSort fun x y => decide (x ≤ y)) ++ List.replicate (ss.length - (Lib.compact (ss.mergeSort fun x y => decide (x ≤ y))).length) 0) hs (by simp; omega) (by omega)
  rw [List.take_left] at hc
  have hbel' := Lib.below_putRow (enc := Value.int .i64) (q := q) (d := (Lib.compact (ss.mergeSort fun x y => decide (x ≤ y)) ++ List.replicate (ss.length - (Lib.compact (ss.mergeSort fun x y => decide (x ≤ y))).length) 0).toArray) (hbel.grown (grownBy_sortedI (n := nn) (os := os) (ss.mergeSort fun x y => decide (x ≤ y)).toArray) hbel.size (fun j hj => by cases hj; exact hbase)) hbg
  rw [compact_sort] at hc hbel' ⊢
  exact ⟨g, cap, rfl, hc, hbel'⟩

set_option maxHeartbeats 2000000 in
set_option maxRecDepth 100000 in
theorem rising_tail (n : Nat) (arg : Value) (ss : List Int) (w : World) (hn : n ≤ 4611686018427387903)
    (hclone : Calls Tryd.prog 53 #[arg] w fun e w' => ∃ v', e = .returned v' ∧ w'.ownsRow w.heap.size 3 1 v' n (ss.map (Value.int .i64)) ∧ v' ≠ .slice none 0 0 ∧ Go.RowKit.Below w.heap.size w w') :
    Calls Tryd.prog 16 #[arg] w (Left w ss) := by
  go_enter Tryd.func16, Tryd.ntmps16
  go_wp2_with (first
    | (go_at_call 53; refine hclone.mono ?_; rintro e w1 ⟨v1, rfl, hown, hnn, hbel⟩
       obtain ⟨g, cap, rfl, hbg, hgl, hncap, hcm, hlen, hH⟩ := Lib.holds_of_ownsRow hown hnn
       have hsort := Tryd.slices_Sort_int g 0 cap ss w1 hH hgl (by omega)
       rw [hlen] at hsort
       have X : Aside (w1.ownsRow w.heap.size 3 1 (.slice (some ⟨g, 0, none⟩) n cap) n (ss.map (Value.int .i64)) ∧ Go.RowKit.Below w.heap.size w w1 ∧ w.heap.size ≤ g ∧ g < w1.heap.size ∧ n ≤ cap ∧ cap ≤ maxLen ∧ ss.length = n ∧ Holds (Value.int .i64) w1 g 0 ss.toArray) := ⟨hown, hbel, hbg, hgl, hncap, hcm, hlen, hH⟩
       clear hown hbel hH hnn hclone)
    | (go_at_call 54; refine hsort.mono ?_; rintro e w2 ⟨rfl, nn, os, rfl⟩
       have hl2 : (ss.mergeSort fun x y => decide (x ≤ y)).length = n := by rw [List.length_mergeSort]; exact X.out.2.2.2.2.2.2.1
       have hH2 : Holds (Value.int .i64) (grow (putRow (Value.int .i64) (Sort.ahead w1 nn) g 0 (ss.mergeSort fun x y => decide (x ≤ y)).toArray) os) g 0 (ss.mergeSort fun x y => decide (x ≤ y)).toArray :=
         holds_grow (Value.int .i64) _ os g 0 _ (by simpa [putRow, mapBlock, Sort.ahead] using X.out.2.2.2.1) (holds_putRow (Value.int .i64) _ g 0 _ _ (holds_ahead (Value.int .i64) w1 nn g 0 _ X.out.2.2.2.2.2.2.2) (by simp))
       have hcomp := Tryd.slices_Compact_int g 0 cap (ss.mergeSort fun x y => decide (x ≤ y)) _ hH2 (by omega) (by have := X.out.2.2.2.2.1; omega)
       rw [hl2] at hcomp
       clear hH2 hsort)
    | (go_at_call 55; refine hcomp.mono ?_; rintro e w3 ⟨rfl, q, rfl⟩))
  go_ret
  exact left_of X.out.1 X.out.2.1 X.out.2.2.1 X.out.2.2.2.2.2.2.1

theorem rising (b off n c : Nat) (zs : List Int) (w : World) (hz : n ≤ zs.length) (hbig : n * 8 ≤ 140737488355328) (hc : ∀ j, j < zs.length → w.cell? ⟨b, off + j, none⟩ = some (.int .i64 (zs.getD j 0))) :
    Calls Tryd.prog 16 #[.slice (some ⟨b, off, none⟩) n c] w (Left w (zs.take n)) :=
  rising_tail n _ _ w (by omega) (Tryd.slices_Clone_int b off n c zs w hz hbig hc)
end FC
end Go.Proofs
