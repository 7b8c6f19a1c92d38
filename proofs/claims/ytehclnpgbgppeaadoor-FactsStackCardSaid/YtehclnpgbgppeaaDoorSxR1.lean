/- a part of the executor and of its soundness -/
import Derived.Test.YtehclnpgbgppeaaDoorSxE
import Derived.Lib.SlicesCompact
import Derived.Sort.Row
namespace Sx
open Go
/-! ### Sorted, each once: the library's words are ours -/
theorem insI_mem (x : Int) : ∀ (l : List Int) (y : Int), y ∈ insI x l ↔ y = x ∨ y ∈ l
  | [], y => by simp [insI]
  | z :: l, y => by
    simp only [insI]
    by_cases e : x = z
    · subst e; simp
    · rw [if_neg e]
      by_cases h : x < z
      · rw [if_pos h]; simp
      · rw [if_neg h, List.mem_cons, insI_mem x l y, List.mem_cons]
        constructor
        · rintro (h | h | h)
          · exact .inr (.inl h)
          · exact .inl h
          · exact .inr (.inr h)
        · rintro (h | h | h)
          · exact .inr (.inl h)
          · exact .inl h
          · exact .inr (.inr h)
theorem insI_rise (x : Int) : ∀ (l : List Int), l.Pairwise (· < ·) → (insI x l).Pairwise (· < ·)
  | [], _ => by simp [insI]
  | z :: l, h => by
    have h1 := List.pairwise_cons.1 h
    simp only [insI]
    by_cases e : x = z
    · subst e; simpa using h
    · rw [if_neg e]
      by_cases g : x < z
      · rw [if_pos g]
        refine List.pairwise_cons.2 ⟨fun y hy => ?_, h⟩
        rcases List.mem_cons.1 hy with rfl | hy
        · exact g
        · exact Int.lt_trans g (h1.1 y hy)
      · rw [if_neg g]
        refine List.pairwise_cons.2 ⟨fun y hy => ?_, insI_rise x l h1.2⟩
        rcases (insI_mem x l y).1 hy with rfl | hy
        · omega
        · exact h1.1 y hy
theorem sd_mem : ∀ (l : List Int) (y : Int), y ∈ sd l ↔ y ∈ l
  | [], y => by simp [sd]
  | x :: l, y => by simp [sd, insI_mem, sd_mem l y]
theorem sd_rise : ∀ (l : List Int), (sd l).Pairwise (· < ·)
  | [] => by simp [sd]
  | x :: l => insI_rise x _ (sd_rise l)
theorem rise_eq : ∀ {a b : List Int}, a.Pairwise (· < ·) → b.Pairwise (· < ·) → (∀ x, x ∈ a ↔ x ∈ b) → a = b
  | [], [], _, _, _ => rfl
  | [], y :: b, _, _, h => by have := (h y).2 (by simp); simp at this
  | x :: a, [], _, _, h => by have := (h x).1 (by simp); simp at this
  | x :: a, y :: b, ha, hb, h => by
    have ha := List.pairwise_cons.1 ha
    have hb := List.pairwise_cons.1 hb
    have e : x = y := by
      have h1 := (h x).1 (by simp)
      have h2 := (h y).2 (by simp)
      rcases List.mem_cons.1 h1 with h1 | h1
      · exact h1
      · rcases List.mem_cons.1 h2 with h2 | h2
        · exact h2.symm
        · have := ha.1 _ h2; have := hb.1 _ h1; omega
    subst e
    congr 1
    refine rise_eq ha.2 hb.2 fun z => ?_
    have hz := h z
    simp only [List.mem_cons] at hz
    constructor
    · intro hm
      rcases hz.1 (.inr hm) with rfl | h'
      · exact absurd (ha.1 _ hm) (by omega)
      · exact h'
    · intro hm
      rcases hz.2 (.inr hm) with rfl | h'
      · exact absurd (hb.1 _ hm) (by omega)
      · exact h'

theorem upTo_rise (d : Array Int) (hd : ∀ i j, i ≤ j → j < d.size → d[i]! ≤ d[j]!) : ∀ m, m ≤ d.size → (Lib.compactUpTo d m).Pairwise (· < ·) ∧ ∀ x, x ∈ Lib.compactUpTo d m ↔ ∃ j, j < m ∧ d[j]! = x
  | 0, _ => by simp [Lib.compactUpTo]
  | m + 1, hm => by
    obtain ⟨h1, h2⟩ := upTo_rise d hd m (by omega)
    rw [Lib.compactUpTo_succ]
    cases hk : Lib.keeps d m with
    | true =>
      simp only [if_true]
      constructor
      · refine List.pairwise_append.2 ⟨h1, by simp, fun x hx y hy => ?_⟩
        simp only [List.mem_singleton] at hy
        subst hy
        obtain ⟨j, hj, rfl⟩ := (h2 x).1 hx
        have a1 := hd j (m - 1) (by omega) (by omega)
        have a2 := hd (m - 1) m (by omega) (by omega)
        have a3 : d[m]! ≠ d[m - 1]! := fun e => by
          rw [Lib.keeps_neg (by omega) e] at hk; cases hk
        omega
      · intro x
        rw [List.mem_append, h2]
        simp only [List.mem_singleton]
        constructor
        · rintro (⟨j, hj, rfl⟩ | rfl)
          · exact ⟨j, by omega, rfl⟩
          · exact ⟨m, by omega, rfl⟩
        · rintro ⟨j, hj, rfl⟩
          by_cases e : j = m
          · subst e; exact .inr rfl
          · exact .inl ⟨j, by omega, rfl⟩
    | false =>
      simp only [Bool.false_eq_true, if_false, List.append_nil]
      refine ⟨h1, fun x => ?_⟩
      rw [h2]
      constructor
      · rintro ⟨j, hj, rfl⟩; exact ⟨j, by omega, rfl⟩
      · rintro ⟨j, hj, rfl⟩
        by_cases e : j = m
        · subst e
          have hj0 : j ≠ 0 := fun e0 => by subst e0; rw [Lib.keeps_lt_one d 0 (by omega)] at hk; cases hk
          refine ⟨j - 1, by omega, ?_⟩
          by_cases e : d[j]! = d[j - 1]!
          · exact e.symm
          · rw [Lib.keeps_pos e] at hk; cases hk
        · exact ⟨j, by omega, rfl⟩

theorem compact_sort (zs : List Int) : Lib.compact (zs.mergeSort fun x y => decide (x ≤ y)) = sd zs := by
  have hp : (zs.mergeSort fun x y => decide (x ≤ y)).Pairwise (fun x y => decide (x ≤ y) = true) :=
    List.pairwise_mergeSort (fun a b c h1 h2 => by simp only [decide_eq_true_eq] at *; omega) (fun a b => by simp only [Bool.or_eq_true, decide_eq_true_eq]; omega) zs
  generalize hl : (zs.mergeSort fun x y => decide (x ≤ y)) = l at hp
  have hm : ∀ x, x ∈ l ↔ x ∈ zs := fun x => by rw [← hl]; exact List.mem_mergeSort
  have hd : ∀ i j, i ≤ j → j < l.toArray.size → l.toArray[i]! ≤ l.toArray[j]! := fun i j hij hj => by
    have hj' : j < l.length := by simpa using hj
    rcases Nat.lt_or_ge i j with h | h
    · have := List.pairwise_iff_getElem.1 hp i j (by omega) hj' h
      simp only [decide_eq_true_eq] at this
      simpa [getElem!_pos, hj', show i < l.length by omega] using this
    · obtain rfl : i = j := by omega
      exact Int.le_refl _
  obtain ⟨h1, h2⟩ := upTo_rise l.toArray hd l.length (by simp)
  refine rise_eq h1 (sd_rise zs) fun x => ?_
  show x ∈ Lib.compactUpTo l.toArray l.length ↔ _
  rw [h2, sd_mem, ← hm x]
  constructor
  · rintro ⟨j, hj, rfl⟩
    simp [getElem!_pos, hj]
  · intro hx
    obtain ⟨j, hj, rfl⟩ := List.getElem_of_mem hx
    exact ⟨j, hj, by simp [getElem!_pos, hj]⟩
end Sx
