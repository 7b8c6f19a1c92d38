/- a part of the executor and of its soundness -/
import Derived.Test.YtehclnpgbgppeaaDoorSxY
import Derived.WalkKit
import Derived.ProofKit
import Derived.OpenShut
import Derived.Deep.DeepHandedRow
import Derived.Lib.LaidTab
import Derived.WideKeyArgs
namespace Sx
open Go Go.ChangeShapes Go.WideShapes Go.ChangeAt Go.RowKit

section
variable {H : Type} {enc : TypeId × Value → H} {P : Program}

/-- A reading that stays, types in a row. -/
theorem trodAll_stays (hl : laidOutB P = true) : ∀ {ts : List TypeId} {W W' : World} {sp : Nat → Bool} {vs : List Value} {ds : List (DataW H)} {ps : List MemPlace}, (ts.all fun t => P.readableRec t && decide (t < P.types.size)) = true →
    DataW.TrodAll enc P W 0 (fun _ => true) true ts vs ds ps → (∀ p ∈ ps, W.sameAt W' p) → (∀ p ∈ ps, sp p.block = true) → DataW.TrodAll enc P W' 0 sp true ts vs ds ps
  | [], W, W', sp, vs, ds, ps, _, h, _, _ => by
    obtain ⟨rfl, rfl, rfl⟩ := trodAll_nil h
    exact rfl
  | t :: ts, W, W', sp, vs, ds, ps, hc, h, hs, hsp => by
    obtain ⟨v, vs', d, ds', p, q, rfl, rfl, rfl, h1, h2⟩ := trodAll_cons h
    simp only [List.all_cons, Bool.and_eq_true, decide_eq_true_eq] at hc
    exact ⟨p, q, WideElems.Trod_stays hl hc.1.1 hc.1.2 h1 (fun x hx => hs x (List.mem_append_left _ hx)) (fun x hx => hsp x (List.mem_append_left _ hx)),
      trodAll_stays hl hc.2 h2 (fun x hx => hs x (List.mem_append_right _ hx)) (fun x hx => hsp x (List.mem_append_right _ hx)), rfl⟩

/-- What a law's row asks behind a call that answered true and turned nothing that was there. -/
theorem law_post {f : Func} {s : ChangeSpec} {apart : Bool} {W W' : World} {args : Array Value} {ds gs : List (DataW H)} {before : List MemPlace} {tb : TypeId} (hl : laidOutB P = true)
    (hW : DataW.Whole enc P f.params.toList s.vars apart W args.toList ds gs before) (hvs : s.vars = []) (hfn : (s.fn H (ds ++ gs)) = { results := [.lit (.bool true)], args := ds })
    (hp : (f.params.toList.all fun t => P.readableRec t && decide (t < P.types.size)) = true) (hb : Below W.heap.size W W') (hr : f.resultTypes = #[tb]) (htb : P.underlying tb = some .bool) :
    s.post enc P f apart true false false W args (.bool true) W' := by
  have hlt : ∀ p ∈ before, p.block < W.heap.size := fun p hp => by simpa using hW.lt p hp
  have hold : ∀ p ∈ before, (fun b => decide (b < W.heap.size)) p.block = true := fun p hp => by simpa using hlt p hp
  have hW' := hW
  obtain ⟨p, q, hA, hV, rfl, hz, hn⟩ := hW
  rw [hvs] at hV
  obtain ⟨rfl, rfl⟩ := trodVars_none hV
  have hargs : ∀ sp : Nat → Bool, (∀ x ∈ p, sp x.block = true) → DataW.TrodAll enc P W' 0 sp true f.params.toList args.toList ds p := fun sp hsp =>
    trodAll_stays hl hp hA (fun x hx => hb.same (hlt x (by simpa using hx))) hsp
  have hres : ∀ (b : Nat) (sp : Nat → Bool) (hd : Bool), DataW.TrodAll enc P W' b sp hd f.resultTypes.toList ((Value.bool true).resultList f.resultTypes.size) [.lit (.bool true)] [] := fun b sp hd => by
    rw [hr]; exact trodAll_mk1 (shut_bool htb _)
  refine ⟨ds, [], p ++ [], [], p, [], hW', ?_, ?_, ?_, World.keptBut_mono (fun x hx => ⟨hx, ?_⟩) (hb.frame _), fun h => by cases h⟩
  · rw [hfn]; exact hres _ _ _
  · rw [hfn]; exact hargs _ fun x hx => hold x (by simpa using hx)
  · rw [hvs, hfn]; exact rfl
  · exact .inr (by simpa using hx)
end

/-! ### A struct of whole numbers and bools, opened -/
section
variable {P : Program} {w : World} {r : Reach} {base : Nat}
def flatV (f : Nat → Int) (b : Nat → Bool) : Nat → List (Option IntKind) → List Value
  | _, [] => []
  | i, some k :: l => .int k (f i) :: flatV f b (i + 1) l
  | i, none :: l => .bool (b i) :: flatV f b (i + 1) l
def kindD : Option IntKind → TypeDesc
  | some k => .int k
  | none => .bool
def valF : Value → Int
  | .int _ n => n
  | _ => 0
def valB : Value → Bool
  | .bool b => b
  | _ => false
theorem flat_of {ts : List TypeId} : ∀ {ks : List (Option IntKind)} {cs : List Value} (i : Nat), ts.map P.underlying = ks.map (fun k => some (kindD k)) → cs.length = ks.length →
    (∀ (j : Nat) (v : Value), cs[j]? = some v → ∃ u, ts[j]? = some u ∧ Cell.okWide P w r base u v) → ∀ (F : Nat → Int) (B : Nat → Bool), (∀ (j : Nat) (v : Value), cs[j]? = some v → F (i + j) = valF v ∧ B (i + j) = valB v) →
    cs = flatV F B i ks ∧ ∀ (j : Nat) (k : IntKind), ks[j]? = some (some k) → k.has (F (i + j)) := by
  induction ts with
  | nil =>
    intro ks cs i h1 h2 _ F B _
    cases ks <;> simp at h1
    cases cs <;> simp at h2
    exact ⟨rfl, by simp⟩
  | cons t ts ih =>
    intro ks cs i h1 h2 h3 F B hF
    cases ks with
    | nil => simp at h1
    | cons k ks =>
      cases cs with
      | nil => simp at h2
      | cons v cs =>
        simp only [List.map_cons, List.cons.injEq] at h1
        obtain ⟨e1, e2⟩ := ih (ks := ks) (cs := cs) (i + 1) h1.2 (by simpa using h2) (fun j v hv => by simpa using h3 (j + 1) v (by simpa using hv)) F B
          (fun j v hv => by have := hF (j + 1) v (by simpa using hv); rwa [show i + (j + 1) = i + 1 + j by omega] at this)
        obtain ⟨u, hu, hok⟩ := h3 0 v rfl
        simp at hu; subst hu
        have hF0 := hF 0 v rfl
        rw [Nat.add_zero] at hF0
        have rest : ∀ (j : Nat) (k' : IntKind), ks[j]? = some (some k') → k'.has (F (i + (j + 1))) := fun j k' hj => by
          have := e2 j k' hj; rwa [show i + 1 + j = i + (j + 1) by omega] at this
        cases k with
        | none =>
          have ht : P.underlying t = some .bool := h1.1
          simp only [Cell.okWide, ht] at hok
          cases v <;> simp [Cell.ok, ht] at hok
          refine ⟨by rw [flatV, ← e1, hF0.2]; rfl, fun j k hj => ?_⟩
          cases j with
          | zero => simp at hj
          | succ j => exact rest j k (by simpa using hj)
        | some k =>
          have ht : P.underlying t = some (.int k) := h1.1
          simp only [Cell.okWide, ht] at hok
          cases v <;> simp [Cell.ok, ht] at hok
          obtain ⟨rfl, hk⟩ := hok
          refine ⟨by rw [flatV, ← e1, hF0.1]; rfl, fun j k' hj => ?_⟩
          cases j with
          | zero => simp at hj; subst hj; rw [Nat.add_zero, hF0.1]; exact hk
          | succ j => exact rest j k' (by simpa using hj)

theorem open_flat {t : TypeId} {fs : Array Field} {ts : List TypeId} {ks : List (Option IntKind)} {v : Value} (ht : P.underlying t = some (.struct fs)) (hct : P.cellTypes P.depth t = some ts) (hn : P.cellsOf t = ts.length)
    (hk : ts.map P.underlying = ks.map (fun k => some (kindD k))) (h : Value.okWide P w r base t v) : ∃ (F : Nat → Int) (B : Nat → Bool), v = .agg (flatV F B 0 ks).toArray ∧ ∀ (j : Nat) (k : IntKind), ks[j]? = some (some k) → k.has (F j) := by
  simp only [Value.okWide, ht] at h
  obtain ⟨cs, rfl, hs, ts', hts, _, hc⟩ := h
  rw [hct] at hts; cases hts
  have hlen : cs.toList.length = ks.length := by
    have := congrArg List.length hk
    simp at this
    simp [hs, hn, this]
  obtain ⟨h1, h2⟩ := flat_of (P := P) (w := w) (r := r) (base := base) (ts := ts) (ks := ks) (cs := cs.toList) 0 hk hlen (fun j v hv => by
    obtain ⟨u, hu, hok⟩ := hc j v (by simpa using hv)
    have hj : j < cs.size := by
      have := (List.getElem?_eq_some_iff.1 hv).1; simpa using this
    rw [Nat.mod_eq_of_lt (by omega)] at hu
    exact ⟨u, hu, hok⟩) (fun j => valF (cs.getD j default)) (fun j => valB (cs.getD j default)) (fun j v hv => by
      have : cs[j]? = some v := by simpa using hv
      simp [Array.getD_eq_getD_getElem?, this])
  refine ⟨_, _, by rw [← h1], fun j k hj => by have := h2 j k hj; simpa using this⟩
end
end Sx
