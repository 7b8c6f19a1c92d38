/- a part of the executor and of its soundness -/
import Derived.Test.YtehclnpgbgppeaaDoorSxB
import Derived.WalkKit
import Derived.DeepKeys
namespace Sx
open Go

/-! ### Lists through a partial map -/
def om {α β : Type} (f : α → Option β) : List α → Option (List β)
  | [] => some []
  | x :: l => match f x, om f l with
    | some y, some ys => some (y :: ys)
    | _, _ => none
section
variable {α β : Type} {f g : α → Option β}
theorem om_cons {x : α} {l : List α} {r : List β} : om f (x :: l) = some r ↔ ∃ y ys, f x = some y ∧ om f l = some ys ∧ r = y :: ys := by
  simp only [om]
  cases f x <;> cases om f l <;> simp [eq_comm]
theorem om_append : ∀ {a b : List α} {r : List β}, om f (a ++ b) = some r ↔ ∃ ra rb, om f a = some ra ∧ om f b = some rb ∧ r = ra ++ rb
  | [], b, r => by simp [om]
  | x :: a, b, r => by
    simp only [List.cons_append, om_cons, om_append (a := a)]
    constructor
    · rintro ⟨y, ys, h1, ⟨ra, rb, h2, h3, rfl⟩, rfl⟩
      exact ⟨y :: ra, rb, ⟨y, ra, h1, h2, rfl⟩, h3, rfl⟩
    · rintro ⟨ra, rb, ⟨y, ys, h1, h2, rfl⟩, h3, rfl⟩
      exact ⟨y, ys ++ rb, h1, ⟨ys, rb, h2, h3, rfl⟩, rfl⟩
theorem om_length : ∀ {l : List α} {r : List β}, om f l = some r → r.length = l.length
  | [], r, h => by simp [om] at h; subst h; simp
  | x :: l, r, h => by obtain ⟨y, ys, _, h2, rfl⟩ := om_cons.1 h; simp [om_length h2]
theorem om_get : ∀ {l : List α} {r : List β}, om f l = some r → ∀ i : Nat, r[i]? = (l[i]?).bind f
  | [], r, h, i => by simp [om] at h; subst h; simp
  | x :: l, r, h, i => by
    obtain ⟨y, ys, h1, h2, rfl⟩ := om_cons.1 h
    cases i with
    | zero => simp [h1]
    | succ i => simpa using om_get h2 i
theorem om_take : ∀ {l : List α} {r : List β}, om f l = some r → ∀ n, om f (l.take n) = some (r.take n)
  | [], r, h, n => by simp [om] at h; subst h; simp [om]
  | x :: l, r, h, n => by
    obtain ⟨y, ys, h1, h2, rfl⟩ := om_cons.1 h
    cases n with
    | zero => simp [om]
    | succ n => simp only [List.take_succ_cons]; exact om_cons.2 ⟨y, _, h1, om_take h2 n, rfl⟩
theorem om_drop : ∀ {l : List α} {r : List β}, om f l = some r → ∀ n, om f (l.drop n) = some (r.drop n)
  | [], r, h, n => by simp [om] at h; subst h; simp [om]
  | x :: l, r, h, n => by
    obtain ⟨y, ys, h1, h2, rfl⟩ := om_cons.1 h
    cases n with
    | zero => simpa using h
    | succ n => simpa using om_drop h2 n
theorem om_mono (hf : ∀ x y, f x = some y → g x = some y) : ∀ {l : List α} {r : List β}, om f l = some r → om g l = some r
  | [], r, h => by simpa [om] using h
  | x :: l, r, h => by
    obtain ⟨y, ys, h1, h2, rfl⟩ := om_cons.1 h
    exact om_cons.2 ⟨y, ys, hf _ _ h1, om_mono hf h2, rfl⟩
theorem om_all {p : β → Prop} (hp : ∀ x y, f x = some y → p y) : ∀ {l : List α} {r : List β}, om f l = some r → ∀ y ∈ r, p y
  | [], r, h => by simp [om] at h; subst h; simp
  | x :: l, r, h => by
    obtain ⟨y, ys, h1, h2, rfl⟩ := om_cons.1 h
    intro z hz
    rcases List.mem_cons.1 hz with rfl | hz
    · exact hp _ _ h1
    · exact om_all hp h2 z hz
theorem om_replicate {x : α} {y : β} (h : f x = some y) : ∀ n, om f (List.replicate n x) = some (List.replicate n y)
  | 0 => rfl
  | n + 1 => by simp only [List.replicate_succ]; exact om_cons.2 ⟨y, _, h, om_replicate h n, rfl⟩
end

/-! ### What is meant -/
structure Env where
  V : Val
  gb : Nat → Nat
  w0 : World

abbrev Mu := Nat → Option (Nat × Nat)
def Mu.le (m m' : Mu) : Prop := ∀ i x, m i = some x → m' i = some x
theorem Mu.le_refl (m : Mu) : Mu.le m m := fun _ _ h => h
theorem Mu.le_trans {a b c : Mu} (h : Mu.le a b) (h' : Mu.le b c) : Mu.le a c := fun i x e => h' i x (h i x e)

section
variable (E : Env) (mu : Mu)
def refB : Ref → Option Nat
  | .o i => (mu i).map (·.1)
  | .g i => some (E.gb i)
def cpp : Ref × Nat → Option Value := fun p => (refB E mu p.1).map fun b => .pointer (some ⟨b, p.2, none⟩)
/-- Sorted, each once. -/
def insI (x : Int) : List Int → List Int
  | [] => [x]
  | y :: l => if x = y then y :: l else if x < y then x :: y :: l else y :: insI x l
def sd : List Int → List Int
  | [] => []
  | x :: l => insI x (sd l)
def csv : SV → Option Value
  | .int k t => some (.int k (t.ev E.V.i))
  | .bool b => some (.bool b)
  | .bv i => some (.bool (E.V.b i))
  | .nptr => some (.pointer none)
  | .ptr r off => (refB E mu r).map fun b => .pointer (some ⟨b, off, none⟩)
  | .nslice => some (.slice none 0 0)
  | .slice r off len (.ex c) => (refB E mu r).map fun b => .slice (some ⟨b, off, none⟩) len c
  | .slice (.o i) off len (.up k) => (mu i).map fun p => .slice (some ⟨p.1, off, none⟩) len (p.2 - k)
  | .slice (.g i) off len (.up k) => some (.slice (some ⟨E.gb i, off, none⟩) len ((E.V.i (1000000 + i)).toNat - k))
  | .nmap => some (.map none)
  | .map i => (mu i).map fun p => .map (some p.1)
  | .fn f cap => (om (cpp E mu) cap).map fun l => .func (.func f) #[] l.toArray
  | .yld l => (mu l).map fun p => .func (.yield p.1) #[] #[]
  | .nfn => some .nilFunc
  | .str s => some (.string s)
  | .ss i l => (mu i).map fun p => .slice (some ⟨p.1, 0, none⟩) (sd (l.map (·.ev E.V.i))).length p.2
  | .undef => some undef
abbrev csvs := om (csv E mu)
def cap_ : AP → Option Value
  | .s x => csv E mu x
  | .agg l => (csvs E mu l).map fun vs => .agg vs.toArray
abbrev caps := om (cap_ E mu)
def cav : AV → Option Value
  | .s x => csv E mu x
  | .agg l => (csvs E mu l).map fun vs => .agg vs.toArray
  | .tup l => (caps E mu l).map fun vs => .tuple vs.toArray
abbrev cavs := om (cav E mu)
end

section
variable {E : Env} {mu mu' : Mu}
theorem refB_mono (h : Mu.le mu mu') {r : Ref} {b : Nat} (e : refB E mu r = some b) : refB E mu' r = some b := by
  cases r with
  | g i => exact e
  | o i =>
    simp only [refB, Option.map_eq_some_iff] at e ⊢
    obtain ⟨p, hp, rfl⟩ := e
    exact ⟨p, h _ _ hp, rfl⟩
theorem cpp_mono (h : Mu.le mu mu') (p : Ref × Nat) (v : Value) (e : cpp E mu p = some v) : cpp E mu' p = some v := by
  simp only [cpp, Option.map_eq_some_iff] at e ⊢
  obtain ⟨b, hb, rfl⟩ := e
  exact ⟨b, refB_mono h hb, rfl⟩
theorem csv_mono (h : Mu.le mu mu') (x : SV) (v : Value) (e : csv E mu x = some v) : csv E mu' x = some v := by
  cases x <;> try exact e
  case ptr r off =>
    simp only [csv, Option.map_eq_some_iff] at e ⊢
    obtain ⟨b, hb, rfl⟩ := e
    exact ⟨b, refB_mono h hb, rfl⟩
  case slice r off len c =>
    cases c with
    | ex c =>
      simp only [csv, Option.map_eq_some_iff] at e ⊢
      obtain ⟨b, hb, rfl⟩ := e
      exact ⟨b, refB_mono h hb, rfl⟩
    | up k =>
      cases r with
      | g i => exact e
      | o i =>
        simp only [csv, Option.map_eq_some_iff] at e ⊢
        obtain ⟨b, hb, rfl⟩ := e
        exact ⟨b, h _ _ hb, rfl⟩
  case fn f cap =>
    simp only [csv, Option.map_eq_some_iff] at e ⊢
    obtain ⟨l, hl, rfl⟩ := e
    exact ⟨l, om_mono (fun p v => cpp_mono h p v) hl, rfl⟩
  all_goals
    simp only [csv, Option.map_eq_some_iff] at e ⊢
    obtain ⟨b, hb, rfl⟩ := e
    exact ⟨b, h _ _ hb, rfl⟩
theorem csvs_mono (h : Mu.le mu mu') {l : List SV} {vs : List Value} (e : csvs E mu l = some vs) : csvs E mu' l = some vs := om_mono (csv_mono h) e
theorem cap_mono (h : Mu.le mu mu') (x : AP) (v : Value) (e : cap_ E mu x = some v) : cap_ E mu' x = some v := by
  cases x with
  | s x => exact csv_mono h x v e
  | agg l =>
    simp only [cap_, Option.map_eq_some_iff] at e ⊢
    obtain ⟨l, hl, rfl⟩ := e
    exact ⟨l, csvs_mono h hl, rfl⟩
theorem cav_mono (h : Mu.le mu mu') (x : AV) (v : Value) (e : cav E mu x = some v) : cav E mu' x = some v := by
  cases x with
  | s x => exact csv_mono h x v e
  | agg l =>
    simp only [cav, Option.map_eq_some_iff] at e ⊢
    obtain ⟨l, hl, rfl⟩ := e
    exact ⟨l, csvs_mono h hl, rfl⟩
  | tup l =>
    simp only [cav, Option.map_eq_some_iff] at e ⊢
    obtain ⟨l, hl, rfl⟩ := e
    exact ⟨l, om_mono (cap_mono h) hl, rfl⟩
theorem cavs_mono (h : Mu.le mu mu') {l : List AV} {vs : List Value} (e : cavs E mu l = some vs) : cavs E mu' l = some vs := om_mono (cav_mono h) e
theorem cav_av (p : AP) : cav E mu p.av = cap_ E mu p := by cases p <;> rfl
theorem cap_of {v : AV} {p : AP} (h : AP.of v = some p) : cap_ E mu p = cav E mu v := by
  cases v <;> simp [AP.of] at h <;> subst h <;> rfl

/-- A scalar's value is one cell. -/
theorem csv_one (x : SV) (v : Value) (hx : csv E mu x = some v) (hu : ∀ l, v ≠ .tuple l) : v.oneCell' = true := by
  cases v <;> first | rfl | (exfalso; exact hu _ rfl) | skip
  rename_i cs
  exfalso
  cases x <;> simp [csv, undef] at hx
  case slice r off len c => cases c <;> cases r <;> simp [csv] at hx
theorem cells_agg (vs : List Value) : (Value.agg vs.toArray).cells.toList = vs := rfl
theorem csv_noagg {x : SV} {cs : Array Value} : csv E mu x ≠ some (.agg cs) := by
  intro hx
  cases x <;> simp [csv, undef] at hx
  case slice r off len c => cases c <;> cases r <;> simp [csv] at hx
theorem csv_cells {x : SV} {v : Value} (hx : csv E mu x = some v) : v.cells = #[v] := by
  cases v <;> first | rfl | exact absurd hx csv_noagg
/-- The cells of a value. -/
theorem cav_cells {v : AV} {cs : List SV} {cv : Value} (h : v.cells = some cs) (hv : cav E mu v = some cv) : csvs E mu cs = some cv.cells.toList := by
  cases v with
  | s x =>
    simp [AV.cells] at h; subst h
    rw [csv_cells hv]
    exact om_cons.2 ⟨cv, [], hv, rfl, rfl⟩
  | agg l =>
    simp [AV.cells] at h; subst h
    simp only [cav, Option.map_eq_some_iff] at hv
    obtain ⟨vs, hvs, rfl⟩ := hv
    exact hvs
  | tup l => simp [AV.cells] at h
end
end Sx
