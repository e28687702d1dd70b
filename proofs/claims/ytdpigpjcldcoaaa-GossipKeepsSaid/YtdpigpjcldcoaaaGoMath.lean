/- Gossip in plain functions: what each one knows. -/
import Derived.Test.YtdpigpjcldcoaaaMv
set_option linter.unusedVariables false
set_option linter.unusedSimpArgs false
namespace Go.Proofs.Ytdpigpjcldcoaaa
open Go.RowKit

structure Kn where
  val : Int
  vec : Nat → Nat
def Kn0 : Kn := ⟨0, fun _ => 0⟩
structure GS where
  known : Nat → List Kn
  wrote : Nat → Nat
def GS0 : GS := ⟨fun _ => [], fun _ => 0⟩
/-- Is no number greater? -/
def undB (n : Nat) (a b : Nat → Nat) : Bool := !anyTo (fun t => decide (b t < a t)) n
theorem undB_iff {n : Nat} {a b : Nat → Nat} : undB n a b = true ↔ ∀ t, t < n → a t ≤ b t := by
  unfold undB
  rw [Bool.not_eq_true', anyTo_no]
  constructor
  · intro h t ht
    have := h t ht
    simp at this; omega
  · intro h t ht
    have := h t ht
    simp; omega
def knAt (l : List Kn) (i : Nat) : Kn := l.getD i Kn0
def maxT (l : List Kn) : Nat → Nat → Nat
  | 0, _ => 0
  | k + 1, j => max (maxT l k j) ((knAt l k).vec j)
def maxV (l : List Kn) : Nat → Nat := maxT l l.length
def writeS (i : Nat) (val : Int) (s : GS) : GS := ⟨upd s.known i [⟨val, fun j => if j = i then s.wrote i + 1 else maxV (s.known i) j⟩], upd s.wrote i (s.wrote i + 1)⟩
/-- Is the i-th less than one of the first j, or the same as an earlier one? -/
def oldTo (n : Nat) (l : List Kn) (i : Nat) : Nat → Bool
  | 0 => false
  | j + 1 => (oldTo n l i j || (undB n (knAt l i).vec (knAt l j).vec && !(undB n (knAt l i).vec (knAt l j).vec && undB n (knAt l j).vec (knAt l i).vec))) || ((undB n (knAt l i).vec (knAt l j).vec && undB n (knAt l j).vec (knAt l i).vec) && decide (j < i))
def leftTo (n : Nat) (l : List Kn) : Nat → List Kn
  | 0 => []
  | i + 1 => if oldTo n l i l.length then leftTo n l i else leftTo n l i ++ [knAt l i]
def tellL (n : Nat) (a b : List Kn) : List Kn := leftTo n (a ++ b) (a ++ b).length
def tellS (n f t : Nat) (s : GS) : GS := ⟨upd s.known t (tellL n (s.known t) (s.known f)), s.wrote⟩
def inB (n : Nat) (x : Int) : Bool := decide (0 ≤ x) && decide (x < n)
def doS (n : Nat) (k f t v : Int) (s : GS) : Int × GS :=
  if k ≠ 1 ∧ k ≠ 2 then (6, s)
  else if inB n f = false ∨ (k = 2 ∧ inB n t = false) then (2, s)
  else if k = 2 then (0, tellS n f.toNat t.toNat s)
  else if v < 0 ∨ 100 < v then (4, s)
  else (0, writeS f.toNat v s)
def goE (n : Nat) (M : Mv) : Nat → GS
  | 0 => GS0
  | j + 1 => (doS n (M.k j) (M.f j) (M.t j) (M.v j) (goE n M j)).2
def goC (n : Nat) (M : Mv) (j : Nat) : Int := (doS n (M.k j) (M.f j) (M.t j) (M.v j) (goE n M j)).1
theorem knAt_in {l : List Kn} {i : Nat} (h : i < l.length) : knAt l i ∈ l := by
  have : knAt l i = l[i] := by simp [knAt, List.getD_eq_getElem?_getD, List.getElem?_eq_getElem h]
  rw [this]; exact List.getElem_mem h
theorem in_knAt {l : List Kn} {x : Kn} (h : x ∈ l) : ∃ i, i < l.length ∧ knAt l i = x := by
  obtain ⟨i, hi, he⟩ := List.mem_iff_getElem.1 h
  exact ⟨i, hi, by rw [← he]; simp [knAt, List.getD_eq_getElem?_getD, List.getElem?_eq_getElem hi]⟩
def Lt (n : Nat) (a b : Nat → Nat) : Prop := (∀ t, t < n → a t ≤ b t) ∧ ∃ t, t < n ∧ a t < b t
def Eqv (n : Nat) (a b : Nat → Nat) : Prop := ∀ t, t < n → a t = b t
theorem und_cases {n : Nat} {a b : Nat → Nat} : (undB n a b = true ∧ undB n b a = true ↔ Eqv n a b) ∧ (undB n a b = true ∧ ¬ undB n b a = true ↔ Lt n a b) := by
  rw [undB_iff, undB_iff]
  refine ⟨⟨fun ⟨h1, h2⟩ t ht => by have := h1 t ht; have := h2 t ht; omega, fun h => ⟨fun t ht => by have := h t ht; omega, fun t ht => by have := h t ht; omega⟩⟩, ⟨fun ⟨h1, h2⟩ => ⟨h1, ?_⟩, fun ⟨h1, t, ht, h2⟩ => ⟨h1, fun h3 => by have := h3 t ht; omega⟩⟩⟩
  refine Classical.byContradiction fun h3 => h2 fun t ht => ?_
  refine Classical.byContradiction fun h4 => h3 ⟨t, ht, by omega⟩
theorem oldTo_iff {n : Nat} {l : List Kn} {i : Nat} : ∀ {j : Nat}, oldTo n l i j = true ↔ ∃ k, k < j ∧ (Lt n (knAt l i).vec (knAt l k).vec ∨ Eqv n (knAt l i).vec (knAt l k).vec ∧ k < i)
  | 0 => Iff.intro (fun h => absurd h (by simp [oldTo])) (fun ⟨k, hk, _⟩ => absurd hk (by omega))
  | j + 1 => by
    simp only [oldTo, Bool.or_eq_true, Bool.and_eq_true, Bool.not_eq_true', decide_eq_true_iff, Bool.and_eq_false_iff]
    rw [oldTo_iff (j := j)]
    have h1 := (und_cases (n := n) (a := (knAt l i).vec) (b := (knAt l j).vec)).1
    have h2 := (und_cases (n := n) (a := (knAt l i).vec) (b := (knAt l j).vec)).2
    constructor
    · rintro ((⟨k, hk, h⟩ | ⟨h3, h4⟩) | ⟨⟨h3, h4⟩, h5⟩)
      · exact ⟨k, by omega, h⟩
      · refine ⟨j, by omega, .inl (h2.1 ⟨h3, fun h6 => ?_⟩)⟩
        rcases h4 with h4 | h4
        · rw [h3] at h4; cases h4
        · rw [h6] at h4; cases h4
      · exact ⟨j, by omega, .inr ⟨h1.1 ⟨h3, h4⟩, h5⟩⟩
    · rintro ⟨k, hk, h⟩
      rcases Nat.lt_succ_iff_lt_or_eq.1 hk with hl | rfl
      · exact .inl (.inl ⟨k, hl, h⟩)
      · rcases h with h | ⟨h, h5⟩
        · obtain ⟨h3, h4⟩ := h2.2 h
          exact .inl (.inr ⟨h3, .inr (by simpa using h4)⟩)
        · exact .inr ⟨h1.2 h, h5⟩
theorem leftTo_mem {n : Nat} {l : List Kn} {x : Kn} : ∀ {i : Nat}, x ∈ leftTo n l i ↔ ∃ k, k < i ∧ knAt l k = x ∧ oldTo n l k l.length = false
  | 0 => Iff.intro (fun h => absurd h List.not_mem_nil) (fun ⟨k, hk, _⟩ => absurd hk (by omega))
  | i + 1 => by
    have ih := leftTo_mem (n := n) (l := l) (x := x) (i := i)
    show x ∈ (if oldTo n l i l.length then leftTo n l i else leftTo n l i ++ [knAt l i]) ↔ _
    cases h : oldTo n l i l.length
    · rw [if_neg (by simp), List.mem_append, List.mem_singleton, ih]
      constructor
      · rintro (⟨k, hk, h1⟩ | rfl)
        · exact ⟨k, by omega, h1⟩
        · exact ⟨i, by omega, rfl, h⟩
      · rintro ⟨k, hk, h1, h2⟩
        rcases Nat.lt_succ_iff_lt_or_eq.1 hk with hl | rfl
        · exact .inl ⟨k, hl, h1, h2⟩
        · exact .inr h1.symm
    · rw [if_pos rfl, ih]
      constructor
      · rintro ⟨k, hk, h1⟩
        exact ⟨k, by omega, h1⟩
      · rintro ⟨k, hk, h1, h2⟩
        rcases Nat.lt_succ_iff_lt_or_eq.1 hk with hl | rfl
        · exact ⟨k, hl, h1, h2⟩
        · rw [h] at h2; cases h2
theorem leftTo_len (n : Nat) (l : List Kn) : ∀ i, (leftTo n l i).length ≤ i
  | 0 => Nat.le_refl _
  | i + 1 => by
    have ih := leftTo_len n l i
    show (if _ then _ else _ : List Kn).length ≤ _
    split
    · omega
    · simp; omega
end Go.Proofs.Ytdpigpjcldcoaaa
