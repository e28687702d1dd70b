/- Names below names, in plain functions. -/
import Derived.Test.YtfdgjbanajodfaaDoorTrName
set_option linter.unusedVariables false
set_option linter.unusedSimpArgs false
namespace Go.Proofs.YtfdgjbanajodfaaDoor
open Go.RowKit Go.Lib

abbrev Str := List UInt8
structure TS where
  ks : List Str
  dat : Str → Str
  ver : Str → Nat
structure Deed where
  kind : Int
  path : Str
  data : Str
  version : Int
structure Ans where
  code : Int
  data : Str
  ver : Int
  names : List Str
def A0 (c : Int) : Ans := ⟨c, [], 0, []⟩
def lastI (s : Str) : Nat := (lastIndexByte (bs s) 47).toNat
def parL (s : Str) : Str := s.take (max (lastI s) 1)
def lstL (s : Str) : Str := s.drop (lastI s + 1)
def isBel (p s : Str) : Bool := parL s == p && s != [47]
def partsOf (ks : List Str) (p : Str) : List Str := (ks.filter (isBel p)).map lstL
def srtL (l : List Str) : List Str := l.mergeSort fun x y => decide (x ≤ y)
def putS (st : TS) (p d : Str) (v : Nat) : TS := ⟨if p ∈ st.ks then st.ks else st.ks ++ [p], fun s => if s = p then d else st.dat s, fun s => if s = p then v else st.ver s⟩
def dropS (st : TS) (p : Str) : TS := ⟨st.ks.erase p, st.dat, st.ver⟩
def T0 : TS := ⟨[[47]], fun _ => [], fun _ => 0⟩
def buildS (st : TS) (d : Deed) : Int × TS :=
  if d.path ∈ st.ks then (7, st) else if parL d.path ∉ st.ks then (5, st) else if 12 ≤ st.ks.length then (1, st) else (0, putS st d.path d.data 0)
def doS (st : TS) (d : Deed) : Ans × TS :=
  if d.kind < 1 ∨ 5 < d.kind then (A0 6, st)
  else if nameB d.path = false then (A0 3, st)
  else if (d.kind = 1 ∨ d.kind = 2) ∧ 20 < d.data.length then (A0 1, st)
  else if d.kind = 1 then (A0 (buildS st d).1, (buildS st d).2)
  else if d.kind = 3 ∧ d.path = [47] then (A0 3, st)
  else if d.path ∉ st.ks then (A0 5, st)
  else if d.kind = 4 then (⟨0, st.dat d.path, st.ver d.path, []⟩, st)
  else if d.kind = 5 then (⟨0, [], st.ver d.path, srtL (partsOf st.ks d.path)⟩, st)
  else if 0 ≤ d.version ∧ d.version ≠ st.ver d.path then (A0 8, st)
  else if d.kind = 2 then (⟨0, [], st.ver d.path + 1, []⟩, putS st d.path d.data (st.ver d.path + 1))
  else if partsOf st.ks d.path ≠ [] then (A0 7, st)
  else (A0 0, dropS st d.path)
def runS (st : TS) (D : Nat → Deed) : Nat → TS
  | 0 => st
  | j + 1 => (doS (runS st D j) (D j)).2
def ansS (st : TS) (D : Nat → Deed) (j : Nat) : Ans := (doS (runS st D j) (D j)).1
/-- A sorted list does not ask in which order it came. -/
theorem srt_perm {a b : List Str} (h : a.Perm b) : srtL a = srtL b := by
  have hle : ∀ x y : Str, decide (x ≤ y) = true ∨ decide (y ≤ x) = true := fun x y => by simpa using List.le_total x y
  have htr : ∀ x y z : Str, decide (x ≤ y) = true → decide (y ≤ z) = true → decide (x ≤ z) = true := fun x y z h1 h2 => by
    simp only [decide_eq_true_eq] at *; exact List.le_trans h1 h2
  have p1 : (srtL a).Perm (srtL b) := ((List.mergeSort_perm a _).trans h).trans (List.mergeSort_perm b _).symm
  have s1 : (srtL a).Pairwise fun x y => decide (x ≤ y) = true := List.pairwise_mergeSort htr (fun x y => by simpa [Bool.or_eq_true] using hle x y) a
  have s2 : (srtL b).Pairwise fun x y => decide (x ≤ y) = true := List.pairwise_mergeSort htr (fun x y => by simpa [Bool.or_eq_true] using hle x y) b
  refine p1.eq_of_pairwise (fun x y _ _ h1 h2 => ?_) s1 s2
  simp only [decide_eq_true_eq] at h1 h2
  exact List.le_antisymm h1 h2
theorem srt_sorted (a : List Str) : (srtL a).Pairwise fun x y => x ≤ y := by
  have := List.pairwise_mergeSort (le := fun x y : Str => decide (x ≤ y)) (fun x y z h1 h2 => by
    simp only [decide_eq_true_eq] at *; exact List.le_trans h1 h2) (fun x y => by simpa [Bool.or_eq_true] using List.le_total x y) a
  exact this.imp fun h => by simpa using h
theorem srt_mem {a : List Str} {x : Str} : x ∈ srtL a ↔ x ∈ a := (List.mergeSort_perm a _).mem_iff
theorem srt_len (a : List Str) : (srtL a).length = a.length := (List.mergeSort_perm a _).length_eq
end Go.Proofs.YtfdgjbanajodfaaDoor
