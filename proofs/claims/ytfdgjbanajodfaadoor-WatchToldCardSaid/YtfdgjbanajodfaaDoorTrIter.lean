/- The iterator of strings.SplitSeq, at one byte. -/
import Derived.RangeFuncRecord
import Derived.RangeFuncOwn
import Derived.RangeFuncCalls
import Derived.Shelf.Abstract
import Derived.WalkKit
import Derived.OwnWalkIn
import Derived.TacticsInMore
import Derived.LoopNIn
import Derived.LoopIn
import Derived.Lib.Hide
import Derived.Deep.RegionHeld
import Derived.Test.YtfdgjbanajodfaaDoorShelf
set_option linter.unusedVariables false
set_option linter.unusedSimpArgs false
namespace Go.Proofs.YtfdgjbanajodfaaDoor
open Go.RowKit Go.Shelf Go.Lib

attribute [local go_sem] Oper.semAt_some

/-- The parts between the bytes 47. -/
def partsL : List UInt8 → List (List UInt8)
  | [] => [[]]
  | c :: t => if c = 47 then [] :: partsL t else match partsL t with
    | [] => [[c]]
    | h :: r => (c :: h) :: r
def bs (l : List UInt8) : ByteArray := ⟨l.toArray⟩

theorem bs_list (l : List UInt8) : (bs l).data.toList = l := rfl
theorem parts_ne (l : List UInt8) : partsL l ≠ [] := by
  cases l with
  | nil => simp [partsL]
  | cons c t =>
    unfold partsL
    split
    · simp
    · split <;> simp
theorem idx_cases : ∀ r : List UInt8, (indexByte r 47 = -1 ∧ partsL r = [r]) ∨ ∃ i : Nat, i < r.length ∧ indexByte r 47 = i ∧ partsL r = r.take i :: partsL (r.drop (i + 1))
  | [] => .inl ⟨rfl, rfl⟩
  | c :: t => by
    by_cases hc : c = 47
    · subst hc
      exact .inr ⟨0, by simp, rfl, rfl⟩
    · have hb : (c == 47) = false := by simpa using hc
      rcases idx_cases t with ⟨h1, h2⟩ | ⟨i, hi, h1, h2⟩
      · refine .inl ⟨by unfold indexByte; simp [hb, h1], ?_⟩
        unfold partsL
        rw [if_neg hc, h2]
      · refine .inr ⟨i + 1, by simp; omega, ?_, ?_⟩
        · unfold indexByte
          rw [hb, h1]
          simp only [Bool.false_eq_true, if_false]
          rw [if_neg (by simp <;> omega)]
          rfl
        · conv => lhs; unfold partsL
          rw [if_neg hc, h2]
          rfl
theorem bs_take (l : List UInt8) (i : Nat) : (bs l).extract 0 i = bs (l.take i) := by
  apply ByteArray.ext
  apply Array.toList_inj.1
  simp [bs, ByteArray.data_extract, List.extract_eq_take_drop]
theorem bs_drop (l : List UInt8) (i : Nat) : (bs l).extract i l.length = bs (l.drop i) := by
  apply ByteArray.ext
  apply Array.toList_inj.1
  simp only [bs, ByteArray.data_extract, List.extract_toArray, List.extract_eq_take_drop]
  rw [List.take_of_length_le (by rw [List.length_drop]; omega)]
theorem bs_size (l : List UInt8) : (bs l).size = l.length := by simp [bs, ByteArray.size]
def strAt (w : World) (c : Nat) : Nat := match w.cell? ⟨c, 0, none⟩ with | some (.string b) => b.size | _ => 0
theorem strAt_is {w : World} {c : Nat} {l : List UInt8} (h : w.cell? ⟨c, 0, none⟩ = some (.string (bs l))) : strAt w c = l.length := by
  unfold strAt; rw [h]; simp [bs, ByteArray.size]
set_option maxRecDepth 100000 in
set_option maxHeartbeats 2000000 in
theorem split_iter (n l cp cs cv n₀ : Nat) (s : List UInt8) (J : List (List UInt8) → World → Prop) (Jx : World → Prop) (W : World) (hs : s.length ≤ 140737488351232)
    (hcp : W.cell? ⟨cp, 0, none⟩ = some (.string ⟨#[47]⟩)) (hcs : W.cell? ⟨cs, 0, none⟩ = some (.string (bs s))) (hcv : W.cell? ⟨cv, 0, none⟩ = some (.int .i64 0)) (hfz : W.frozen? ⟨cs, 0, none⟩ = false)
    (h1 : cs ≠ cp) (h2 : cs ≠ cv) (hn : cs < n₀ ∧ cp < n₀ ∧ cv < n₀)
    (hJ : ∀ pre W v, J pre W → J pre (W.setCell ⟨cs, 0, none⟩ v))
    (hY : ∀ pre x r W, partsL s = pre ++ x :: r → J pre W → YieldAt Fence.wide (n - 1) Tryd.prog l #[.string (bs x)] W fun e W' => (e = .returned (.bool true) ∧ J (pre ++ [x]) W' ∧ Below n₀ W W') ∨ (e = .returned (.bool false) ∧ Jx W'))
    (h0 : J [] W) :
    CallsIn Fence.wide n Tryd.prog 44 #[.func (.yield l) #[] #[], .pointer (some ⟨cp, 0, none⟩), .pointer (some ⟨cs, 0, none⟩), .pointer (some ⟨cv, 0, none⟩)] W fun e W' => (∃ v, e = .returned v) ∧ (J (partsL s) W' ∨ Jx W') := by
  refine callsIn_of_wp Tryd.func44 rfl trivial ?_ rfl
  simp only [Tryd.ntmps44, List.size_toArray, List.length_cons, List.length_nil, Nat.reduceAdd, Nat.reduceSub, Array.replicate_succ, Array.replicate_zero, List.push_toArray, List.append_toArray, List.nil_append, List.cons_append]
  gi_wp2
  gi_loopw [7] (fun _ wr => ∃ (pre : List (List UInt8)) (rest : List UInt8), partsL s = pre ++ partsL rest ∧ rest.length ≤ s.length ∧ J pre wr ∧ wr.cell? ⟨cs, 0, none⟩ = some (.string (bs rest)) ∧ wr.cell? ⟨cp, 0, none⟩ = some (.string ⟨#[47]⟩) ∧ wr.cell? ⟨cv, 0, none⟩ = some (.int .i64 0) ∧ wr.frozen? ⟨cs, 0, none⟩ = false) (fun _ wr => strAt wr cs)
  case atStart => exact ⟨[], s, rfl, Nat.le_refl _, h0, hcs, hcp, hcv, hfz⟩
  case round =>
    obtain ⟨pre, rest, hp, hl, hJ0, e0, e1, e2, e3⟩ := hrel
    have HIX := idx_cases rest
    have hsz := Lib.hid (strAt_is e0)
    have hrest : rest.length ≤ 140737488351232 := Nat.le_trans hl hs
    rcases HIX with ⟨i1, i2⟩ | ⟨i, i0, i1, i2⟩
    · have hcall : Calls Tryd.prog 46 #[.string (bs rest), .string ⟨#[47]⟩] wr fun e w' => e = .returned (.int .i64 (-1)) ∧ w' = wr := by rw [← i1]; exact Tryd.strings_Index_one (bs rest) 47 wr
      obtain ⟨fn, tmps, assign, body, hy, hR⟩ := hY pre rest [] wr (by rw [hp, i2]) hJ0
      clear i1
      gi_wp2
      refine ⟨trivial, (fun h => by cases h), (callsIn_wide.2 hcall).mono ?_⟩
      rintro e w' ⟨rfl, rfl⟩
      gi_wp2
      refine ⟨(fun h => by cases h), hR.mono ?_⟩
      rintro e W3 (⟨rfl, hJ3, hk3⟩ | ⟨rfl, hJx3⟩)
      · gi_wp2
        go_end0
        exact ⟨⟨_, rfl⟩, .inl (by rw [hp, i2]; exact hJ3)⟩
      · gi_wp2
        go_end0
        exact ⟨⟨_, rfl⟩, .inr hJx3⟩
    · have hcall : Calls Tryd.prog 46 #[.string (bs rest), .string ⟨#[47]⟩] wr fun e w' => e = .returned (.int .i64 (i : Nat)) ∧ w' = wr := by rw [← i1]; exact Tryd.strings_Index_one (bs rest) 47 wr
      obtain ⟨fn, tmps, assign, body, hy, hR⟩ := hY pre (rest.take i) (partsL (rest.drop (i + 1))) wr (by rw [hp, i2]) hJ0
      clear i1
      have hsz2 := bs_size rest
      rw [← bs_take] at hy
      gi_wp2
      refine ⟨trivial, (fun h => by cases h), (callsIn_wide.2 hcall).mono ?_⟩
      rintro e w' ⟨rfl, rfl⟩
      gi_wp2
      refine ⟨(fun h => by cases h), hR.mono ?_⟩
      rintro e W3 (⟨rfl, hJ3, hk3⟩ | ⟨rfl, hJx3⟩)
      · have f0 := (hk3.cell (p := ⟨cs, 0, none⟩) hn.1).trans e0
        have f1 := (hk3.cell (p := ⟨cp, 0, none⟩) hn.2.1).trans e1
        have f2 := (hk3.cell (p := ⟨cv, 0, none⟩) hn.2.2).trans e2
        have f3 : W3.frozen? ⟨cs, 0, none⟩ = false := by
          have := hk3.block cs hn.1
          unfold World.frozen? at e3 ⊢
          rw [this]; exact e3
        gi_wp2
        rw [bs_drop]
        have g0 : (W3.setCell ⟨cs, 0, none⟩ (.string (bs (rest.drop (i + 1))))).cell? ⟨cs, 0, none⟩ = some (.string (bs (rest.drop (i + 1)))) := World.cell?_setCell_same' _ _ _ (by rw [f0]; rfl)
        refine ⟨⟨pre ++ [rest.take i], rest.drop (i + 1), by rw [hp, i2, List.append_assoc]; rfl, by rw [List.length_drop]; omega, hJ _ _ _ hJ3, g0, ?_, ?_, by rw [World.frozen?_setCell]; exact f3⟩, ?_⟩
        · exact (World.cell?_setCell_far W3 ⟨cs, 0, none⟩ ⟨cp, 0, none⟩ _ h1).trans f1
        · exact (World.cell?_setCell_far W3 ⟨cs, 0, none⟩ ⟨cv, 0, none⟩ _ h2).trans f2
        · rw [strAt_is g0, hsz.out, List.length_drop]; omega
      · gi_wp2
        refine bodyPost_ret (results_none rfl _ _ _) rfl ?_
        exact ⟨⟨_, rfl⟩, .inr hJx3⟩
end Go.Proofs.YtfdgjbanajodfaaDoor
