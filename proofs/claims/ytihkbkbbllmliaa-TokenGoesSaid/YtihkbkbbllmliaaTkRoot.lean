/- The walks of token's 'root' and of the document's TreeCheck. -/
import Derived.Test.YtihkbkbbllmliaaPlayed
import Derived.Test.YtihkbkbbllmliaaLay
import Derived.Test.YtihkbkbbllmliaaRow
import Derived.BigQuiet
import Derived.Deep.QuietTactic
import Derived.Test.YtihkbkbbllmliaaText
import Derived.Test.YtihkbkbbllmliaaContI
set_option linter.unusedVariables false
set_option linter.unusedSimpArgs false
namespace Go.Proofs.Ytihkbkbbllmliaa
open Go.RowKit

theorem infoIntK : (Try.prog.info? 3).map (fun i => (i.zero, i.size, i.bytes)) = some (some (.int .i64 0), 1, 8) := by kernel_rfl
/-- k times up. -/
def itv (v : Nat → Nat) : Nat → Nat → Nat
  | 0, i => i
  | k + 1, i => v (itv v k i)
def rootsL (v : Nat → Nat) (n : Nat) : List Nat := (List.range n).filter fun i => v i == i
def outB (n : Nat) (x : Int) : Bool := decide (x < 0) || decide ((n : Int) ≤ x)
def AllIn (n : Nat) (u : Nat → Int) : Prop := ∀ j, j < n → 0 ≤ u j ∧ u j < n
def vN (u : Nat → Int) (j : Nat) : Nat := (u j).toNat
structure TreeOk (n : Nat) (u : Nat → Int) : Prop where
  ins : AllIn n u
  one : (rootsL (vN u) n).length = 1
  up : ∀ i, i < n → vN u (itv (vN u) n i) = itv (vN u) n i
theorem itv_lt {n : Nat} {u : Nat → Int} (h : AllIn n u) {i : Nat} (hi : i < n) : ∀ k, itv (vN u) k i < n
  | 0 => hi
  | k + 1 => by
    have := h _ (itv_lt h hi k)
    show (u (itv (vN u) k i)).toNat < n
    omega
theorem vN_int {n : Nat} {u : Nat → Int} (h : AllIn n u) {j : Nat} (hj : j < n) : u j = (vN u j : Nat) := by
  have := h j hj
  unfold vN; omega
theorem rootsL_next (v : Nat → Nat) (n : Nat) : rootsL v (n + 1) = if v n = n then rootsL v n ++ [n] else rootsL v n := by
  unfold rootsL
  rw [List.range_succ, List.filter_append]
  by_cases h : v n = n
  · simp [h]
  · simp [h]
theorem rootsL_mem {v : Nat → Nat} {n i : Nat} : i ∈ rootsL v n ↔ i < n ∧ v i = i := by
  unfold rootsL
  rw [List.mem_filter, List.mem_range, beq_iff_eq]
/-- The one root. -/
theorem TreeOk.root {n : Nat} {u : Nat → Int} (h : TreeOk n u) : ∃ r, rootsL (vN u) n = [r] ∧ r < n ∧ vN u r = r ∧ ∀ i, i < n → itv (vN u) n i = r := by
  obtain ⟨r, hr⟩ := List.length_eq_one_iff.1 h.one
  have hm : r ∈ rootsL (vN u) n := by rw [hr]; exact List.mem_singleton.2 rfl
  obtain ⟨h1, h2⟩ := rootsL_mem.1 hm
  refine ⟨r, hr, h1, h2, fun i hi => ?_⟩
  have : itv (vN u) n i ∈ rootsL (vN u) n := rootsL_mem.2 ⟨itv_lt h.ins hi n, h.up i hi⟩
  rw [hr] at this
  exact List.mem_singleton.1 this
set_option maxHeartbeats 400000 in
theorem bad_any (b : Bool) (x : Int) (n cap q : Nat) (A : Option Addr) (w : World) (hq : w.cell? ⟨q, 0, none⟩ = some (.slice A n cap)) (hb : outB n x = b) :
    Calls Try.prog 28 #[.int .i64 x, .pointer (some ⟨q, 0, none⟩)] w fun e w' => e = .returned (.bool b) ∧ w = w' := by
  subst hb
  by_cases h0 : x < 0
  · go_enter Try.func28, Try.ntmps28
    go_wp2
    go_ret
    exact ⟨ret_bool (by unfold outB; simp [h0]), rfl⟩
  · go_enter Try.func28, Try.ntmps28
    go_wp2
    go_ret
    exact ⟨ret_bool (by unfold outB; rw [Bool.eq_iff_iff]; simp; omega), rfl⟩
set_option maxRecDepth 100000 in
set_option maxHeartbeats 1000000 in
theorem idxF_any (A : Option Addr) (n cap B q : Nat) (u : Nat → Int) (w : World) (hm : n ≤ maxLen) (hr : Rd w B A n (fun j => .int .i64 (u j))) (hq : w.cell? ⟨q, 0, none⟩ = some (.slice A n cap)) :
    Calls Try.prog 36 #[.slice A n cap, .func (.func 28) #[] #[.pointer (some ⟨q, 0, none⟩)]] w fun e w' => ∃ k : Int, e = .returned (.int .i64 k) ∧ IdxOk (anyTo (fun j => outB n (u j)) n) k ∧ w = w' := by
  unfold maxLen at hm
  have HR := Lib.hid hr; clear hr
  go_enter Try.func36, Try.ntmps36
  go_wp2
  go_loopw [8] (fun i wr => ∃ k : Nat, k ≤ n ∧ i = .int .i64 k ∧ Hid (∀ j, j < k → outB n (u j) = false) ∧ wr = w) (fun i _ => n - (intOf i).toNat)
  case atStart => exact ⟨0, by omega, rfl, Lib.hid (fun j hj => absurd hj (by omega)), rfl⟩
  case round =>
    obtain ⟨k, hk, rfl, HA, rfl⟩ := hrel
    by_cases hlt : k < n
    · obtain ⟨ad, rfl, _, hc⟩ := HR.out (by omega)
      have hck := hc k hlt
      clear hc
      obtain ⟨b, hb⟩ : ∃ b, outB n (u k) = b := ⟨_, rfl⟩
      have HB := Lib.hid hb
      clear hb
      go_wp2_with fail
      refine (bad_any b (u k) n cap q _ wr hq HB.out).mono ?_
      rintro e w1 ⟨rfl, rfl⟩
      cases b
      · go_wp2
        go_roundw
        case rel => exact ⟨k + 1, by omega, by go_num, Lib.hid (fun j hj => (Nat.lt_succ_iff_lt_or_eq.1 hj).elim (HA.out j) (fun e => by subst e; exact HB.out)), by first | rfl | trivial⟩
        case measure => simp [intOf]; omega
      · have HE : Hid (anyTo (fun j => outB n (u j)) n = true) := Lib.hid (anyTo_iff.2 ⟨k, hlt, HB.out⟩)
        go_wp2
        go_ret
        exact ⟨_, rfl, by rw [IdxOk, if_pos HE.out]; omega, rfl⟩
    · obtain rfl : k = n := by omega
      have HE : Hid (anyTo (fun j => outB k (u j)) k = false) := Lib.hid (anyTo_no.2 HA.out)
      go_wp2
      go_ret
      exact ⟨_, rfl, by rw [HE.out, IdxOk, if_neg (by simp)], rfl⟩
set_option maxRecDepth 100000 in
set_option maxHeartbeats 1000000 in
theorem contF_any (b : Bool) (A : Option Addr) (n cap B q : Nat) (u : Nat → Int) (w : World) (hm : n ≤ maxLen) (hr : Rd w B A n (fun j => .int .i64 (u j))) (hq : w.cell? ⟨q, 0, none⟩ = some (.slice A n cap)) (hb : anyTo (fun j => outB n (u j)) n = b) :
    Calls Try.prog 27 #[.slice A n cap, .func (.func 28) #[] #[.pointer (some ⟨q, 0, none⟩)]] w fun e w' => e = .returned (.bool b) ∧ w = w' := by
  have HI := Lib.hid (idxF_any A n cap B q u w hm hr hq)
  have HB := Lib.hid hb
  clear hr hq hb
  go_enter Try.func27, Try.ntmps27
  go_wp2_with fail
  refine HI.out.mono ?_
  rintro e w1 ⟨k, rfl, hk, rfl⟩
  rw [HB.out, IdxOk] at hk
  clear HI HB
  cases b
  · simp only [Bool.false_eq_true, if_false] at hk
    subst hk
    go_wp2
    go_ret
    exact ⟨rfl, rfl⟩
  · simp only [if_true] at hk
    go_wp2
    go_ret
    exact ⟨ret_bool (by first | rfl | (simp; omega)), rfl⟩
end Go.Proofs.Ytihkbkbbllmliaa
