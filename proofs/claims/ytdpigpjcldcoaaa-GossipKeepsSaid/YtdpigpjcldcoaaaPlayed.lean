/- The walks of beaconryref.PlayCheck and beaconrykeep.played. -/
import Derived.Test.YtdpigpjcldcoaaaWords
set_option linter.unusedVariables false
set_option linter.unusedSimpArgs false
namespace Go.Proofs.Ytdpigpjcldcoaaa
open Go.RowKit

def playedB (n m : Int) : Bool := decide (1 ≤ n) && decide (n ≤ 6) && decide (m ≤ 60)
theorem playedB_iff {n m : Int} : playedB n m = true ↔ 1 ≤ n ∧ n ≤ 6 ∧ m ≤ 60 := by simp [playedB, and_assoc]

def playCode (n m : Int) : Int := if playedB n m then 0 else 1

set_option maxHeartbeats 400000 in
theorem playCheck_any (n m : Int) (w : World) :
    Calls Try.prog 22 #[.int .i64 n, .int .i64 m] w fun e w' => e = .returned (.int .i64 (playCode n m)) ∧ w = w' := by
  by_cases h : 1 ≤ n ∧ n ≤ 6 ∧ m ≤ 60
  · have H : Hid (playCode n m = 0) := if_pos (playedB_iff.2 h)
    obtain ⟨h1, h2, h3⟩ := h
    go_enter Try.func22, Try.ntmps22
    go_wp2
    go_ret
    exact ⟨ret_int H.out.symm, rfl⟩
  · have H : Hid (playCode n m = 1) := if_neg fun hh => h (playedB_iff.1 hh)
    have h' : n < 1 ∨ 6 < n ∨ 60 < m := by omega
    clear h
    go_enter Try.func22, Try.ntmps22
    go_wp2
    all_goals first | (go_ret; exact ⟨ret_int H.out.symm, rfl⟩) | (exfalso; omega)
theorem played_any (n m : Int) (w : World) :
    Calls Try.prog 11 #[.int .i64 n, .int .i64 m] w fun e w' => e = .returned (.bool (playedB n m)) ∧ w = w' := by
  cases hb : playedB n m
  · have hc := Lib.hid (int_is (playCheck_any n m w) (c := 1) (by rw [playCode, hb]; rfl))
    clear hb
    go_enter Try.func11, Try.ntmps11
    go_wp2_with fail
    refine hc.out.mono ?_
    rintro e w1 ⟨rfl, rfl⟩
    go_wp2
    go_ret
    exact ⟨rfl, rfl⟩
  · have hc := Lib.hid (int_is (playCheck_any n m w) (c := 0) (by rw [playCode, hb]; rfl))
    clear hb
    go_enter Try.func11, Try.ntmps11
    go_wp2_with fail
    refine hc.out.mono ?_
    rintro e w1 ⟨rfl, rfl⟩
    go_wp2
    go_ret
    exact ⟨rfl, rfl⟩
end Go.Proofs.Ytdpigpjcldcoaaa
