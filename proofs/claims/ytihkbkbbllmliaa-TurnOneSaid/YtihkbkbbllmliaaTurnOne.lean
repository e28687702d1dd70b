/- The law TurnOne, walked. -/
import Derived.Test.YtihkbkbbllmliaaTuLaw
set_option linter.unusedVariables false
set_option linter.unusedSimpArgs false
namespace Go.Proofs.Ytihkbkbbllmliaa
open Go.RowKit Go.Maps Go.MapKept

set_option maxRecDepth 100000 in
set_option maxHeartbeats 1600000 in
theorem turnOne_good (n m cap : Nat) (A : Option Addr) (M : Mv) (w : World) (hr : Rd w w.heap.size A (m * 4) (mvF M)) (h1 : 1 ≤ n) (h6 : n ≤ 6) (hm6 : m ≤ 60) :
    Calls Try.prog 3 #[.int .i64 n, .slice A m cap] w fun e w' => e = .returned (.bool true) ∧ Below w.heap.size w w' := by
  have HR := Lib.hid hr; clear hr
  have HB : Hid (playedB n m = true) := Lib.hid (playedB_iff.2 ⟨by omega, by omega, by omega⟩)
  have hJ := tuE_J n M m
  have hone := in_one hJ
  have hand := in_apart hJ h6
  have h32 := (in_32 (tuE n M m) h6).1
  go_enter Try.func3, Try.ntmps3
  go_wp2_with fail
  refine (tu_good n w m cap _ A M h1 h6 hm6 (Nat.le_refl _) HR.out).mono ?_
  rintro e w1 ⟨v, rfl, AC, cC, rfl, hL⟩
  generalize inT (tuE n M m) n = a at hone hand h32 ⊢
  generalize wantT (tuE n M m) n = b at hand ⊢
  generalize wayLen n (tuE n M m).way = l
  have HL := Lib.hid (hL.newB [.slice AC m cC, .int .u32 (a : Nat), .int .u32 (b : Nat), .int .i64 (l : Nat)] 26 4 rfl _ rfl); clear hL hJ
  obtain ⟨c, hc⟩ : ∃ c, pop a = c := ⟨_, rfl⟩
  rw [hc] at hone
  have HC := Lib.hid hc
  clear hc
  go_wp2_with (first
    | (go_at_call 10; refine (bool_is (played_any n m _) HB.out).mono ?_; rintro e w3 ⟨rfl, rfl⟩)
    | (go_at_call 11; refine (size_is c a _ h32 HC.out).mono ?_; rintro e w3 ⟨rfl, rfl⟩)
    | fail)
  go_ret
  exact ⟨rfl, HL.out.bel⟩
theorem turnOne_bad (n : Int) (m cap : Nat) (A : Option Addr) (w : World) (hm : m ≤ maxLen) (hb : playedB n m = false) :
    Calls Try.prog 3 #[.int .i64 n, .slice A m cap] w fun e w' => e = .returned (.bool true) ∧ Below w.heap.size w w' := by
  have HB := Lib.hid hb; clear hb
  have HM := Lib.hid hm
  go_enter Try.func3, Try.ntmps3
  go_wp2_with fail
  refine (tu_bad n m cap A w HM.out HB.out).mono ?_
  rintro e w1 ⟨rfl, hb1⟩
  have HB1 := Lib.hid (hb1.alloc hb1.size (.cells #[.slice none 0 0, .int .u32 0, .int .u32 0, .int .i64 0] 26)); clear hb1
  unfold maxLen at hm
  go_wp2_with (go_at_call 10; refine (bool_is (played_any n m _) HB.out).mono ?_; rintro e w3 ⟨rfl, rfl⟩; clear HB)
  go_ret
  exact ⟨rfl, HB1.out⟩
theorem turnOne_all (n : Int) (A : Option Addr) (m cap : Nat) (M : Mv) (w : World) (_ : (Lit.int .i64 n).wf = true) (hmc : m ≤ cap ∧ cap ≤ maxLen) (hr : Rd w w.heap.size A (m * 4) (mvF M)) :
    Calls Try.prog 3 #[.int .i64 n, .slice A m cap] w fun e w' => e = .returned (.bool true) ∧ Below w.heap.size w w' := by
  cases hb : playedB n m
  · exact turnOne_bad n m cap A w (Nat.le_trans hmc.1 hmc.2) hb
  · obtain ⟨h1, h2, h3⟩ := playedB_iff.1 hb
    obtain ⟨n, rfl⟩ := Int.eq_ofNat_of_zero_le (show 0 ≤ n by omega)
    exact turnOne_good n m cap A M w hr (by omega) (by omega) (by omega)
end Go.Proofs.Ytihkbkbbllmliaa
