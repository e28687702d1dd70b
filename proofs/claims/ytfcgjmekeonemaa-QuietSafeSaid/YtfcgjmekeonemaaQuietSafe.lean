/- The law QuietSafe, walked. -/
import Derived.Test.YtfcgjmekeonemaaQuLaw
set_option linter.unusedVariables false
set_option linter.unusedSimpArgs false
namespace Go.Proofs.Ytfcgjmekeonemaa
open Go.RowKit

set_option maxRecDepth 100000 in
set_option maxHeartbeats 3200000 in
theorem quietSafe_good (n m cap : Nat) (A : Option Addr) (M : Mv) (w : World) (hr : Rd w w.heap.size A (m * 4) (mvF M)) (h1 : 1 ≤ n) (h6 : n ≤ 6) (hm6 : m ≤ 60) :
    Calls Try.prog 3 #[.int .i64 n, .slice A m cap] w fun e w' => e = .returned (.bool true) ∧ Below w.heap.size w w' := by
  have HR := Lib.hid hr; clear hr
  have HB : Hid (playedB n m = true) := playedB_iff.2 ⟨by omega, by omega, by omega⟩
  go_enter Try.func3, Try.ntmps3
  go_wp2_with fail
  refine (qu_good n m cap _ A M w h1 h6 hm6 (Nat.le_refl _) HR.out).mono ?_
  rintro e w1 ⟨v, rfl, AC, cC, Wy, rfl, hW, hL⟩
  have HL := Lib.hid hL; clear hL
  have hk := qu_told h1 h6 hW
  have hw0 := hW.1
  clear hW
  generalize quDone (quE n M m) = d at hk ⊢
  generalize (quE n M m).works = wk at hk ⊢
  cases d
  · have hk : ¬ (wk = 0 ∧ Wy = 0) := fun h => by have := hk.2 h; cases this
    by_cases h0 : wk = 0
    · subst h0
      have e1 : (Wy == 0) = false := by rw [beq_eq_false_iff_ne]; exact fun h => hk ⟨rfl, h⟩
      clear hk
      go_wp2_with (go_at_call 9; refine (bool_is (played_any n m _) HB.out).mono ?_; rintro e w3 ⟨rfl, rfl⟩)
      all_goals first
        | (go_ret; exact ⟨rfl, (HL.out.alloc _).bel⟩)
        | (exfalso; rename_i hz; rw [hz] at e1; exact absurd e1 (by simp))
        | (exfalso; simp_all; done)
    · have e1 : ((wk : Int) == 0) = false := by rw [beq_eq_false_iff_ne]; omega
      clear hk h0
      go_wp2_with (go_at_call 9; refine (bool_is (played_any n m _) HB.out).mono ?_; rintro e w3 ⟨rfl, rfl⟩)
      all_goals first
        | (go_ret; exact ⟨rfl, (HL.out.alloc _).bel⟩)
        | (exfalso; rename_i hz; rw [hz] at e1; exact absurd e1 (by simp))
        | (exfalso; simp_all; done)
  · obtain ⟨rfl, rfl⟩ := hk.1 rfl
    clear hk
    go_wp2_with (go_at_call 9; refine (bool_is (played_any n m _) HB.out).mono ?_; rintro e w3 ⟨rfl, rfl⟩)
    all_goals first
      | (go_ret; exact ⟨rfl, (HL.out.alloc _).bel⟩)
      | (exfalso; rename_i hz; rw [hz] at e1; exact absurd e1 (by simp))
      | (exfalso; simp_all; done)
theorem quietSafe_bad (n : Int) (m cap : Nat) (A : Option Addr) (w : World) (hm : m ≤ maxLen) (hb : playedB n m = false) :
    Calls Try.prog 3 #[.int .i64 n, .slice A m cap] w fun e w' => e = .returned (.bool true) ∧ Below w.heap.size w w' := by
  have HB := Lib.hid hb; clear hb
  have HM := Lib.hid hm; clear hm
  go_enter Try.func3, Try.ntmps3
  go_wp2_with fail
  refine (qu_bad n m cap A w HM.out HB.out).mono ?_
  rintro e w1 ⟨rfl, hb1⟩
  have HB1 := Lib.hid hb1; clear hb1
  go_wp2_with (go_at_call 9; refine (bool_is (played_any n m _) HB.out).mono ?_; rintro e w3 ⟨rfl, rfl⟩)
  go_ret
  exact ⟨rfl, HB1.out.alloc HB1.out.size _⟩
theorem quietSafe_all (n : Int) (A : Option Addr) (m cap : Nat) (M : Mv) (w : World) (_ : (Lit.int .i64 n).wf = true) (hmc : m ≤ cap ∧ cap ≤ maxLen) (hr : Rd w w.heap.size A (m * 4) (mvF M)) :
    Calls Try.prog 3 #[.int .i64 n, .slice A m cap] w fun e w' => e = .returned (.bool true) ∧ Below w.heap.size w w' := by
  cases hb : playedB n m
  · exact quietSafe_bad n m cap A w (by omega) hb
  · obtain ⟨h1, h2, h3⟩ := playedB_iff.1 hb
    obtain ⟨k, rfl⟩ := Int.eq_ofNat_of_zero_le (show 0 ≤ n by omega)
    exact quietSafe_good k m cap A M w hr (by omega) (by omega) (by omega)
end Go.Proofs.Ytfcgjmekeonemaa
