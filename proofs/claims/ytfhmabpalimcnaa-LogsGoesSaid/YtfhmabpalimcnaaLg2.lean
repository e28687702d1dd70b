/- The walks of logs' 'good', 'lead', 'stand', 'vote'. -/
import Derived.Test.YtfhmabpalimcnaaLg1
set_option linter.unusedVariables false
set_option linter.unusedSimpArgs false
namespace Go.Proofs.Ytfhmabpalimcnaa
open Go.RowKit

theorem infoIntLg : (Try.prog.info? 3).map (fun i => (i.zero, i.size, i.bytes)) = some (some (.int .i64 0), 1, 8) := by kernel_rfl
section
variable (gg g gl lo n : Nat) (s : LS) (A : Option Addr) (cap : Nat) (a : LA) (R : List LRow) (w0 w : World)
set_option maxRecDepth 100000 in
set_option maxHeartbeats 1000000 in
theorem good_any (i j : Nat) (hi : i < n) (hj : j < n) (hl : ∀ i, (s.lg i).length ≤ 30) (h : Lay w0 w (rowsG gg g gl lo n s A cap a R)) :
    Calls Try.prog 28 #[.pointer (some ⟨lo, i * 4, none⟩), .pointer (some ⟨lo, j * 4, none⟩)] w fun e w' => e = .returned (.bool (goodL (s.lg i) (s.lg j))) ∧ Lay w0 w' (rowsG gg g gl lo n s A cap a R) := by
  have H := Lib.hid h; clear h
  obtain ⟨r, hr⟩ : ∃ r, r = goodL (s.lg i) (s.lg j) := ⟨_, rfl⟩
  rw [← hr]
  unfold goodL at hr
  have HR := Lib.hid hr
  clear hr
  go_enter Try.func28, Try.ntmps28
  go_wp2_with fail
  refine (last_any gg g gl lo n s A cap a R w0 _ i hi (hl i) H.out).mono ?_
  rintro e w1 ⟨rfl, h1⟩
  have H1 := Lib.hid h1
  clear h1 H
  go_wp2_with fail
  refine (last_any gg g gl lo n s A cap a R w0 _ j hj (hl j) H1.out).mono ?_
  rintro e w2 ⟨rfl, h2⟩
  have H2 := Lib.hid h2
  clear h2 H1
  generalize lastT (s.lg i) = x at HR ⊢
  generalize lastT (s.lg j) = y at HR ⊢
  generalize (s.lg i).length = p at HR ⊢
  generalize (s.lg j).length = q at HR ⊢
  by_cases h1 : y < x
  · have hr := HR.out
    rw [decide_eq_true h1, Bool.true_or] at hr
    subst hr
    clear HR
    go_wp2
    go_ret
    exact ⟨rfl, H2.out⟩
  · by_cases h2 : x = y
    · subst h2
      by_cases h3 : q ≤ p
      · have hr := HR.out
        rw [decide_eq_false h1, decide_eq_true h3, beq_self_eq_true] at hr
        subst hr
        clear HR
        have e1 : ((x : Int) == (x : Int)) = true := beq_self_eq_true _
        go_wp2
        go_ret
        exact ⟨rfl, H2.out⟩
      · have hr := HR.out
        rw [decide_eq_false h1, decide_eq_false h3, beq_self_eq_true] at hr
        subst hr
        clear HR
        have e1 : ((x : Int) == (x : Int)) = true := beq_self_eq_true _
        go_wp2
        go_ret
        exact ⟨rfl, H2.out⟩
    · have hr := HR.out
      rw [decide_eq_false h1, show (x == y) = false by simpa using h2] at hr
      subst hr
      clear HR
      have e1 : ((x : Int) == (y : Int)) = false := by simp; omega
      clear h2
      go_wp2
      go_ret
      exact ⟨rfl, H2.out⟩
end
end Go.Proofs.Ytfhmabpalimcnaa
