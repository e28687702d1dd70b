/- What merge's laws have in common. -/
import Derived.Test.YtdgegbdkimdpjaaMe7
import Derived.Test.YtdgegbdkimdpjaaHv
import Derived.Test.YtdgegbdkimdpjaaPlayed
set_option linter.unusedVariables false
set_option linter.unusedSimpArgs false
namespace Go.Proofs.Ytdgegbdkimdpjaa
open Go.RowKit Go.Maps Go.MapKept

set_option maxHeartbeats 800000 in
theorem ints_eq (n cap B : Nat) (A : Option Addr) (f : Nat → Int) (cap2 B2 : Nat) (A2 : Option Addr) (g : Nat → Int) (w : World) (hn : n ≤ maxLen) (hr : Rd w B A n (fun j => .int .i64 (f j))) (hr2 : Rd w B2 A2 n (fun j => .int .i64 (g j))) (he : ∀ i, i < n → f i = g i) :
    Calls Try.prog 10 #[.slice A n cap, .slice A2 n cap2] w fun e w' => e = .returned (.bool true) ∧ Sim w w' := by
  unfold maxLen at hn
  have HR := Lib.hid hr; clear hr
  have HR2 := Lib.hid hr2; clear hr2
  have HE := Lib.hid he; clear he
  go_enter Try.func10, Try.ntmps10
  go_wp2
  go_loopw [5] (fun x wr => ∃ j : Nat, j ≤ n ∧ x = .int .i64 j ∧ Hid (Sim w wr)) (fun x _ => n - (intOf x).toNat)
  case atStart => exact ⟨0, by omega, rfl, rfl, rfl, rfl, rfl⟩
  case round =>
    obtain ⟨j, hj, rfl, HS⟩ := hrel
    by_cases hlt : j < n
    · obtain ⟨ad, rfl, _, hc⟩ := HR.out (by omega)
      obtain ⟨ad2, rfl, _, hc2⟩ := HR2.out (by omega)
      have h1 : wr.cell? (ad.add j) = some (.int .i64 (f j)) := by unfold World.cell?; rw [HS.out.1]; exact hc j hlt
      have h2 : wr.cell? (ad2.add j) = some (.int .i64 (f j)) := by unfold World.cell?; rw [HS.out.1, HE.out j hlt]; exact hc2 j hlt
      clear hc hc2
      go_wp2
      refine wp_text_all (by kernel_rfl) (by kernel_rfl) (by kernel_rfl) (by repeat' (first | (with_reducible apply tame_then) | (with_reducible apply tame_block) | (with_reducible apply tame_scope) | exact tame_gives | exact tame_body (fun _ _ h => ⟨_, h.1⟩))) ?_
      go_wp2
      refine headed ?_
      go_wp2
      go_roundw
      case rel => exact ⟨j + 1, by omega, by go_num, HS.out⟩
      case measure => simp [intOf]; omega
    · obtain rfl : j = n := by omega
      go_wp2
      go_ret
      exact ⟨rfl, HS.out⟩

theorem Rd.sim {w w' : World} {B n : Nat} {A : Option Addr} {f : Nat → Value} (h : Rd w B A n f) (e : Sim w w') : Rd w' B A n f := h.keep fun p _ => cell_sim e p
theorem sim_trans {a b c : World} (h : Sim a b) (k : Sim b c) : Sim a c := ⟨k.1.trans h.1, k.2.1.trans h.2.1, k.2.2.1.trans h.2.2.1, k.2.2.2.trans h.2.2.2⟩
set_option maxHeartbeats 800000 in
theorem lists_eq (n cap cap2 B : Nat) (A A2 : Option Addr) (gI gI2 : Nat → Value) (la : Nat → Nat) (fa : Nat → Nat → Int) (w : World) (hn : n ≤ 6) (hl : ∀ a, la a ≤ 100) (hr : Rd w B A n gI) (hr2 : Rd w B A2 n gI2)
    (h1 : ∀ a, a < n → ∃ X c, gI a = .slice X (la a) c ∧ Rd w B X (la a) (fun j => .int .i64 (fa a j))) (h2 : ∀ a, a < n → ∃ X c, gI2 a = .slice X (la a) c ∧ Rd w B X (la a) (fun j => .int .i64 (fa a j))) :
    Calls Try.prog 11 #[.slice A n cap, .slice A2 n cap2] w fun e w' => e = .returned (.bool true) ∧ Sim w w' := by
  have HR := Lib.hid hr; clear hr
  have HR2 := Lib.hid hr2; clear hr2
  have H1 := Lib.hid h1; clear h1
  have H2 := Lib.hid h2; clear h2
  have HLA := Lib.hid hl; clear hl
  go_enter Try.func11, Try.ntmps11
  go_wp2
  go_loopw [5] (fun x wr => ∃ j : Nat, j ≤ n ∧ x = .int .i64 j ∧ Hid (Sim w wr)) (fun x _ => n - (intOf x).toNat)
  case atStart => exact ⟨0, by omega, rfl, rfl, rfl, rfl, rfl⟩
  case round =>
    obtain ⟨j, hj, rfl, HS⟩ := hrel
    by_cases hlt : j < n
    · obtain ⟨ad, rfl, _, hc⟩ := HR.out (by omega)
      obtain ⟨ad2, rfl, _, hc2⟩ := HR2.out (by omega)
      obtain ⟨X, c, e1, r1⟩ := H1.out j hlt
      obtain ⟨X2, c2, e2, r2⟩ := H2.out j hlt
      have h1 : wr.cell? (ad.add j) = some (.slice X (la j) c) := by unfold World.cell?; rw [HS.out.1, ← e1]; exact hc j hlt
      have h2 : wr.cell? (ad2.add j) = some (.slice X2 (la j) c2) := by unfold World.cell?; rw [HS.out.1, ← e2]; exact hc2 j hlt
      have HC := Lib.hid (ints_eq (la j) c B X (fa j) c2 B X2 (fa j) wr.drew (by have := HLA.out j; unfold maxLen; omega) ((r1.sim HS.out).sim ⟨rfl, rfl, rfl, rfl⟩) ((r2.sim HS.out).sim ⟨rfl, rfl, rfl, rfl⟩) (fun _ _ => rfl))
      clear hc hc2 e1 e2 r1 r2
      go_wp2
      refine wp_text 8 (by kernel_rfl) (by kernel_rfl) (by kernel_rfl) (by repeat' (first | (with_reducible apply tame_then) | (with_reducible apply tame_block) | (with_reducible apply tame_scope) | exact tame_gives | exact tame_body (fun _ _ h => ⟨_, h.1⟩))) ?_
      simp only [List.take_succ_cons, List.take_zero, List.drop_succ_cons, List.drop_zero]
      go_wp2
      refine headed ?_
      go_wp2_with fail
      refine HC.out.mono ?_
      rintro e w4 ⟨rfl, hs4⟩
      have HS4 : Hid (Sim w w4) := Lib.hid (sim_trans (sim_trans HS.out (show Sim wr wr.drew from ⟨rfl, rfl, rfl, rfl⟩)) hs4)
      clear hs4
      go_wp2
      go_roundw
      case rel => exact ⟨j + 1, by omega, by go_num, HS4⟩
      case measure => simp [intOf]; omega
    · obtain rfl : j = n := by omega
      go_wp2
      go_ret
      exact ⟨rfl, HS.out⟩
set_option maxHeartbeats 400000 in
theorem merged_true (AC AI AN : Option Addr) (m n cC cI cN : Nat) (w : World) (hm : m ≤ 100) (hn : n ≤ 6) :
    Calls Try.prog 9 #[.agg #[.slice AC m cC, .slice AI n cI, .slice AN n cN], .int .i64 n, .int .i64 m] w fun e w' => e = .returned (.bool true) ∧ Below w.heap.size w w' := by
  go_enter Try.func9, Try.ntmps9
  go_wp2
  go_ret
  exact ⟨rfl, (Below.refl _ _).alloc (Nat.le_refl _) _⟩
end Go.Proofs.Ytdgegbdkimdpjaa
