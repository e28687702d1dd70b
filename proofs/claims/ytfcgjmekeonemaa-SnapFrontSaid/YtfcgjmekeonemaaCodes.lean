/- beaconryref.Codes of two lists that hold the same. -/
import Derived.Test.YtfcgjmekeonemaaWords
import Derived.Test.YtfcgjmekeonemaaText
import Derived.Test.YtfcgjmekeonemaaRow
import Derived.Test.YtfcgjmekeonemaaLay
import Derived.Test.YtfcgjmekeonemaaStill
set_option linter.unusedVariables false
set_option linter.unusedSimpArgs false
namespace Go.Proofs.Ytfcgjmekeonemaa
open Go.RowKit

set_option maxRecDepth 100000 in
set_option maxHeartbeats 1000000 in
theorem codes_same (A1 A2 : Option Addr) (m c1 c2 B1 B2 : Nat) (F : Nat → Int) (w : World) (hm : m ≤ 60) (h1 : Rd w B1 A1 m (fun i => .int .i64 (F i))) (h2 : Rd w B2 A2 m (fun i => .int .i64 (F i))) (b1 : m ≤ c1 ∧ c1 ≤ maxLen) (b2 : m ≤ c2 ∧ c2 ≤ maxLen) :
    Calls Try.prog 10 #[.slice A1 m c1, .slice A2 m c2] w fun e w' => e = .returned (.bool true) ∧ Sim w w' := by
  have H1 := Lib.hid h1; clear h1
  have H2 := Lib.hid h2; clear h2
  unfold maxLen at b1 b2
  go_enter Try.func10, Try.ntmps10
  go_wp2
  go_loopw [5] (fun i wr => ∃ q : Nat, q ≤ m ∧ i = .int .i64 q ∧ Hid (Sim w wr)) (fun i _ => m - (intOf i).toNat)
  case atStart => exact ⟨0, by omega, rfl, Lib.hid ⟨rfl, rfl, rfl, rfl⟩⟩
  case round =>
    obtain ⟨q, hq, rfl, HS⟩ := hrel
    by_cases hlt : q < m
    · obtain ⟨g1, rfl, hg1, hc1⟩ := H1.out (by omega)
      obtain ⟨g2, rfl, hg2, hc2⟩ := H2.out (by omega)
      have x1 := (cell_sim HS.out _).trans (hc1 q hlt)
      have x2 := (cell_sim HS.out _).trans (hc2 q hlt)
      clear hc1 hc2 hg1 hg2
      go_wp2
      refine wp_text_all (by kernel_rfl) (by kernel_rfl) (by kernel_rfl) (by repeat' (first | (with_reducible apply tame_then) | (with_reducible apply tame_block) | (with_reducible apply tame_scope) | exact tame_gives | exact tame_body (fun _ _ h => ⟨_, h.1⟩))) ?_
      go_wp2
      refine headed ?_
      go_wp2
      go_roundw
      case rel => exact ⟨q + 1, by omega, by go_num, HS⟩
      case measure => simp [intOf]; omega
    · go_wp2
      go_ret
      exact ⟨rfl, HS.out⟩
end Go.Proofs.Ytfcgjmekeonemaa
