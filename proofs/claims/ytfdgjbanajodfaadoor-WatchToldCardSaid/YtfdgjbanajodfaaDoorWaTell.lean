/- The walk of beaconryref.Tellings at two that are the same. -/
import Derived.Test.YtfdgjbanajodfaaDoorWaLaw
set_option linter.unusedVariables false
set_option linter.unusedSimpArgs false
namespace Go.Proofs.YtfdgjbanajodfaaDoor
open Go.RowKit

theorem wans_len (X : Nat → AskX) (j : Nat) (h : ∀ i, i < j → DeedL (X i).deed) : (wans X j).names.length ≤ 12 := by
  show (askW (wst X j) (X j)).1.names.length ≤ 12
  by_cases hx : 0 ≤ (X j).who ∧ (X j).who < 6
  · rw [(ask_st hx).1]
    exact ans_len (wst_ok X j h).tr _
  · rw [ask_bad hx]
    exact Nat.zero_le _
set_option maxRecDepth 100000 in
set_option maxHeartbeats 1600000 in
theorem tellings_any (n c1 c2 B : Nat) (A1 A2 : Option Addr) (NA1 NA2 : Nat → Option Addr) (NC1 NC2 : Nat → Nat) (a : Nat → Ans) (w : World) (hn : n ≤ 60) (h1 : PlR w B A1 n NA1 NC1 a) (h2 : PlR w B A2 n NA2 NC2 a) (hl : ∀ t, t < n → (a t).names.length ≤ 12) :
    Calls Tryd.prog 12 #[.slice A1 n c1, .slice A2 n c2] w fun e w' => e = .returned (.bool true) ∧ Below w.heap.size w w' := by
  have H1 := Lib.hid h1
  have H2 := Lib.hid h2
  have HL := Lib.hid hl
  have e0 : ((n : Int) != (n : Int)) = false := by simp
  clear h1 h2 hl
  go_enter Tryd.func12, Tryd.ntmps12
  go_wp2
  clear e0
  go_loopw [5] (fun i wr => ∃ k : Nat, k ≤ n ∧ i = .int .i64 (k : Nat) ∧ Hid (Below w.heap.size w wr)) (fun i _ => n - (intOf i).toNat)
  case atStart => exact ⟨0, by omega, rfl, Lib.hid (Below.refl _ _)⟩
  case round =>
    obtain ⟨k, hk, rfl, HQ⟩ := hrel
    by_cases hlt : k < n
    · obtain ⟨ad1, rfl, -, a0, a1, a2, a3⟩ := (H1.out.to HQ.out).rec4 hlt
      obtain ⟨ad2, rfl, -, b0, b1, b2, b3⟩ := (H2.out.to HQ.out).rec4 hlt
      have HQD : Hid (Below w.heap.size w wr.drew) := Lib.hid (below_sim HQ.out ⟨rfl, rfl, rfl, rfl⟩)
      have T1 := Lib.hid ((H1.out.to HQD.out).N k hlt)
      have T2 := Lib.hid ((H2.out.to HQD.out).N k hlt)
      have TL := Lib.hid (Nat.le_trans (HL.out k hlt) (show 12 ≤ 1000 by omega))
      have TB := Lib.hid (H1.out.to HQD.out).le
      generalize a k = x at a0 a1 a2 a3 b0 b1 b2 b3 T1 T2 TL
      go_wp2
      refine wp_text 8 (by kernel_rfl) (by kernel_rfl) (by kernel_rfl) (by repeat' (first | (with_reducible apply tame_then) | (with_reducible apply tame_block) | (with_reducible apply tame_scope) | exact tame_gives | exact tame_body (fun _ _ h => ⟨_, h.1⟩))) ?_
      simp only [List.take_succ_cons, List.take_zero, List.drop_succ_cons, List.drop_zero]
      go_wp2
      refine headed ?_
      go_wp2_with fail
      refine (telling_any (NC1 k) (NC2 k) B (NA1 k) (NA2 k) x wr.drew TL.out TB.out T1.out T2.out).mono ?_
      rintro e w2 ⟨rfl, hb2⟩
      have HB2 := Lib.hid (HQD.out.trans (hb2.mono HQD.out.size))
      clear hb2
      go_wp2
      go_roundw
      case rel => exact ⟨k + 1, by omega, by go_num, HB2⟩
      case measure => simp [intOf]; omega
    · obtain rfl : n = k := by omega
      go_wp2
      go_ret
      exact ⟨rfl, HQ.out⟩
end Go.Proofs.YtfdgjbanajodfaaDoor
