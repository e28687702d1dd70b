/- The walk of beaconryref.Telling at two that are the same. -/
import Derived.Test.YtfdgjbanajodfaaDoorTrApp
set_option linter.unusedVariables false
set_option linter.unusedSimpArgs false
namespace Go.Proofs.YtfdgjbanajodfaaDoor
open Go.RowKit

set_option maxRecDepth 100000 in
set_option maxHeartbeats 1600000 in
theorem telling_any (c1 c2 B : Nat) (A1 A2 : Option Addr) (a : Ans) (w : World) (hn : a.names.length ≤ 1000) (hB : B ≤ w.heap.size) (hr : Rd w B A1 a.names.length (strF a.names)) (hr2 : Rd w B A2 a.names.length (strF a.names)) :
    Calls Tryd.prog 13 #[toldV A1 c1 a, toldV A2 c2 a] w fun e w' => e = .returned (.bool true) ∧ Below w.heap.size w w' := by
  have HR := Lib.hid hr; clear hr
  have HB := Lib.hid hB; clear hB
  have HR2 := Lib.hid hr2; clear hr2
  have HL := Lib.hid (((Lay.nil w).newB (toldL A1 c1 a) 35 4 rfl _ rfl).newB (toldL A2 c2 a) 35 4 rfl (w.heap.size + 1) (by simp))
  obtain ⟨code, x, v, names⟩ := a
  dsimp only [toldL, toldV] at *
  generalize hn0 : names.length = n at *
  have HF : Hid (∀ k, k < n → ∃ y : ByteArray, strF names k = .string y) := Lib.hid fun k _ => ⟨_, rfl⟩
  generalize strF names = F at *
  have e0 : ((n : Int) != (n : Int)) = false := by simp
  have e1 : (code != code) = false := by simp
  have e2 : (v != v) = false := by simp
  have e3 : ((bs x).toList != (bs x).toList) = false := by simp
  go_enter Tryd.func13, Tryd.ntmps13
  go_wp2
  refine at_lay (F := fun W' => Code.wp _ _ _ _ W') HL.out ?_
  intro W hW
  have HW := Lib.hid hW
  clear hW HL
  generalize w.heap.size + 1 = g2 at HW ⊢
  generalize w.heap.size = g1 at HW ⊢
  have HS0 : Hid (Sim W W) := Lib.hid ⟨rfl, rfl, rfl, rfl⟩
  go_loopw [5] (fun i wr => ∃ k : Nat, k ≤ n ∧ i = .int .i64 k ∧ Hid (Sim W wr)) (fun i _ => n - (intOf i).toNat)
  case atStart => exact ⟨0, by omega, rfl, HS0⟩
  case round =>
    clear HS0
    obtain ⟨k, hk, rfl, HS⟩ := hrel
    have a3 := (cell_sim HS.out _).trans (HW.out.cellB 1 rfl 3 (by omega))
    have b3 := (cell_sim HS.out _).trans (HW.out.cellB 0 rfl 3 (by omega))
    simp only [ofL_3] at a3 b3
    by_cases hlt : k < n
    · obtain ⟨ad, rfl, l1, hc⟩ := HR.out (by omega)
      obtain ⟨ad2, rfl, l2, hc2⟩ := HR2.out (by omega)
      obtain ⟨y, hy⟩ := HF.out k hlt
      have h1 : wr.cell? (ad.add k) = some (.string y) := ((cell_sim HS.out _).trans (HW.out.bel.cell (p := ad.add k) (by rw [addr_block]; have := HB.out; omega))).trans ((hc k hlt).trans (congrArg some hy))
      have h2 : wr.cell? (ad2.add k) = some (.string y) := ((cell_sim HS.out _).trans (HW.out.bel.cell (p := ad2.add k) (by rw [addr_block]; have := HB.out; omega))).trans ((hc2 k hlt).trans (congrArg some hy))
      have hb1 : (y.toList != y.toList) = false := by simp
      clear hc hc2 hy l1 l2
      go_wp2
      refine wp_text_all (by kernel_rfl) (by kernel_rfl) (by kernel_rfl) (by repeat' (first | (with_reducible apply tame_then) | (with_reducible apply tame_block) | (with_reducible apply tame_scope) | exact tame_gives | exact tame_body (fun _ _ h => ⟨_, h.1⟩))) ?_
      go_wp2
      refine headed ?_
      go_wp2
      go_roundw
      case rel => exact ⟨k + 1, by omega, by go_num, HS⟩
      case measure => simp [intOf]; omega
    · obtain rfl : n = k := by omega
      go_wp2
      go_ret
      exact ⟨rfl, below_sim HW.out.bel HS.out⟩
end Go.Proofs.YtfdgjbanajodfaaDoor
