/- The walk of slices.Clone at []int. -/
import Derived.Test.YtdpigpjcldcoaaaLay
import Derived.Test.YtdpigpjcldcoaaaText
set_option linter.unusedVariables false
set_option linter.unusedSimpArgs false
namespace Go.Proofs.Ytdpigpjcldcoaaa
open Go.RowKit

theorem infoIntCl : (Try.prog.info? 3).map (fun i => (i.zero, i.size, i.bytes)) = some (some (.int .i64 0), 1, 8) := by kernel_rfl
set_option maxHeartbeats 800000 in
theorem cloneI_lay (A : Option Addr) (n cap B : Nat) (u : Nat → Int) (w : World) (h1 : 1 ≤ n) (hn : n ≤ 1000) (hB : B ≤ w.heap.size) (hr : Rd w B A n (fun j => .int .i64 (u j))) :
    Calls Try.prog 16 #[.slice A n cap] w (Gives fun v w' => ∃ g cp, v = .slice (some ⟨g, 0, none⟩) n cp ∧ Lay w w' [⟨some ⟨g, 0, none⟩, 3, 1, n, cp, fun j => .int .i64 (u j)⟩]) := by
  obtain ⟨iI, hiI, hzI0, hzI1, hzI2⟩ := info_parts infoIntCl
  obtain ⟨ad, rfl, hb, hc⟩ := hr (by omega)
  have HR : Hid (Rd w B (some ad) n (fun j => .int .i64 (u j))) := Lib.hid fun _ => ⟨ad, rfl, hb, hc⟩
  clear hr hc
  have HL : Hid (Lay w (w.alloc (.cells #[] 3)) [⟨some ⟨w.heap.size, 0, none⟩, 3, 1, 0, 0, fun j => .int .i64 (u j)⟩]) := Lib.hid ((Lay.nil w).new #[] 3 1 0 _ w.heap.size rfl rfl (by unfold maxLen; omega) (fun j hj => by omega))
  go_enter Try.func16, Try.ntmps16
  have hnil : ∀ W, (binOp .eql 36 (.slice (some ad) n cap) (.slice none 0 0)).run Try.prog W = .ok (.bool false) W := fun W => rfl
  go_wp2_with (first
    | (at_builtin; refine wpList_ap1 rfl (.tmp 5) (.tmp 6) _ rfl 3 iI _ 8 Try.underlying36 hiI hzI0 hzI1 hzI2 rfl w.heap.size rfl (HL.out.own 0 _ rfl) rfl ((HR.out.below (HL.out.bel.mono hB))) (fun _ _ => rfl) (fun j => .int .i64 (u j)) (fun _ _ => rfl) (fun j _ => by simp) n (by omega) (by unfold maxLen; omega) (by omega) (by simp) ?_
       intro A2 cap2 w4 ho hg ha
       have H4 := Lib.hid (HL.out.app 0 rfl ho hg ha)
       clear ho hg ha HL)
    | fail)
  go_ret
  obtain ⟨g, rfl, hg1, hg2, -⟩ := (H4.out.own 0 _ rfl).pos (show 0 < n by omega)
  exact ⟨_, rfl, g, cap2, rfl, H4.out⟩
end Go.Proofs.Ytdpigpjcldcoaaa
