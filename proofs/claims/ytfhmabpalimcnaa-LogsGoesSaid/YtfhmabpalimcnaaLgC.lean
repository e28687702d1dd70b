/- The walk of slices.Clone at []api.Entry. -/
import Derived.Test.YtfhmabpalimcnaaLg1
set_option linter.unusedVariables false
set_option linter.unusedSimpArgs false
namespace Go.Proofs.Ytfhmabpalimcnaa
open Go.RowKit

theorem infoEntCl : (Try.prog.info? 35).map (fun i => (i.zero, i.size, i.bytes)) = some (some (.agg #[.int .i64 0, .int .i64 0]), 2, 16) := by kernel_rfl
theorem ent_oneC (l : List Ent) (j : Nat) : (entF l j).oneCell' = true := by unfold entF; split <;> rfl
/-- A copy of a log, in blocks from s on. -/
def CopyE (s : Nat) (l : List Ent) (v : Value) (w : World) : Prop := ∃ A cp, v = .slice A l.length cp ∧ Own w s 35 2 A l.length cp (entF l)
set_option maxHeartbeats 800000 in
theorem cloneE_any (A : Option Addr) (cap B : Nat) (l : List Ent) (w : World) (hn : l.length ≤ 30) (hA : A = none → l.length = 0) (hB : B ≤ w.heap.size) (hr : Rd w B A (l.length * 2) (entF l)) :
    Calls Try.prog 17 #[.slice A l.length cap] w (Gives fun v w' => CopyE w.heap.size l v w' ∧ Below w.heap.size w w') := by
  obtain ⟨iI, hiI, hzI0, hzI1, hzI2⟩ := info_parts infoEntCl
  obtain ⟨n, hn2⟩ : ∃ n, l.length = n := ⟨_, rfl⟩
  unfold CopyE
  rw [hn2] at hn hA hr ⊢
  have HR : Hid (Rd w B A (n * 2) (entF l)) := Lib.hid hr
  clear hr
  rcases A with _ | ad
  · obtain rfl := hA rfl
    go_enter Try.func17, Try.ntmps17
    have hnil : ∀ W, (binOp .eql 33 (.slice none 0 cap) (.slice none 0 0)).run Try.prog W = .ok (.bool true) W := fun W => rfl
    go_wp2
    go_ret
    exact ⟨_, rfl, ⟨none, 0, rfl, Own.nil_ _ _ _ _ _⟩, Below.refl _ _⟩
  · have HL : Hid (Lay w (w.alloc (.cells #[] 35)) [⟨some ⟨w.heap.size, 0, none⟩, 35, 2, 0, 0, entF l⟩]) := Lib.hid ((Lay.nil w).new #[] 35 2 0 _ w.heap.size rfl rfl (by unfold maxLen; omega) (fun j hj => by omega))
    go_enter Try.func17, Try.ntmps17
    have hnil : ∀ W, (binOp .eql 33 (.slice (some ad) n cap) (.slice none 0 0)).run Try.prog W = .ok (.bool false) W := fun W => rfl
    go_wp2_with (first
      | (at_builtin; refine wpList_ap rfl (.tmp 5) (.tmp 6) _ rfl 35 iI _ 2 16 Try.underlying33 hiI hzI0 hzI1 hzI2 rfl (by omega) w.heap.size rfl (HL.out.own 0 _ rfl) rfl ((HR.out.below (HL.out.bel.mono hB))) (fun j _ => ent_oneC l j) (entF l) (fun _ _ => rfl) (fun j _ => by simp) n (by omega) (by unfold maxLen; omega) (by omega) (by simp) ?_
         intro A2 cap2 w4 ho hg ha
         have H4 := Lib.hid (HL.out.app 0 rfl ho hg ha)
         clear ho hg ha HL)
      | fail)
    go_ret
    exact ⟨_, rfl, ⟨A2, cap2, rfl, H4.out.own 0 _ rfl⟩, H4.out.bel⟩
end Go.Proofs.Ytfhmabpalimcnaa
