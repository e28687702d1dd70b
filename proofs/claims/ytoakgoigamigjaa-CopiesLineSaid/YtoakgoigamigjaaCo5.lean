/- The walk of do: the kind is none. -/
import Derived.Test.YtoakgoigamigjaaCo4
set_option linter.unusedVariables false
set_option linter.unusedSimpArgs false
namespace Go.Proofs.Ytoakgoigamigjaa
open Go.RowKit

section
variable (g gl n : Nat) (s : CS) (A : Option Addr) (cap : Nat) (R : List LRow) (w0 w : World)
set_option maxRecDepth 100000 in
set_option maxHeartbeats 12800000 in
theorem do_kind (k f t v : Int) (now j : Nat) (hn : n ≤ 6) (hj : j ≤ 60) (hnow : now ≤ 60) (hB : WB n j s) (h : Lay w0 w (rowsK g gl n s A cap R)) (hk : k < 1 ∨ 3 < k) :
    Calls Try.prog 11 #[.pointer (some ⟨g, 0, none⟩), .agg #[.int .i64 k, .int .i64 f, .int .i64 t, .int .i64 v], .int .i64 now] w fun e w' => e = .returned (.int .i64 (doS n k f t v now s).1) ∧ ∃ A' cap', Lay w0 w' (rowsK g gl n (doS n k f t v now s).2 A' cap' R) := by
  have HB := Lib.hid hB
  have HQ : Hid (Lay w0 (w.alloc (.cells #[.int .i64 k, .int .i64 f, .int .i64 t, .int .i64 v] 34)) (rowsK g gl n s A cap (blk w.heap.size 34 4 (ofL [.int .i64 k, .int .i64 f, .int .i64 t, .int .i64 v]) :: R))) := (h.newB [.int .i64 k, .int .i64 f, .int .i64 t, .int .i64 v] _ 4 rfl _ rfl).in3
  obtain ⟨r, hr⟩ : ∃ r, r = doS n k f t v now s := ⟨_, rfl⟩
  rw [← hr]
  unfold doS at hr
  have HR0 := Lib.hid hr
  clear hr hB h
  have tf : f < 0 ∨ 6 ≤ f ∨ (0 ≤ f ∧ f < 6) := by omega
  have tt : t < 0 ∨ (0 ≤ t ∧ (n : Int) ≤ t) ∨ (0 ≤ t ∧ t < n) := by omega
  have HR := Lib.hid (HR0.out.trans (if_pos hk))
  clear HR0
  rcases hk with hk | hk
  all_goals
    rcases tf with tf | tf | ⟨tf, tf2⟩
  all_goals
    rcases tt with tt | ⟨tt, tt2⟩ | ⟨tt, tt2⟩
  all_goals
    go_enter Try.func11, Try.ntmps11
    go_wp2
    refine at_lay (F := fun W' => Code.wp _ _ _ _ W') HQ.out ?_
    intro W hW
    have HW := Lib.hid hW
    clear hW
    generalize w.heap.size = qm at HW ⊢
    obtain ⟨a0, a1, a50⟩ := co_hd HW.out
    have ng := HW.out.ne_ 0 1 rfl rfl (by omega)
    have nm := HW.out.ne_ 0 3 rfl rfl (by omega)
    have m0 := HW.out.cellB 3 rfl 0 (by omega)
    have m1 := HW.out.cellB 3 rfl 1 (by omega)
    have m2 := HW.out.cellB 3 rfl 2 (by omega)
    have m3 := HW.out.cellB 3 rfl 3 (by omega)
    simp only [ofL_0, ofL_1, ofL_2, ofL_3] at m0 m1 m2 m3
    refine wp_text_all (by kernel_rfl) (by kernel_rfl) (by kernel_rfl) (by repeat' (first | (with_reducible apply tame_then) | (with_reducible apply tame_block) | (with_reducible apply tame_scope) | exact tame_gives | exact tame_body (fun _ _ h => ⟨_, h.1⟩))) ?_
    go_wp2
    refine headed ?_
    go_wp2
    go_ret
    exact ⟨ret_int (by rw [HR.out]), A, cap, by rw [HR.out]; exact HW.out.out3.sim ⟨rfl, rfl, rfl, rfl⟩⟩
end
end Go.Proofs.Ytoakgoigamigjaa
