/- The walk of tree.New. -/
import Derived.Test.YtfdgjbanajodfaaDoorTrOk
set_option linter.unusedVariables false
set_option linter.unusedSimpArgs false
namespace Go.Proofs.YtfdgjbanajodfaaDoor
open Go.RowKit Go.Maps Go.MapKept

theorem TrE.zero : TrE ⟨[], fun _ => [], fun _ => 0⟩ #[] 0 := ⟨KeyL.empty _ _ _, fun x hx => by simp at hx⟩
theorem put_T0 : putS ⟨[], fun _ => [], fun _ => 0⟩ [47] [] 0 = T0 := by
  unfold putS T0
  congr 1
  · funext s; simp
  · funext s; simp
set_option maxRecDepth 100000 in
set_option maxHeartbeats 800000 in
theorem new_any (L : List LRow) (Q : List MRow) (w0 w : World) (h : LayM w0 w L Q) :
    Calls Tryd.prog 19 #[] w fun e w' => ∃ tb bm, e = .returned (.pointer (some ⟨tb, 0, none⟩)) ∧ LayM w0 w' (rowT tb bm :: L) (⟨bm, TrE T0⟩ :: Q) := by
  have HM := Lib.hid (h.newM (TrE ⟨[], fun _ => [], fun _ => 0⟩) TrE.zero _ rfl)
  have hmm := @run_makeMap Tryd.prog
  have hbm : (w.alloc (.map #[] 0)).heap[w.heap.size]? = some (.map #[] 0) := by show (w.heap.push _)[w.heap.size]? = _; simp
  obtain ⟨es, c, hrun, hE⟩ := TrE.zero.put hbm [47] [] 0 (by simp)
  rw [put_T0] at hE
  have HRUN := Lib.hid hrun
  have HN := Lib.hid (HM.out.setM 0 rfl es c (TrE T0) hE)
  have HF := Lib.hid (HN.out.newB [.map (some w.heap.size)] 86 1 rfl _ rfl)
  clear h hbm hE hrun
  go_enter Tryd.func19, Tryd.ntmps19
  go_wp2_with (first
    | (refine wpList_insE rfl (.tmp 1) (.const (.string ⟨#[47]⟩)) (.tmp 2) _ rfl rfl rfl rfl HRUN.out ?_)
    | fail)
  go_ret
  exact ⟨_, rfl, w.heap.size, HF.out⟩
end Go.Proofs.YtfdgjbanajodfaaDoor
