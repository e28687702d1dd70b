/- The walk of do: steps of no kind. -/
import Derived.Test.YtfdgjbanajodfaaDoorKp2
import Derived.Deep.CutRange
set_option linter.unusedVariables false
set_option linter.unusedSimpArgs false
namespace Go.Proofs.YtfdgjbanajodfaaDoor
open Go.RowKit

abbrev cellsX (x : StepX) : List Value := [.int .i64 x.kind, .int .i64 x.client, .int .i64 x.server, .int .i64 x.deed.kind, .string (bs x.deed.path), .string (bs x.deed.data), .int .i64 x.deed.version]
abbrev stepV (x : StepX) : Value := .agg #[.int .i64 x.kind, .int .i64 x.client, .int .i64 x.server, .int .i64 x.deed.kind, .string (bs x.deed.path), .string (bs x.deed.data), .int .i64 x.deed.version]
theorem apply_1 {P : Program} {f : FuncId} {p : Value} {s m : Nat} {w : World} {Q : Ending → World → Prop} (h : Calls P f #[p, .int .i64 s, .int .i64 (m + 1 : Nat)] w Q) : Calls P f #[p, .int .i64 s, .int .i64 ((m : Int) + 1)] w Q := h
set_option maxRecDepth 100000 in
set_option maxHeartbeats 6400000 in
theorem kdo_bad (g gs n cs : Nat) (tb bm : Nat → Nat) (A : Option Addr) (cap : Nat) (σ : KS) (R : List LRow) (w0 w : World) (k : Nat) (x : StepX) (hn : n ≤ 6) (hB : KB n k σ) (hk : k ≤ 59) (hd : DeedL x.deed) (hbad : x.kind < 1 ∨ 4 < x.kind ∨ (x.kind = 1 ∧ (x.deed.kind < 1 ∨ 5 < x.deed.kind)))
    (h : LayM w0 w (rowsK g (some ⟨gs, 0, none⟩) n cs tb bm A cap σ R) (mapsS n bm (treeAt σ))) :
    Calls Tryd.prog 22 #[.pointer (some ⟨g, 0, none⟩), stepV x] w (Gives fun v w' => ∃ AN cN A' cap', v = toldV AN cN (keepK n σ x).1 ∧
      LayM w0 w' (rowS AN cN (keepK n σ x).1.names :: rowsK g (some ⟨gs, 0, none⟩) n cs tb bm A' cap' (keepK n σ x).2 R) (mapsS n bm (treeAt (keepK n σ x).2))) := by
  obtain ⟨r, hr⟩ : ∃ r, r = keepK n σ x := ⟨_, rfl⟩
  rw [← hr]
  have HR := Lib.hid hr
  have HB := Lib.hid hB
  have HDL := Lib.hid hd
  have HM := Lib.hid ((h.newB (cellsX x) 49 7 rfl _ rfl).newB told0 35 4 rfl (w.heap.size + 1) (by simp))
  clear h hB hd hr
  obtain ⟨xk, xc, xs, dk, dp, dd, dv⟩ := x
  dsimp only at *
  go_enter Tryd.func22, Tryd.ntmps22
  go_upto_region 1 with (fail)
  refine at_layM (F := fun W' => Code.wp _ _ _ _ W') HM.out ?_
  intro W hW
  have HW := Lib.hid hW
  clear hW HM
  generalize w.heap.size + 1 = t4 at HW ⊢
  generalize w.heap.size = t3 at HW ⊢
  have x0 := HW.out.lay.cellB 1 rfl 0 (by omega)
  have x1 := HW.out.lay.cellB 1 rfl 1 (by omega)
  have x2 := HW.out.lay.cellB 1 rfl 2 (by omega)
  simp only [ofL_0, ofL_1, ofL_2, ofL_3] at x0 x1 x2
  have p0 : W.cell? ⟨g, 0, none⟩ = some (.slice (some ⟨gs, 0, none⟩) n cs) := HW.out.lay.cellB 2 rfl 0 (by omega)
  obtain ⟨cb, hcb⟩ : ∃ b, decide (0 ≤ xc ∧ xc < 6) = b := ⟨_, rfl⟩
  go_cut [5] from 7 to 14 (fun c wx => c = .bool cb ∧ wx = W)
  case first =>
    by_cases c1 : 0 ≤ xc
    · by_cases c2 : xc < 6
      · obtain rfl : true = cb := by rw [← hcb]; simp; omega
        go_wp2
        go_meet
        exact ⟨rfl, rfl⟩
      · obtain rfl : false = cb := by rw [← hcb]; simp; omega
        go_wp2
        go_meet
        exact ⟨rfl, rfl⟩
    · obtain rfl : false = cb := by rw [← hcb]; simp; omega
      go_wp2
      go_meet
      exact ⟨rfl, rfl⟩
  case rest =>
    obtain ⟨rfl, hwc⟩ := hcut
    subst wc
    obtain ⟨hb, hhb⟩ : ∃ b, decide (0 ≤ xs ∧ xs < n) = b := ⟨_, rfl⟩
    go_upto_region 2 with (fail)
    go_cut [6] from 15 to 27 (fun c wx => c = .bool hb ∧ wx = W.drew)
    case first =>
      by_cases c1 : 0 ≤ xs
      · by_cases c2 : xs < n
        · obtain rfl : true = hb := by rw [← hhb]; simp; omega
          refine wp_text_all (by kernel_rfl) (by kernel_rfl) (by kernel_rfl) (by repeat' (first | (with_reducible apply tame_then) | (with_reducible apply tame_block) | (with_reducible apply tame_scope) | exact tame_gives | exact tame_body (fun _ _ h => ⟨_, h.1⟩))) ?_
          go_wp2
          refine headed ?_
          go_wp2
          go_meet
          exact ⟨rfl, rfl⟩
        · obtain rfl : false = hb := by rw [← hhb]; simp; omega
          refine wp_text_all (by kernel_rfl) (by kernel_rfl) (by kernel_rfl) (by repeat' (first | (with_reducible apply tame_then) | (with_reducible apply tame_block) | (with_reducible apply tame_scope) | exact tame_gives | exact tame_body (fun _ _ h => ⟨_, h.1⟩))) ?_
          go_wp2
          refine headed ?_
          go_wp2
          go_meet
          exact ⟨rfl, rfl⟩
      · obtain rfl : false = hb := by rw [← hhb]; simp; omega
        refine wp_text_all (by kernel_rfl) (by kernel_rfl) (by kernel_rfl) (by repeat' (first | (with_reducible apply tame_then) | (with_reducible apply tame_block) | (with_reducible apply tame_scope) | exact tame_gives | exact tame_body (fun _ _ h => ⟨_, h.1⟩))) ?_
        go_wp2
        refine headed ?_
        go_wp2
        go_meet
        exact ⟨rfl, rfl⟩
    case rest =>
      obtain ⟨rfl, hwc⟩ := hcut
      subst wc
      have HW2 := Lib.hid HW.out.drew
      clear HW x0 x1 x2 p0
      generalize W.drew = W2 at HW2 ⊢
      have x0 := HW2.out.lay.cellB 1 rfl 0 (by omega)
      have x1 := HW2.out.lay.cellB 1 rfl 1 (by omega)
      have x2 := HW2.out.lay.cellB 1 rfl 2 (by omega)
      have x3 := HW2.out.lay.cellB 1 rfl 3 (by omega)
      have x4 := HW2.out.lay.cellB 1 rfl 4 (by omega)
      have x5 := HW2.out.lay.cellB 1 rfl 5 (by omega)
      have x6 := HW2.out.lay.cellB 1 rfl 6 (by omega)
      simp only [ofL_0, ofL_1, ofL_2, ofL_3, ofL_4, ofL_5, ofL_6] at x0 x1 x2 x3 x4 x5 x6
      have p0 : W2.cell? ⟨g, 0, none⟩ = some (.slice (some ⟨gs, 0, none⟩) n cs) := HW2.out.lay.cellB 2 rfl 0 (by omega)
      have p1 : W2.cell? ⟨g, 1, none⟩ = some (.slice A σ.q cap) := HW2.out.lay.cellB 2 rfl 1 (by omega)
      have r0 := HW2.out.lay.cellB 0 rfl 0 (by omega)
      have r1 := HW2.out.lay.cellB 0 rfl 1 (by omega)
      have r2 := HW2.out.lay.cellB 0 rfl 2 (by omega)
      have r3 := HW2.out.lay.cellB 0 rfl 3 (by omega)
      have y0 := HW2.out.lay.frz 0 rfl (by omega) 0
      have y1 := HW2.out.lay.frz 0 rfl (by omega) 1
      have y2 := HW2.out.lay.frz 0 rfl (by omega) 2
      have y3 := HW2.out.lay.frz 0 rfl (by omega) 3
      have HE : Hid (r = (A0 6, σ)) := Lib.hid (by rw [HR.out]; exact if_pos hbad)
      clear HR hcb hhb
      rcases hbad with h | h | ⟨rfl, h | h⟩
      · go_wp2
        have HF := Lib.hid ((((HW2.out.fld 0 0 (.int .i64 (A0 6).code) rfl (by omega) (by simp)).fld 0 1 (.string (bs (A0 6).data)) rfl (by omega) (by simp)).fld 0 2 (.int .i64 (A0 6).ver) rfl (by omega) (by simp)).fld 0 3 (.slice none (A0 6).names.length 0) rfl (by omega) (by simp))
        have f0 := HF.out.lay.cellB 0 rfl 0 (by omega)
        have f1 := HF.out.lay.cellB 0 rfl 1 (by omega)
        have f2 := HF.out.lay.cellB 0 rfl 2 (by omega)
        have f3 := HF.out.lay.cellB 0 rfl 3 (by omega)
        simp only [List.set_cons_zero, List.set_cons_succ, ofL_0, ofL_1, ofL_2, ofL_3, A0, bs_nil, List.length_nil] at f0 f1 f2 f3
        refine bodyPost_ret (v := toldV none 0 (A0 6)) (by simp [results, Tryd.results22, go_sem, f0, f1, f2, f3, toldV, A0, bs_nil]) rfl ?_
        exact ⟨_, rfl, none, 0, A, cap, by rw [HE.out], by rw [HE.out]; exact HF.out.tl.tl.lnil _ _ _⟩
      · go_wp2
        have HF := Lib.hid ((((HW2.out.fld 0 0 (.int .i64 (A0 6).code) rfl (by omega) (by simp)).fld 0 1 (.string (bs (A0 6).data)) rfl (by omega) (by simp)).fld 0 2 (.int .i64 (A0 6).ver) rfl (by omega) (by simp)).fld 0 3 (.slice none (A0 6).names.length 0) rfl (by omega) (by simp))
        have f0 := HF.out.lay.cellB 0 rfl 0 (by omega)
        have f1 := HF.out.lay.cellB 0 rfl 1 (by omega)
        have f2 := HF.out.lay.cellB 0 rfl 2 (by omega)
        have f3 := HF.out.lay.cellB 0 rfl 3 (by omega)
        simp only [List.set_cons_zero, List.set_cons_succ, ofL_0, ofL_1, ofL_2, ofL_3, A0, bs_nil, List.length_nil] at f0 f1 f2 f3
        refine bodyPost_ret (v := toldV none 0 (A0 6)) (by simp [results, Tryd.results22, go_sem, f0, f1, f2, f3, toldV, A0, bs_nil]) rfl ?_
        exact ⟨_, rfl, none, 0, A, cap, by rw [HE.out], by rw [HE.out]; exact HF.out.tl.tl.lnil _ _ _⟩
      · go_wp2
        have HF := Lib.hid ((((HW2.out.fld 0 0 (.int .i64 (A0 6).code) rfl (by omega) (by simp)).fld 0 1 (.string (bs (A0 6).data)) rfl (by omega) (by simp)).fld 0 2 (.int .i64 (A0 6).ver) rfl (by omega) (by simp)).fld 0 3 (.slice none (A0 6).names.length 0) rfl (by omega) (by simp))
        have f0 := HF.out.lay.cellB 0 rfl 0 (by omega)
        have f1 := HF.out.lay.cellB 0 rfl 1 (by omega)
        have f2 := HF.out.lay.cellB 0 rfl 2 (by omega)
        have f3 := HF.out.lay.cellB 0 rfl 3 (by omega)
        simp only [List.set_cons_zero, List.set_cons_succ, ofL_0, ofL_1, ofL_2, ofL_3, A0, bs_nil, List.length_nil] at f0 f1 f2 f3
        refine bodyPost_ret (v := toldV none 0 (A0 6)) (by simp [results, Tryd.results22, go_sem, f0, f1, f2, f3, toldV, A0, bs_nil]) rfl ?_
        exact ⟨_, rfl, none, 0, A, cap, by rw [HE.out], by rw [HE.out]; exact HF.out.tl.tl.lnil _ _ _⟩
      · go_wp2
        have HF := Lib.hid ((((HW2.out.fld 0 0 (.int .i64 (A0 6).code) rfl (by omega) (by simp)).fld 0 1 (.string (bs (A0 6).data)) rfl (by omega) (by simp)).fld 0 2 (.int .i64 (A0 6).ver) rfl (by omega) (by simp)).fld 0 3 (.slice none (A0 6).names.length 0) rfl (by omega) (by simp))
        have f0 := HF.out.lay.cellB 0 rfl 0 (by omega)
        have f1 := HF.out.lay.cellB 0 rfl 1 (by omega)
        have f2 := HF.out.lay.cellB 0 rfl 2 (by omega)
        have f3 := HF.out.lay.cellB 0 rfl 3 (by omega)
        simp only [List.set_cons_zero, List.set_cons_succ, ofL_0, ofL_1, ofL_2, ofL_3, A0, bs_nil, List.length_nil] at f0 f1 f2 f3
        refine bodyPost_ret (v := toldV none 0 (A0 6)) (by simp [results, Tryd.results22, go_sem, f0, f1, f2, f3, toldV, A0, bs_nil]) rfl ?_
        exact ⟨_, rfl, none, 0, A, cap, by rw [HE.out], by rw [HE.out]; exact HF.out.tl.tl.lnil _ _ _⟩
end Go.Proofs.YtfdgjbanajodfaaDoor
