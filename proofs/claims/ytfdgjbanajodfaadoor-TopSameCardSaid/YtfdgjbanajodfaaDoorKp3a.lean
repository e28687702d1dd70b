/- The walk of do: deeds. -/
import Derived.Test.YtfdgjbanajodfaaDoorKp3
set_option linter.unusedVariables false
set_option linter.unusedSimpArgs false
namespace Go.Proofs.YtfdgjbanajodfaaDoor
open Go.RowKit

set_option maxRecDepth 100000 in
set_option maxHeartbeats 6400000 in
theorem kdo_deed (g gs n cs : Nat) (tb bm : Nat → Nat) (A : Option Addr) (cap : Nat) (σ : KS) (R : List LRow) (w0 w : World) (k : Nat) (x : StepX) (hn : n ≤ 6) (hB : KB n k σ) (hk : k ≤ 59) (hd : DeedL x.deed) (hxk : x.kind = 1) (hdk : 1 ≤ x.deed.kind ∧ x.deed.kind ≤ 5)
    (h : LayM w0 w (rowsK g (some ⟨gs, 0, none⟩) n cs tb bm A cap σ R) (mapsS n bm (treeAt σ))) :
    Calls Tryd.prog 22 #[.pointer (some ⟨g, 0, none⟩), stepV x] w (Gives fun v w' => ∃ AN cN A' cap', v = toldV AN cN (keepK n σ x).1 ∧
      LayM w0 w' (rowS AN cN (keepK n σ x).1.names :: rowsK g (some ⟨gs, 0, none⟩) n cs tb bm A' cap' (keepK n σ x).2 R) (mapsS n bm (treeAt (keepK n σ x).2))) := by
  obtain ⟨r, hr⟩ : ∃ r, r = keepK n σ x := ⟨_, rfl⟩
  rw [← hr]
  have HR := Lib.hid hr
  have HB := Lib.hid hB
  have HDL := Lib.hid hd
  have HM := Lib.hid ((h.newB (cellsX x) 49 7 rfl _ rfl).newB told0 35 4 rfl (w.heap.size + 1) (by simp))
  clear h hB hd hr
  obtain ⟨xk, xc, xs, dk, dp, dd, dv⟩ := x
  dsimp only at *
  subst hxk
  go_enter Tryd.func22, Tryd.ntmps22
  go_upto_region 1 with (fail)
  refine at_layM (F := fun W' => Code.wp _ _ _ _ W') HM.out ?_
  intro W hW
  have HW := Lib.hid hW
  clear hW HM
  generalize w.heap.size + 1 = t4 at HW ⊢
  generalize w.heap.size = t3 at HW ⊢
  have x0 := HW.out.lay.cellB 1 rfl 0 (by omega)
  have x1 := HW.out.lay.cellB 1 rfl 1 (by omega)
  have x2 := HW.out.lay.cellB 1 rfl 2 (by omega)
  simp only [ofL_0, ofL_1, ofL_2, ofL_3] at x0 x1 x2
  have p0 : W.cell? ⟨g, 0, none⟩ = some (.slice (some ⟨gs, 0, none⟩) n cs) := HW.out.lay.cellB 2 rfl 0 (by omega)
  obtain ⟨cb, hcb⟩ : ∃ b, decide (0 ≤ xc ∧ xc < 6) = b := ⟨_, rfl⟩
  go_cut [5] from 7 to 14 (fun c wx => c = .bool cb ∧ wx = W)
  case first =>
    by_cases c1 : 0 ≤ xc
    · by_cases c2 : xc < 6
      · obtain rfl : true = cb := by rw [← hcb]; simp; omega
        go_wp2
        go_meet
        exact ⟨rfl, rfl⟩
      · obtain rfl : false = cb := by rw [← hcb]; simp; omega
        go_wp2
        go_meet
        exact ⟨rfl, rfl⟩
    · obtain rfl : false = cb := by rw [← hcb]; simp; omega
      go_wp2
      go_meet
      exact ⟨rfl, rfl⟩
  case rest =>
    obtain ⟨rfl, hwc⟩ := hcut
    subst wc
    obtain ⟨hb, hhb⟩ : ∃ b, decide (0 ≤ xs ∧ xs < n) = b := ⟨_, rfl⟩
    go_upto_region 2 with (fail)
    go_cut [6] from 15 to 27 (fun c wx => c = .bool hb ∧ wx = W.drew)
    case first =>
      by_cases c1 : 0 ≤ xs
      · by_cases c2 : xs < n
        · obtain rfl : true = hb := by rw [← hhb]; simp; omega
          refine wp_text_all (by kernel_rfl) (by kernel_rfl) (by kernel_rfl) (by repeat' (first | (with_reducible apply tame_then) | (with_reducible apply tame_block) | (with_reducible apply tame_scope) | exact tame_gives | exact tame_body (fun _ _ h => ⟨_, h.1⟩))) ?_
          go_wp2
          refine headed ?_
          go_wp2
          go_meet
          exact ⟨rfl, rfl⟩
        · obtain rfl : false = hb := by rw [← hhb]; simp; omega
          refine wp_text_all (by kernel_rfl) (by kernel_rfl) (by kernel_rfl) (by repeat' (first | (with_reducible apply tame_then) | (with_reducible apply tame_block) | (with_reducible apply tame_scope) | exact tame_gives | exact tame_body (fun _ _ h => ⟨_, h.1⟩))) ?_
          go_wp2
          refine headed ?_
          go_wp2
          go_meet
          exact ⟨rfl, rfl⟩
      · obtain rfl : false = hb := by rw [← hhb]; simp; omega
        refine wp_text_all (by kernel_rfl) (by kernel_rfl) (by kernel_rfl) (by repeat' (first | (with_reducible apply tame_then) | (with_reducible apply tame_block) | (with_reducible apply tame_scope) | exact tame_gives | exact tame_body (fun _ _ h => ⟨_, h.1⟩))) ?_
        go_wp2
        refine headed ?_
        go_wp2
        go_meet
        exact ⟨rfl, rfl⟩
    case rest =>
      obtain ⟨rfl, hwc⟩ := hcut
      subst wc
      have HW2 := Lib.hid HW.out.drew
      clear HW x0 x1 x2 p0
      generalize W.drew = W2 at HW2 ⊢
      have x0 := HW2.out.lay.cellB 1 rfl 0 (by omega)
      have x1 := HW2.out.lay.cellB 1 rfl 1 (by omega)
      have x2 := HW2.out.lay.cellB 1 rfl 2 (by omega)
      have x3 := HW2.out.lay.cellB 1 rfl 3 (by omega)
      have x4 := HW2.out.lay.cellB 1 rfl 4 (by omega)
      have x5 := HW2.out.lay.cellB 1 rfl 5 (by omega)
      have x6 := HW2.out.lay.cellB 1 rfl 6 (by omega)
      simp only [ofL_0, ofL_1, ofL_2, ofL_3, ofL_4, ofL_5, ofL_6] at x0 x1 x2 x3 x4 x5 x6
      have p0 : W2.cell? ⟨g, 0, none⟩ = some (.slice (some ⟨gs, 0, none⟩) n cs) := HW2.out.lay.cellB 2 rfl 0 (by omega)
      have p1 : W2.cell? ⟨g, 1, none⟩ = some (.slice A σ.q cap) := HW2.out.lay.cellB 2 rfl 1 (by omega)
      have r0 := HW2.out.lay.cellB 0 rfl 0 (by omega)
      have r1 := HW2.out.lay.cellB 0 rfl 1 (by omega)
      have r2 := HW2.out.lay.cellB 0 rfl 2 (by omega)
      have r3 := HW2.out.lay.cellB 0 rfl 3 (by omega)
      have y0 := HW2.out.lay.frz 0 rfl (by omega) 0
      have y1 := HW2.out.lay.frz 0 rfl (by omega) 1
      have y2 := HW2.out.lay.frz 0 rfl (by omega) 2
      have y3 := HW2.out.lay.frz 0 rfl (by omega) 3
      clear hhb
      cases cb
      · have HE : Hid (r = (A0 2, σ)) := Lib.hid (by rw [HR.out]; exact keep_noc (.inl rfl) (of_decide_eq_false hcb) fun _ => hdk)
        clear HR hcb
        go_wp2
        have HF := Lib.hid ((((HW2.out.fld 0 0 (.int .i64 (A0 2).code) rfl (by omega) (by simp)).fld 0 1 (.string (bs (A0 2).data)) rfl (by omega) (by simp)).fld 0 2 (.int .i64 (A0 2).ver) rfl (by omega) (by simp)).fld 0 3 (.slice none (A0 2).names.length 0) rfl (by omega) (by simp))
        have f0 := HF.out.lay.cellB 0 rfl 0 (by omega)
        have f1 := HF.out.lay.cellB 0 rfl 1 (by omega)
        have f2 := HF.out.lay.cellB 0 rfl 2 (by omega)
        have f3 := HF.out.lay.cellB 0 rfl 3 (by omega)
        simp only [List.set_cons_zero, List.set_cons_succ, ofL_0, ofL_1, ofL_2, ofL_3, A0, bs_nil, List.length_nil] at f0 f1 f2 f3
        refine bodyPost_ret (v := toldV none 0 (A0 2)) (by simp [results, Tryd.results22, go_sem, f0, f1, f2, f3, toldV, A0, bs_nil]) rfl ?_
        exact ⟨_, rfl, none, 0, A, cap, by rw [HE.out], by rw [HE.out]; exact HF.out.tl.tl.lnil _ _ _⟩
      · have hc := of_decide_eq_true hcb
        obtain ⟨c, rfl⟩ := Int.eq_ofNat_of_zero_le hc.1
        have hc6 : c < 6 := by omega
        have HE : Hid (r = deedK σ c ⟨dk, dp, dd, dv⟩) := Lib.hid (by rw [HR.out]; exact keep_deed hc hdk)
        clear HR hcb hc
        have HDQ := Lib.hid (deed_any g gs n cs tb bm A cap σ _ w0 W2 c k ⟨dk, dp, dd, dv⟩ hc6 hn HB.out hk HDL.out (kp_tuck [blk t4 35 4 (ofL told0), blk t3 49 7 (ofL (cellsX ⟨1, (c : Nat), xs, ⟨dk, dp, dd, dv⟩⟩))] HW2.out))
        go_wp2_with fail
        refine HDQ.out.mono ?_
        rintro e w7 ⟨v, rfl, AN, cN, A', cap', rfl, h7⟩
        have h8 := kp_untuck [_] [blk t4 35 4 (ofL told0), blk t3 49 7 (ofL (cellsX ⟨1, (c : Nat), xs, ⟨dk, dp, dd, dv⟩⟩))] h7
        have HE1 : Hid (r.1 = (deedK σ c ⟨dk, dp, dd, dv⟩).1) := Lib.hid (by rw [HE.out])
        generalize (deedK σ c ⟨dk, dp, dd, dv⟩).1 = a at h8 HE1 ⊢
        have H5 := Lib.hid h8
        clear h7 h8 HDQ x0 x1 x2 x3 x4 x5 x6 p0 p1 r0 r1 r2 r3 y0 y1 y2 y3 HW2
        have r0 := H5.out.lay.cellB 1 rfl 0 (by omega)
        have r1 := H5.out.lay.cellB 1 rfl 1 (by omega)
        have r2 := H5.out.lay.cellB 1 rfl 2 (by omega)
        have r3 := H5.out.lay.cellB 1 rfl 3 (by omega)
        have y0 := H5.out.lay.frz 1 rfl (by omega) 0
        have y1 := H5.out.lay.frz 1 rfl (by omega) 1
        have y2 := H5.out.lay.frz 1 rfl (by omega) 2
        have y3 := H5.out.lay.frz 1 rfl (by omega) 3
        unfold toldV
        go_wp2
        have HF := Lib.hid ((((H5.out.fld 1 0 (.int .i64 (a).code) rfl (by omega) (by simp)).fld 1 1 (.string (bs (a).data)) rfl (by omega) (by simp)).fld 1 2 (.int .i64 (a).ver) rfl (by omega) (by simp)).fld 1 3 (.slice AN (a).names.length cN) rfl (by omega) (by simp))
        have f0 := HF.out.lay.cellB 1 rfl 0 (by omega)
        have f1 := HF.out.lay.cellB 1 rfl 1 (by omega)
        have f2 := HF.out.lay.cellB 1 rfl 2 (by omega)
        have f3 := HF.out.lay.cellB 1 rfl 3 (by omega)
        simp only [List.set_cons_zero, List.set_cons_succ, ofL_0, ofL_1, ofL_2, ofL_3, A0, bs_nil, List.length_nil] at f0 f1 f2 f3
        refine bodyPost_ret (v := toldV AN cN (a)) (by simp [results, Tryd.results22, go_sem, f0, f1, f2, f3, toldV, A0, bs_nil]) rfl ?_
        exact ⟨_, rfl, AN, cN, A', cap', by rw [HE1.out], by rw [HE1.out, HE.out]; exact HF.out.dn2.dn2⟩
end Go.Proofs.YtfdgjbanajodfaaDoor
