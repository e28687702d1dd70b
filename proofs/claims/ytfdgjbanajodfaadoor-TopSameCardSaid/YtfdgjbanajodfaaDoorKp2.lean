/- The walk of deed. -/
import Derived.Test.YtfdgjbanajodfaaDoorKp1
import Derived.Test.YtfdgjbanajodfaaDoorHeld
set_option linter.unusedVariables false
set_option linter.unusedSimpArgs false
namespace Go.Proofs.YtfdgjbanajodfaaDoor
open Go.RowKit

theorem plF_two (SA : Option Addr) (n cs : Nat) (A : Option Addr) (q cap : Nat) (at_ seen : Nat → Nat) (j : Nat) : plF SA n cs A q cap at_ seen (j + 2) = if j < 6 then .int .i64 (at_ j : Nat) else .int .i64 (seen (j - 6) : Nat) := rfl
theorem plF_at (SA : Option Addr) (n cs : Nat) (A : Option Addr) (q cap : Nat) (at_ seen : Nat → Nat) {c : Nat} (hc : c < 6) : plF SA n cs A q cap at_ seen (2 + c) = .int .i64 (at_ c : Nat) := by
  rw [Nat.add_comm, plF_two, if_pos hc]
theorem plF_seen (SA : Option Addr) (n cs : Nat) (A : Option Addr) (q cap : Nat) (at_ seen : Nat → Nat) (c : Nat) : plF SA n cs A q cap at_ seen (8 + c) = .int .i64 (seen c : Nat) := by
  rw [show 8 + c = (6 + c) + 2 by omega]; rw [plF_two, if_neg (by omega), Nat.add_sub_cancel_left]
theorem plF_setS (SA : Option Addr) (n cs : Nat) (A : Option Addr) (q cap : Nat) (at_ seen : Nat → Nat) (c v : Nat) : plF SA n cs A q cap at_ (kset seen c v) (8 + c) = .int .i64 (v : Nat) ∧ ∀ i, i ≠ 8 + c → plF SA n cs A q cap at_ (kset seen c v) i = plF SA n cs A q cap at_ seen i := by
  refine ⟨by rw [plF_seen, kset_at], fun i hi => ?_⟩
  rcases i with _ | _ | i
  · rfl
  · rfl
  · rw [plF_two, plF_two]
    by_cases h : i < 6
    · rw [if_pos h, if_pos h]
    · rw [if_neg h, if_neg h, kset_ne _ _ (by omega)]
theorem plF_setA (SA : Option Addr) (n cs : Nat) (A : Option Addr) (q cap : Nat) (at_ seen : Nat → Nat) (v : Nat) {c : Nat} (hc : c < 6) : plF SA n cs A q cap (kset at_ c v) seen (2 + c) = .int .i64 (v : Nat) ∧ ∀ i, i ≠ 2 + c → plF SA n cs A q cap (kset at_ c v) seen i = plF SA n cs A q cap at_ seen i := by
  refine ⟨by rw [plF_at _ _ _ _ _ _ _ _ hc, kset_at], fun i hi => ?_⟩
  rcases i with _ | _ | i
  · rfl
  · rfl
  · rw [plF_two, plF_two]
    by_cases h : i < 6
    · rw [if_pos h, if_pos h, kset_ne _ _ (by omega)]
    · rw [if_neg h, if_neg h]
theorem doS_read {st : TS} {d : Deed} (h : d.kind = 4 ∨ d.kind = 5) : (doS st d).2 = st := by
  unfold doS
  by_cases c1 : d.kind < 1 ∨ 5 < d.kind
  · rw [if_pos c1]
  rw [if_neg c1]
  by_cases c2 : nameB d.path = false
  · rw [if_pos c2]
  rw [if_neg c2]
  by_cases c3 : (d.kind = 1 ∨ d.kind = 2) ∧ 20 < d.data.length
  · rw [if_pos c3]
  rw [if_neg c3, if_neg (by omega)]
  by_cases c5 : d.kind = 3 ∧ d.path = [47]
  · rw [if_pos c5]
  rw [if_neg c5]
  by_cases c6 : d.path ∉ st.ks
  · rw [if_pos c6]
  rw [if_neg c6]
  by_cases c7 : d.kind = 4
  · rw [if_pos c7]
  rw [if_neg c7, if_pos (by omega)]
theorem kset_self {α : Type} (f : Nat → α) (s : Nat) : kset f s (f s) = f := by
  funext i
  unfold kset
  split
  · rename_i h; rw [h]
  · rfl
theorem tree_add {σ : KS} (h : ∀ s, σ.ap s ≤ σ.q) (d : Deed) : treeAt (addK σ d) = treeAt σ := by
  funext s
  show runS T0 (kset σ.ord σ.q d) (σ.ap s) = runS T0 σ.ord (σ.ap s)
  exact runS_congr _ fun i hi => kset_ne _ _ (by have := h s; omega)
theorem tree_seen (σ : KS) (c m : Nat) : treeAt (seenK σ c m) = treeAt σ := rfl
theorem plF_setO (SA : Option Addr) (n cs : Nat) (A A' : Option Addr) (q cap q' cap' : Nat) (at_ seen : Nat → Nat) : plF SA n cs A' q' cap' at_ seen 1 = .slice A' q' cap' ∧ ∀ i, i ≠ 1 → plF SA n cs A' q' cap' at_ seen i = plF SA n cs A q cap at_ seen i := by
  refine ⟨rfl, fun i hi => ?_⟩
  rcases i with _ | _ | i
  · rfl
  · exact absurd rfl hi
  · rfl
theorem app_kset (D : Nat → Deed) (q : Nat) (d : Deed) : ∀ j, j < (q + 1) * 4 → ddF (appD D q (lsD [d])) j = ddF (kset D q d) j := fun j hj => by
  have e : appD D q (lsD [d]) (j / 4) = kset D q d (j / 4) := by
    by_cases h : j / 4 < q
    · rw [appD_old _ _ _ h, kset_ne _ _ (by omega)]
    · obtain e : j / 4 = q + 0 := by omega
      rw [e, appD_new, Nat.add_zero, kset_at]; rfl
  unfold ddF
  rw [e]
theorem tuck_perm {α : Type} (X Y F R : List α) : (X ++ (Y ++ (F ++ R))).Perm (Y ++ (F ++ (X ++ R))) := by
  have h : (X ++ (Y ++ F)).Perm ((Y ++ F) ++ X) := List.perm_append_comm
  have := h.append_right R
  simpa only [List.append_assoc] using this
section
variable {w0 w : World} {g : Nat} {SA : Option Addr} {n cs : Nat} {tb bm : Nat → Nat} {A : Option Addr} {cap : Nat} {σ : KS} {R : List LRow} {Q : List MRow}
theorem kp_tuck (X : List LRow) (h : LayM w0 w (X ++ rowsK g SA n cs tb bm A cap σ R) Q) : LayM w0 w (rowsK g SA n cs tb bm A cap σ (X ++ R)) Q :=
  h.permL (tuck_perm X [rowP g SA n cs A σ.q cap σ.at_ σ.seen, rowV SA n cs tb σ.ap, dds A σ.q cap σ.ord] (famT n tb bm) R)
theorem kp_untuck (Y X : List LRow) (h : LayM w0 w (Y ++ rowsK g SA n cs tb bm A cap σ (X ++ R)) Q) : LayM w0 w (Y ++ (X ++ rowsK g SA n cs tb bm A cap σ R)) Q :=
  h.permL ((tuck_perm X [rowP g SA n cs A σ.q cap σ.at_ σ.seen, rowV SA n cs tb σ.ap, dds A σ.q cap σ.ord] (famT n tb bm) R).symm.append_left Y)
end
def DdS (g t5 : Nat) (A : Option Addr) (q cap : Nat) (d : Deed) (w : World) : Prop := w.cell? ⟨g, 1, none⟩ = some (.slice A q cap) ∧ w.cell? ⟨t5, 0, none⟩ = some (.int .i64 d.kind) ∧ w.cell? ⟨t5, 1, none⟩ = some (.string (bs d.path)) ∧ w.cell? ⟨t5, 2, none⟩ = some (.string (bs d.data)) ∧ w.cell? ⟨t5, 3, none⟩ = some (.int .i64 d.version)
theorem DdS.of {w0 w : World} {L : List LRow} {g t5 : Nat} {SA : Option Addr} {n cs : Nat} {A : Option Addr} {q cap : Nat} {at_ seen : Nat → Nat} {d : Deed} (h : Lay w0 w L) (i j : Nat) (hi : L[i]? = some (rowP g SA n cs A q cap at_ seen)) (hj : L[j]? = some (blk t5 30 4 (ofL (cellsD d)))) : DdS g t5 A q cap d w :=
  ⟨h.cellB i hi 1 (by omega), h.cellB j hj 0 (by omega), h.cellB j hj 1 (by omega), h.cellB j hj 2 (by omega), h.cellB j hj 3 (by omega)⟩
set_option maxRecDepth 100000 in
set_option maxHeartbeats 3200000 in
theorem deed_any (g gs n cs : Nat) (tb bm : Nat → Nat) (A : Option Addr) (cap : Nat) (σ : KS) (R : List LRow) (w0 w : World) (c k : Nat) (d : Deed) (hc : c < 6) (hn : n ≤ 6) (hB : KB n k σ) (hk : k ≤ 59) (hd : DeedL d)
    (h : LayM w0 w (rowsK g (some ⟨gs, 0, none⟩) n cs tb bm A cap σ R) (mapsS n bm (treeAt σ))) :
    Calls Tryd.prog 29 #[.pointer (some ⟨g, 0, none⟩), .int .i64 c, .agg #[.int .i64 d.kind, .string (bs d.path), .string (bs d.data), .int .i64 d.version]] w (Gives fun v w' => ∃ AN cN A' cap', v = toldV AN cN (deedK σ c d).1 ∧
      LayM w0 w' (rowS AN cN (deedK σ c d).1.names :: rowsK g (some ⟨gs, 0, none⟩) n cs tb bm A' cap' (deedK σ c d).2 R) (mapsS n bm (treeAt (deedK σ c d).2))) := by
  have HB := Lib.hid hB
  have HDL := Lib.hid hd
  have hs := hB.at_ c
  obtain ⟨s, es⟩ : ∃ s, σ.at_ c = s := ⟨_, rfl⟩
  have HES := Lib.hid es
  rw [es] at hs
  have HM := Lib.hid (((h.newB (cellsD d) 30 4 rfl _ rfl).newB told0 35 4 rfl (w.heap.size + 1) (by simp)).newB told0 35 4 rfl (w.heap.size + 1 + 1) (by simp))
  have pa : w.cell? ⟨g, 2 + c, none⟩ = some (.int .i64 (s : Nat)) := (h.lay.cellB 0 rfl (2 + c) (by omega)).trans (congrArg some ((plF_at _ _ _ _ _ _ _ _ hc).trans (by rw [es])))
  have hg := (h.lay.at_ 0 rfl).2
  clear h hB hd es
  obtain ⟨dk, dp, dd, dv⟩ := d
  dsimp only at *
  go_enter Tryd.func29, Tryd.ntmps29
  go_upto_region 3 with (fail)
  refine at_layM (F := fun W' => Code.wp _ _ _ _ W') HM.out ?_
  intro W hW
  have HW := Lib.hid hW
  clear hW HM pa hg
  generalize w.heap.size + 1 + 1 = t8 at HW ⊢
  generalize w.heap.size + 1 = t6 at HW ⊢
  generalize w.heap.size = t5 at HW ⊢
  have d0 := HW.out.lay.cellB 2 rfl 0 (by omega)
  have d1 := HW.out.lay.cellB 2 rfl 1 (by omega)
  have d2 := HW.out.lay.cellB 2 rfl 2 (by omega)
  have d3 := HW.out.lay.cellB 2 rfl 3 (by omega)
  simp only [cellsD, ofL_0, ofL_1, ofL_2, ofL_3] at d0 d1 d2 d3
  have p0 : W.cell? ⟨g, 0, none⟩ = some (.slice (some ⟨gs, 0, none⟩) n cs) := HW.out.lay.cellB 3 rfl 0 (by omega)
  have p1 : W.cell? ⟨g, 1, none⟩ = some (.slice A σ.q cap) := HW.out.lay.cellB 3 rfl 1 (by omega)
  by_cases hkd : dk = 4 ∨ dk = 5
  · have er : deedK σ c ⟨dk, dp, dd, dv⟩ = readK σ c ⟨dk, dp, dd, dv⟩ := if_pos hkd
    have ER : Hid ((deedK σ c ⟨dk, dp, dd, dv⟩).1 = (doS (treeAt σ s) ⟨dk, dp, dd, dv⟩).1 ∧ (deedK σ c ⟨dk, dp, dd, dv⟩).2 = seenK σ c (σ.ap s)) := Lib.hid (by
      rw [er]
      unfold readK
      rw [HES.out]
      exact ⟨rfl, rfl⟩)
    have EM : Hid ((doS (treeAt σ s) ⟨dk, dp, dd, dv⟩).2 = treeAt σ s) := Lib.hid (doS_read hkd)
    have s0 : W.cell? ⟨gs, s * 2, none⟩ = some (.pointer (some ⟨tb s, 0, none⟩)) := (HW.out.lay.cell 4 rfl (j := s * 2) (by omega)).trans (congrArg some (svF_0 _ _ _))
    have HP := Lib.hid (kp_pull [blk t8 35 4 (ofL told0), blk t6 35 4 (ofL told0), blk t5 30 4 (ofL (cellsD ⟨dk, dp, dd, dv⟩))] HW.out.drew hs)
    clear er
    have hb1 : (dk == 4) = true ∨ (dk == 4) = false ∧ (dk == 5) = true := by
      rcases hkd with h | h
      · exact .inl (by simp [h])
      · exact .inr ⟨by simp [h], by simp [h]⟩
    clear hkd
    rcases hb1 with b1 | ⟨b1, b2⟩
    · go_wp2
      refine wp_text 9 (by kernel_rfl) (by kernel_rfl) (by kernel_rfl) (by repeat' (first | (with_reducible apply tame_then) | (with_reducible apply tame_block) | (with_reducible apply tame_scope) | exact tame_gives | exact tame_body (fun _ _ h => ⟨_, h.1⟩))) ?_
      simp only [List.take_succ_cons, List.take_zero, List.drop_succ_cons, List.drop_zero]
      go_wp2
      refine headed ?_
      go_wp2_with fail
      refine (do_any (tb s) (bm s) _ _ w0 _ (treeAt σ s) ⟨dk, dp, dd, dv⟩ HDL.out ((run_ok σ.ord (σ.ap s) fun i hi => HB.out.dl i (by have := HB.out.ap s; omega)).ok (by have := HB.out.ap s; have := HB.out.q; omega)) HP.out).mono ?_
      rintro e w3 ⟨v, rfl, A2, c2, rfl, h3⟩
      have h4 := kp_put [rowS A2 c2 (doS (treeAt σ s) ⟨dk, dp, dd, dv⟩).1.names] [blk t8 35 4 (ofL told0), blk t6 35 4 (ofL told0), blk t5 30 4 (ofL (cellsD ⟨dk, dp, dd, dv⟩))] h3 hs
      rw [EM.out, kset_self] at h4
      have HLA := Lib.hid ER.out
      generalize (doS (treeAt σ s) ⟨dk, dp, dd, dv⟩).1 = a at h4 HLA ⊢
      have H5 := Lib.hid h4
      clear h3 h4 HP HW p0 p1 s0 d0 d1 d2 d3 ER EM
      have r0 := H5.out.lay.cellB 1 rfl 0 (by omega)
      have r1 := H5.out.lay.cellB 1 rfl 1 (by omega)
      have r2 := H5.out.lay.cellB 1 rfl 2 (by omega)
      have r3 := H5.out.lay.cellB 1 rfl 3 (by omega)
      have y0 := H5.out.lay.frz 1 rfl (by omega) 0
      have y1 := H5.out.lay.frz 1 rfl (by omega) 1
      have y2 := H5.out.lay.frz 1 rfl (by omega) 2
      have y3 := H5.out.lay.frz 1 rfl (by omega) 3
      unfold toldV
      go_upto_region 7 with (fail)
      have HF := Lib.hid ((((H5.out.fld 1 0 (.int .i64 a.code) rfl (by omega) (by simp)).fld 1 1 (.string (bs a.data)) rfl (by omega) (by simp)).fld 1 2 (.int .i64 a.ver) rfl (by omega) (by simp)).fld 1 3 (.slice A2 a.names.length c2) rfl (by omega) (by simp))
      refine at_layM (F := fun W' => Code.wp _ _ _ _ W') HF.out ?_
      intro W2 hW2
      have HW2 := Lib.hid hW2
      clear hW2 HF H5 r0 r1 r2 r3 y0 y1 y2 y3
      have p0 : W2.cell? ⟨g, 0, none⟩ = some (.slice (some ⟨gs, 0, none⟩) n cs) := HW2.out.lay.cellB 4 rfl 0 (by omega)
      have s1 : W2.cell? ⟨gs, s * 2 + 1, none⟩ = some (.int .i64 (σ.ap s : Nat)) := (HW2.out.lay.cell 5 rfl (j := s * 2 + 1) (by omega)).trans (congrArg some ((svF_1 _ _ _).trans (by first | rfl | exact congrArg (fun x : Nat => Value.int .i64 (x : Int)) (kset_at _ _ _))))
      have q0 := HW2.out.lay.cellB 4 rfl (8 + c) (by omega)
      have z0 := HW2.out.lay.frz 4 rfl (by omega) (8 + c)
      have r0 := HW2.out.lay.cellB 1 rfl 0 (by omega)
      have r1 := HW2.out.lay.cellB 1 rfl 1 (by omega)
      have r2 := HW2.out.lay.cellB 1 rfl 2 (by omega)
      have r3 := HW2.out.lay.cellB 1 rfl 3 (by omega)
      have y0 := HW2.out.lay.frz 2 rfl (by omega) 0
      have y1 := HW2.out.lay.frz 2 rfl (by omega) 1
      have y2 := HW2.out.lay.frz 2 rfl (by omega) 2
      have y3 := HW2.out.lay.frz 2 rfl (by omega) 3
      have x0 := HW2.out.lay.cellB 2 rfl 0 (by omega)
      have x1 := HW2.out.lay.cellB 2 rfl 1 (by omega)
      have x2 := HW2.out.lay.cellB 2 rfl 2 (by omega)
      have x3 := HW2.out.lay.cellB 2 rfl 3 (by omega)
      simp only [List.set_cons_zero, List.set_cons_succ, ofL_0, ofL_1, ofL_2, ofL_3] at r0 r1 r2 r3 x0 x1 x2 x3
      have n1 : g ≠ t8 := HW2.out.lay.ne_ 4 1 rfl rfl (by omega)
      have n2 : g ≠ t6 := HW2.out.lay.ne_ 4 2 rfl rfl (by omega)
      refine wp_text 13 (by kernel_rfl) (by kernel_rfl) (by kernel_rfl) (by repeat' (first | (with_reducible apply tame_then) | (with_reducible apply tame_block) | (with_reducible apply tame_scope) | exact tame_gives | exact tame_body (fun _ _ h => ⟨_, h.1⟩))) ?_
      simp only [List.take_succ_cons, List.take_zero, List.drop_succ_cons, List.drop_zero]
      go_wp2
      refine headed ?_
      go_wp2
      have HG := Lib.hid (((((HW2.out.set 4 (plF (some ⟨gs, 0, none⟩) n cs _ _ _ _ (kset σ.seen c (σ.ap s))) (j := 8 + c) (u := .int .i64 (σ.ap s : Nat)) rfl (by omega) (plF_setS _ _ _ _ _ _ _ _ _ _).1 (fun i _ hi => (plF_setS _ _ _ _ _ _ _ _ _ _).2 i hi)).fld 2 0 (.int .i64 a.code) rfl (by omega) (by simp)).fld 2 1 (.string (bs a.data)) rfl (by omega) (by simp)).fld 2 2 (.int .i64 a.ver) rfl (by omega) (by simp)).fld 2 3 (.slice A2 a.names.length c2) rfl (by omega) (by simp))
      have f0 := HG.out.lay.cellB 2 rfl 0 (by omega)
      have f1 := HG.out.lay.cellB 2 rfl 1 (by omega)
      have f2 := HG.out.lay.cellB 2 rfl 2 (by omega)
      have f3 := HG.out.lay.cellB 2 rfl 3 (by omega)
      simp only [List.set_cons_zero, List.set_cons_succ, ofL_0, ofL_1, ofL_2, ofL_3] at f0 f1 f2 f3
      try simp only [Int.natCast_add, Int.cast_ofNat_Int] at f0 f1 f2 f3
      refine bodyPost_ret (v := toldV A2 c2 a) (by simp [results, Tryd.results29, go_sem, f0, f1, f2, f3, toldV]) rfl ?_
      exact ⟨_, rfl, A2, c2, _, _, by rw [HLA.out.1], by rw [HLA.out.1, HLA.out.2]; exact HG.out.dn2.dn2.dn2.drew⟩
    · go_wp2
      refine wp_text 9 (by kernel_rfl) (by kernel_rfl) (by kernel_rfl) (by repeat' (first | (with_reducible apply tame_then) | (with_reducible apply tame_block) | (with_reducible apply tame_scope) | exact tame_gives | exact tame_body (fun _ _ h => ⟨_, h.1⟩))) ?_
      simp only [List.take_succ_cons, List.take_zero, List.drop_succ_cons, List.drop_zero]
      go_wp2
      refine headed ?_
      go_wp2_with fail
      refine (do_any (tb s) (bm s) _ _ w0 _ (treeAt σ s) ⟨dk, dp, dd, dv⟩ HDL.out ((run_ok σ.ord (σ.ap s) fun i hi => HB.out.dl i (by have := HB.out.ap s; omega)).ok (by have := HB.out.ap s; have := HB.out.q; omega)) HP.out).mono ?_
      rintro e w3 ⟨v, rfl, A2, c2, rfl, h3⟩
      have h4 := kp_put [rowS A2 c2 (doS (treeAt σ s) ⟨dk, dp, dd, dv⟩).1.names] [blk t8 35 4 (ofL told0), blk t6 35 4 (ofL told0), blk t5 30 4 (ofL (cellsD ⟨dk, dp, dd, dv⟩))] h3 hs
      rw [EM.out, kset_self] at h4
      have HLA := Lib.hid ER.out
      generalize (doS (treeAt σ s) ⟨dk, dp, dd, dv⟩).1 = a at h4 HLA ⊢
      have H5 := Lib.hid h4
      clear h3 h4 HP HW p0 p1 s0 d0 d1 d2 d3 ER EM
      have r0 := H5.out.lay.cellB 1 rfl 0 (by omega)
      have r1 := H5.out.lay.cellB 1 rfl 1 (by omega)
      have r2 := H5.out.lay.cellB 1 rfl 2 (by omega)
      have r3 := H5.out.lay.cellB 1 rfl 3 (by omega)
      have y0 := H5.out.lay.frz 1 rfl (by omega) 0
      have y1 := H5.out.lay.frz 1 rfl (by omega) 1
      have y2 := H5.out.lay.frz 1 rfl (by omega) 2
      have y3 := H5.out.lay.frz 1 rfl (by omega) 3
      unfold toldV
      go_upto_region 7 with (fail)
      have HF := Lib.hid ((((H5.out.fld 1 0 (.int .i64 a.code) rfl (by omega) (by simp)).fld 1 1 (.string (bs a.data)) rfl (by omega) (by simp)).fld 1 2 (.int .i64 a.ver) rfl (by omega) (by simp)).fld 1 3 (.slice A2 a.names.length c2) rfl (by omega) (by simp))
      refine at_layM (F := fun W' => Code.wp _ _ _ _ W') HF.out ?_
      intro W2 hW2
      have HW2 := Lib.hid hW2
      clear hW2 HF H5 r0 r1 r2 r3 y0 y1 y2 y3
      have p0 : W2.cell? ⟨g, 0, none⟩ = some (.slice (some ⟨gs, 0, none⟩) n cs) := HW2.out.lay.cellB 4 rfl 0 (by omega)
      have s1 : W2.cell? ⟨gs, s * 2 + 1, none⟩ = some (.int .i64 (σ.ap s : Nat)) := (HW2.out.lay.cell 5 rfl (j := s * 2 + 1) (by omega)).trans (congrArg some ((svF_1 _ _ _).trans (by first | rfl | exact congrArg (fun x : Nat => Value.int .i64 (x : Int)) (kset_at _ _ _))))
      have q0 := HW2.out.lay.cellB 4 rfl (8 + c) (by omega)
      have z0 := HW2.out.lay.frz 4 rfl (by omega) (8 + c)
      have r0 := HW2.out.lay.cellB 1 rfl 0 (by omega)
      have r1 := HW2.out.lay.cellB 1 rfl 1 (by omega)
      have r2 := HW2.out.lay.cellB 1 rfl 2 (by omega)
      have r3 := HW2.out.lay.cellB 1 rfl 3 (by omega)
      have y0 := HW2.out.lay.frz 2 rfl (by omega) 0
      have y1 := HW2.out.lay.frz 2 rfl (by omega) 1
      have y2 := HW2.out.lay.frz 2 rfl (by omega) 2
      have y3 := HW2.out.lay.frz 2 rfl (by omega) 3
      have x0 := HW2.out.lay.cellB 2 rfl 0 (by omega)
      have x1 := HW2.out.lay.cellB 2 rfl 1 (by omega)
      have x2 := HW2.out.lay.cellB 2 rfl 2 (by omega)
      have x3 := HW2.out.lay.cellB 2 rfl 3 (by omega)
      simp only [List.set_cons_zero, List.set_cons_succ, ofL_0, ofL_1, ofL_2, ofL_3] at r0 r1 r2 r3 x0 x1 x2 x3
      have n1 : g ≠ t8 := HW2.out.lay.ne_ 4 1 rfl rfl (by omega)
      have n2 : g ≠ t6 := HW2.out.lay.ne_ 4 2 rfl rfl (by omega)
      refine wp_text 13 (by kernel_rfl) (by kernel_rfl) (by kernel_rfl) (by repeat' (first | (with_reducible apply tame_then) | (with_reducible apply tame_block) | (with_reducible apply tame_scope) | exact tame_gives | exact tame_body (fun _ _ h => ⟨_, h.1⟩))) ?_
      simp only [List.take_succ_cons, List.take_zero, List.drop_succ_cons, List.drop_zero]
      go_wp2
      refine headed ?_
      go_wp2
      have HG := Lib.hid (((((HW2.out.set 4 (plF (some ⟨gs, 0, none⟩) n cs _ _ _ _ (kset σ.seen c (σ.ap s))) (j := 8 + c) (u := .int .i64 (σ.ap s : Nat)) rfl (by omega) (plF_setS _ _ _ _ _ _ _ _ _ _).1 (fun i _ hi => (plF_setS _ _ _ _ _ _ _ _ _ _).2 i hi)).fld 2 0 (.int .i64 a.code) rfl (by omega) (by simp)).fld 2 1 (.string (bs a.data)) rfl (by omega) (by simp)).fld 2 2 (.int .i64 a.ver) rfl (by omega) (by simp)).fld 2 3 (.slice A2 a.names.length c2) rfl (by omega) (by simp))
      have f0 := HG.out.lay.cellB 2 rfl 0 (by omega)
      have f1 := HG.out.lay.cellB 2 rfl 1 (by omega)
      have f2 := HG.out.lay.cellB 2 rfl 2 (by omega)
      have f3 := HG.out.lay.cellB 2 rfl 3 (by omega)
      simp only [List.set_cons_zero, List.set_cons_succ, ofL_0, ofL_1, ofL_2, ofL_3] at f0 f1 f2 f3
      try simp only [Int.natCast_add, Int.cast_ofNat_Int] at f0 f1 f2 f3
      refine bodyPost_ret (v := toldV A2 c2 a) (by simp [results, Tryd.results29, go_sem, f0, f1, f2, f3, toldV]) rfl ?_
      exact ⟨_, rfl, A2, c2, _, _, by rw [HLA.out.1], by rw [HLA.out.1, HLA.out.2]; exact HG.out.dn2.dn2.dn2.drew⟩
  · have er : deedK σ c ⟨dk, dp, dd, dv⟩ = writeK σ c ⟨dk, dp, dd, dv⟩ := if_neg hkd
    have ER : Hid ((deedK σ c ⟨dk, dp, dd, dv⟩).1 = ansS T0 (addK σ ⟨dk, dp, dd, dv⟩).ord σ.q ∧ (deedK σ c ⟨dk, dp, dd, dv⟩).2 = seenK (apK (addK σ ⟨dk, dp, dd, dv⟩) s (σ.q + 1)) c (σ.q + 1)) := Lib.hid (by
      rw [er]
      unfold writeK
      rw [HES.out]
      exact ⟨rfl, rfl⟩)
    have b1 : (dk == 4) = false := by simp; omega
    have b2 : (dk == 5) = false := by simp; omega
    have hqk := HB.out.q
    clear hkd er
    go_wp2
    refine wp_held_mask (DdS g t5 A σ.q cap ⟨dk, dp, dd, dv⟩) [true, true, true, true, true, true, false, false, false, false, false] ?A1 (by kernel_rfl) rfl (by kernel_rfl) (by repeat' (first | (with_reducible apply tame_then) | (with_reducible apply tame_block) | (with_reducible apply tame_scope) | exact tame_gives | exact tame_body (fun _ _ h => ⟨_, h.1⟩))) ⟨p1, d0, d1, d2, d3⟩ ?head ?tail
    case head =>
      intro W5 ⟨s0, s1, s2, s3, s4⟩
      simp only [pick]
      go_wp2
      exact taken
    case tail =>
      simp only [pick, List.map_cons, List.map_nil, Bool.not_true, Bool.not_false]
      clear p0 p1 d0 d1 d2 d3
      refine tail_step ?_
      go_wp2
      refine holds (DdS.of (HW.out.drew.alloc _).lay 3 2 rfl rfl) ?_
      refine tail_step ?_
      go_wp2_with (first
        | (at_builtin; refine wpList_apDs rfl (.tmp 37) (.tmp 39) rfl w0.heap.size rfl ((HW.out.drew.alloc _).lay.own 5 _ rfl) rfl (new_deeds W.drew [⟨dk, dp, dd, dv⟩] _) (σ.q + 1) rfl (by unfold maxLen; omega) (by omega) (HW.out.drew.alloc _).size ?_; intro A3 c3 w4 ho hg hh
           have H4 := Lib.hid ((HW.out.drew.alloc _).app 5 rfl ho hg hh)
           clear ho hg hh HW)
        | fail)
      refine holds (DdS.of H4.out.lay 3 2 rfl rfl) ?_
      refine tail_step ?_
      go_wp2
      refine holds (DdS.of H4.out.lay 3 2 rfl rfl) ?_
      refine tail_step ?_
      go_wp2
      refine holds (DdS.of H4.out.lay 3 2 rfl rfl) ?_
      refine tail_last ?_
      have p1 := H4.out.lay.cellB 3 rfl 1 (by omega)
      have z1 := H4.out.lay.frz 3 rfl (by omega) 1
      go_upto_region 6 with (fail)
      have HF := Lib.hid ((H4.out.set 3 (plF (some ⟨gs, 0, none⟩) n cs A3 (σ.q + 1) c3 σ.at_ σ.seen) (j := 1) (u := .slice A3 (σ.q + 1) c3) rfl (by omega) (plF_setO _ _ _ A _ σ.q cap _ _ _ _).1 (fun i _ hi => (plF_setO _ _ _ A _ σ.q cap _ _ _ _).2 i hi)).congr 5 (ddF (kset σ.ord σ.q ⟨dk, dp, dd, dv⟩)) rfl (app_kset _ _ _))
      refine at_layM (F := fun W' => Code.wp _ _ _ _ W') HF.out ?_
      intro W6 hW6
      have H6 : Hid (LayM w0 W6 ([blk t8 35 4 (ofL told0), blk t6 35 4 (ofL told0), blk t5 30 4 (ofL (cellsD ⟨dk, dp, dd, dv⟩))] ++ rowsK g (some ⟨gs, 0, none⟩) n cs tb bm A3 c3 (addK σ ⟨dk, dp, dd, dv⟩) R) (mapsS n bm (treeAt (addK σ ⟨dk, dp, dd, dv⟩)))) := Lib.hid (by rw [tree_add HB.out.ap]; exact hW6)
      clear hW6 HF H4 p1 z1
      have p1 : W6.cell? ⟨g, 1, none⟩ = some (.slice A3 (σ.q + 1) c3) := H6.out.lay.cellB 3 rfl 1 (by omega)
      have HAP := Lib.hid (apply_any g gs n cs tb bm A3 c3 (addK σ ⟨dk, dp, dd, dv⟩) _ w0 W6 s (σ.q + 1) hs hn (by show σ.ap s ≤ σ.q + 1; have := HB.out.ap s; omega) (Nat.le_refl _) (by show σ.q + 1 ≤ 60; omega) (HB.out.addK _ HDL.out).dl (kp_tuck _ H6.out))
      go_wp2_with fail
      refine HAP.out.mono ?_
      rintro e w7 ⟨v, rfl, AN, cN, rfl, h7⟩
      have h8 := kp_untuck [_] [blk t8 35 4 (ofL told0), blk t6 35 4 (ofL told0), blk t5 30 4 (ofL (cellsD ⟨dk, dp, dd, dv⟩))] h7
      have el : lastA (addK σ ⟨dk, dp, dd, dv⟩).ord ((addK σ ⟨dk, dp, dd, dv⟩).ap s) (σ.q + 1) = ansS T0 (addK σ ⟨dk, dp, dd, dv⟩).ord σ.q := lastA_next _ (HB.out.ap s)
      rw [el] at h8 ⊢
      have HLA := Lib.hid ER.out
      generalize ansS T0 (addK σ ⟨dk, dp, dd, dv⟩).ord σ.q = a at h8 HLA ⊢
      have H5 := Lib.hid h8
      clear h7 h8 el ER HAP H6 p1
      have r0 := H5.out.lay.cellB 1 rfl 0 (by omega)
      have r1 := H5.out.lay.cellB 1 rfl 1 (by omega)
      have r2 := H5.out.lay.cellB 1 rfl 2 (by omega)
      have r3 := H5.out.lay.cellB 1 rfl 3 (by omega)
      have y0 := H5.out.lay.frz 1 rfl (by omega) 0
      have y1 := H5.out.lay.frz 1 rfl (by omega) 1
      have y2 := H5.out.lay.frz 1 rfl (by omega) 2
      have y3 := H5.out.lay.frz 1 rfl (by omega) 3
      unfold toldV
      go_upto_region 7 with (fail)
      have HF := Lib.hid ((((H5.out.fld 1 0 (.int .i64 a.code) rfl (by omega) (by simp)).fld 1 1 (.string (bs a.data)) rfl (by omega) (by simp)).fld 1 2 (.int .i64 a.ver) rfl (by omega) (by simp)).fld 1 3 (.slice AN a.names.length cN) rfl (by omega) (by simp))
      refine at_layM (F := fun W' => Code.wp _ _ _ _ W') HF.out ?_
      intro W2 hW2
      have HW2 := Lib.hid hW2
      clear hW2 HF H5 r0 r1 r2 r3 y0 y1 y2 y3
      have p0 : W2.cell? ⟨g, 0, none⟩ = some (.slice (some ⟨gs, 0, none⟩) n cs) := HW2.out.lay.cellB 4 rfl 0 (by omega)
      have s1 : W2.cell? ⟨gs, s * 2 + 1, none⟩ = some (.int .i64 (σ.q + 1 : Nat)) := (HW2.out.lay.cell 5 rfl (j := s * 2 + 1) (by omega)).trans (congrArg some ((svF_1 _ _ _).trans (by first | rfl | exact congrArg (fun x : Nat => Value.int .i64 (x : Int)) (kset_at _ _ _))))
      have q0 := HW2.out.lay.cellB 4 rfl (8 + c) (by omega)
      have z0 := HW2.out.lay.frz 4 rfl (by omega) (8 + c)
      have r0 := HW2.out.lay.cellB 1 rfl 0 (by omega)
      have r1 := HW2.out.lay.cellB 1 rfl 1 (by omega)
      have r2 := HW2.out.lay.cellB 1 rfl 2 (by omega)
      have r3 := HW2.out.lay.cellB 1 rfl 3 (by omega)
      have y0 := HW2.out.lay.frz 2 rfl (by omega) 0
      have y1 := HW2.out.lay.frz 2 rfl (by omega) 1
      have y2 := HW2.out.lay.frz 2 rfl (by omega) 2
      have y3 := HW2.out.lay.frz 2 rfl (by omega) 3
      have x0 := HW2.out.lay.cellB 2 rfl 0 (by omega)
      have x1 := HW2.out.lay.cellB 2 rfl 1 (by omega)
      have x2 := HW2.out.lay.cellB 2 rfl 2 (by omega)
      have x3 := HW2.out.lay.cellB 2 rfl 3 (by omega)
      simp only [List.set_cons_zero, List.set_cons_succ, ofL_0, ofL_1, ofL_2, ofL_3] at r0 r1 r2 r3 x0 x1 x2 x3
      have n1 : g ≠ t8 := HW2.out.lay.ne_ 4 1 rfl rfl (by omega)
      have n2 : g ≠ t6 := HW2.out.lay.ne_ 4 2 rfl rfl (by omega)
      refine wp_text 13 (by kernel_rfl) (by kernel_rfl) (by kernel_rfl) (by repeat' (first | (with_reducible apply tame_then) | (with_reducible apply tame_block) | (with_reducible apply tame_scope) | exact tame_gives | exact tame_body (fun _ _ h => ⟨_, h.1⟩))) ?_
      simp only [List.take_succ_cons, List.take_zero, List.drop_succ_cons, List.drop_zero]
      go_wp2
      refine headed ?_
      go_wp2
      have HG := Lib.hid (((((HW2.out.set 4 (plF (some ⟨gs, 0, none⟩) n cs _ _ _ _ (kset (apK (addK σ ⟨dk, dp, dd, dv⟩) s (σ.q + 1)).seen c (σ.q + 1))) (j := 8 + c) (u := .int .i64 (σ.q + 1 : Nat)) rfl (by omega) (plF_setS _ _ _ _ _ _ _ _ _ _).1 (fun i _ hi => (plF_setS _ _ _ _ _ _ _ _ _ _).2 i hi)).fld 2 0 (.int .i64 a.code) rfl (by omega) (by simp)).fld 2 1 (.string (bs a.data)) rfl (by omega) (by simp)).fld 2 2 (.int .i64 a.ver) rfl (by omega) (by simp)).fld 2 3 (.slice AN a.names.length cN) rfl (by omega) (by simp))
      have f0 := HG.out.lay.cellB 2 rfl 0 (by omega)
      have f1 := HG.out.lay.cellB 2 rfl 1 (by omega)
      have f2 := HG.out.lay.cellB 2 rfl 2 (by omega)
      have f3 := HG.out.lay.cellB 2 rfl 3 (by omega)
      simp only [List.set_cons_zero, List.set_cons_succ, ofL_0, ofL_1, ofL_2, ofL_3] at f0 f1 f2 f3
      try simp only [Int.natCast_add, Int.cast_ofNat_Int] at f0 f1 f2 f3
      refine bodyPost_ret (v := toldV AN cN a) (by simp [results, Tryd.results29, go_sem, f0, f1, f2, f3, toldV]) rfl ?_
      exact ⟨_, rfl, AN, cN, _, _, by rw [HLA.out.1], by rw [HLA.out.1, HLA.out.2]; exact HG.out.dn2.dn2.dn2.drew⟩
end Go.Proofs.YtfdgjbanajodfaaDoor
