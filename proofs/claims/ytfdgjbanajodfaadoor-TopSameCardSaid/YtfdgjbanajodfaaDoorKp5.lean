/- The walk of keep.Play. -/
import Derived.Test.YtfdgjbanajodfaaDoorKp4
import Derived.Test.YtfdgjbanajodfaaDoorTrPlay
set_option linter.unusedVariables false
set_option linter.unusedSimpArgs false
namespace Go.Proofs.YtfdgjbanajodfaaDoor
open Go.RowKit

theorem kplay_bad (n : Int) (m cap : Nat) (A : Option Addr) (w : World) (hm : m ≤ maxLen) (hb : n < 1 ∨ 6 < n ∨ 60 < m) :
    Calls Tryd.prog 14 #[.int .i64 n, .slice A m cap] w fun e w' => e = .returned (.tuple #[.agg #[.slice none 0 0, .slice none 0 0, .slice none 0 0], .int .i64 1]) ∧ Below w.heap.size w w' := by
  unfold maxLen at hm
  have hbel : Below w.heap.size w (w.alloc (.cells #[.slice none 0 0, .slice none 0 0, .slice none 0 0] 52)) := (Below.refl _ _).alloc (Nat.le_refl _) _
  have HL := Lib.hid ((Lay.nil w).newB [.slice none 0 0, .slice none 0 0, .slice none 0 0] 52 3 rfl _ rfl)
  go_enter Tryd.func14, Tryd.ntmps14
  go_upto_region 1 with (fail)
  refine at_lay (F := fun W' => Code.wp _ _ _ _ W') HL.out ?_
  intro W hW
  have HW := Lib.hid hW
  clear hW HL hbel
  generalize w.heap.size = t4 at HW ⊢
  have r0 := HW.out.cellB 0 rfl 0 (by omega)
  have r1 := HW.out.cellB 0 rfl 1 (by omega)
  have r2 := HW.out.cellB 0 rfl 2 (by omega)
  have y0 := HW.out.frz 0 rfl (by omega) 0
  have y1 := HW.out.frz 0 rfl (by omega) 1
  have y2 := HW.out.frz 0 rfl (by omega) 2
  rcases hb with h1 | h1 | h1
  · go_wp2
    have HF := Lib.hid (((HW.out.fld 0 0 (.slice none 0 0) rfl (by omega) (by simp)).fld 0 1 (.slice none 0 0) rfl (by omega) (by simp)).fld 0 2 (.slice none 0 0) rfl (by omega) (by simp))
    have f0 := HF.out.cellB 0 rfl 0 (by omega)
    have f1 := HF.out.cellB 0 rfl 1 (by omega)
    have f2 := HF.out.cellB 0 rfl 2 (by omega)
    simp only [List.set_cons_zero, List.set_cons_succ, ofL_0, ofL_1, ofL_2, ofL_3] at f0 f1 f2
    refine bodyPost_ret (v := .tuple #[.agg #[.slice none 0 0, .slice none 0 0, .slice none 0 0], .int .i64 1]) (by simp [results, Tryd.results14, go_sem, f0, f1, f2]) rfl ?_
    exact ⟨rfl, HF.out.bel⟩
  · go_wp2
    have HF := Lib.hid (((HW.out.fld 0 0 (.slice none 0 0) rfl (by omega) (by simp)).fld 0 1 (.slice none 0 0) rfl (by omega) (by simp)).fld 0 2 (.slice none 0 0) rfl (by omega) (by simp))
    have f0 := HF.out.cellB 0 rfl 0 (by omega)
    have f1 := HF.out.cellB 0 rfl 1 (by omega)
    have f2 := HF.out.cellB 0 rfl 2 (by omega)
    simp only [List.set_cons_zero, List.set_cons_succ, ofL_0, ofL_1, ofL_2, ofL_3] at f0 f1 f2
    refine bodyPost_ret (v := .tuple #[.agg #[.slice none 0 0, .slice none 0 0, .slice none 0 0], .int .i64 1]) (by simp [results, Tryd.results14, go_sem, f0, f1, f2]) rfl ?_
    exact ⟨rfl, HF.out.bel⟩
  · by_cases h2 : n < 1
    · go_wp2
      have HF := Lib.hid (((HW.out.fld 0 0 (.slice none 0 0) rfl (by omega) (by simp)).fld 0 1 (.slice none 0 0) rfl (by omega) (by simp)).fld 0 2 (.slice none 0 0) rfl (by omega) (by simp))
      have f0 := HF.out.cellB 0 rfl 0 (by omega)
      have f1 := HF.out.cellB 0 rfl 1 (by omega)
      have f2 := HF.out.cellB 0 rfl 2 (by omega)
      simp only [List.set_cons_zero, List.set_cons_succ, ofL_0, ofL_1, ofL_2, ofL_3] at f0 f1 f2
      refine bodyPost_ret (v := .tuple #[.agg #[.slice none 0 0, .slice none 0 0, .slice none 0 0], .int .i64 1]) (by simp [results, Tryd.results14, go_sem, f0, f1, f2]) rfl ?_
      exact ⟨rfl, HF.out.bel⟩
    · by_cases h3 : 6 < n
      · go_wp2
        have HF := Lib.hid (((HW.out.fld 0 0 (.slice none 0 0) rfl (by omega) (by simp)).fld 0 1 (.slice none 0 0) rfl (by omega) (by simp)).fld 0 2 (.slice none 0 0) rfl (by omega) (by simp))
        have f0 := HF.out.cellB 0 rfl 0 (by omega)
        have f1 := HF.out.cellB 0 rfl 1 (by omega)
        have f2 := HF.out.cellB 0 rfl 2 (by omega)
        simp only [List.set_cons_zero, List.set_cons_succ, ofL_0, ofL_1, ofL_2, ofL_3] at f0 f1 f2
        refine bodyPost_ret (v := .tuple #[.agg #[.slice none 0 0, .slice none 0 0, .slice none 0 0], .int .i64 1]) (by simp [results, Tryd.results14, go_sem, f0, f1, f2]) rfl ?_
        exact ⟨rfl, HF.out.bel⟩
      · go_wp2
        have HF := Lib.hid (((HW.out.fld 0 0 (.slice none 0 0) rfl (by omega) (by simp)).fld 0 1 (.slice none 0 0) rfl (by omega) (by simp)).fld 0 2 (.slice none 0 0) rfl (by omega) (by simp))
        have f0 := HF.out.cellB 0 rfl 0 (by omega)
        have f1 := HF.out.cellB 0 rfl 1 (by omega)
        have f2 := HF.out.cellB 0 rfl 2 (by omega)
        simp only [List.set_cons_zero, List.set_cons_succ, ofL_0, ofL_1, ofL_2, ofL_3] at f0 f1 f2
        refine bodyPost_ret (v := .tuple #[.agg #[.slice none 0 0, .slice none 0 0, .slice none 0 0], .int .i64 1]) (by simp [results, Tryd.results14, go_sem, f0, f1, f2]) rfl ?_
        exact ⟨rfl, HF.out.bel⟩
abbrev kept3 : List Value := [.slice none 0 0, .slice none 0 0, .slice none 0 0]
abbrev l14 : List Value := [.slice none 0 0, .slice none 0 0, .int .i64 0, .int .i64 0, .int .i64 0, .int .i64 0, .int .i64 0, .int .i64 0, .int .i64 0, .int .i64 0, .int .i64 0, .int .i64 0, .int .i64 0, .int .i64 0]
theorem own1 {w : World} {base : Nat} {e : TypeId} {A : Option Addr} {n cap : Nat} {f : Nat → Value} (h : Own w base e 1 A n cap f) : Own w base e 1 A n cap f := h
theorem plF_zero (j : Nat) (hj : j < 14) : ofL l14 j = plF none 0 0 none 0 0 (fun _ => 0) (fun _ => 0) j := by
  rcases (by omega : j = 0 ∨ j = 1 ∨ j = 2 ∨ j = 3 ∨ j = 4 ∨ j = 5 ∨ j = 6 ∨ j = 7 ∨ j = 8 ∨ j = 9 ∨ j = 10 ∨ j = 11 ∨ j = 12 ∨ j = 13) with rfl | rfl | rfl | rfl | rfl | rfl | rfl | rfl | rfl | rfl | rfl | rfl | rfl | rfl <;> rfl
theorem plF_setL (SA SA' : Option Addr) (n cs n' cs' : Nat) (A : Option Addr) (q cap : Nat) (at_ seen : Nat → Nat) : plF SA' n' cs' A q cap at_ seen 0 = .slice SA' n' cs' ∧ ∀ i, i ≠ 0 → plF SA' n' cs' A q cap at_ seen i = plF SA n cs A q cap at_ seen i := by
  refine ⟨rfl, fun i hi => ?_⟩
  rcases i with _ | _ | i
  · exact absurd rfl hi
  · rfl
  · rfl
theorem famT_succ (k : Nat) (tb bm : Nat → Nat) (tb' bm' : Nat) : famT (k + 1) (kset tb k tb') (kset bm k bm') = famT k tb bm ++ [rowT tb' bm'] := by
  show ((List.range (k + 1)).map _) = _
  rw [List.range_succ, List.map_append, List.map_cons, List.map_nil, kset_at, kset_at]
  congr 1
  apply List.map_congr_left
  intro i hi
  have := List.mem_range.1 hi
  rw [kset_ne _ _ (by omega), kset_ne _ _ (by omega)]
theorem mapsS_succ (k : Nat) (bm : Nat → Nat) (bm' : Nat) (S : Nat → TS) : mapsS (k + 1) (kset bm k bm') S = mapsS k bm S ++ [⟨bm', TrE (S k)⟩] := by
  unfold mapsS
  rw [List.range_succ, List.map_append, List.map_cons, List.map_nil, kset_at]
  congr 1
  apply List.map_congr_left
  intro i hi
  have := List.mem_range.1 hi
  rw [kset_ne _ _ (by omega)]
theorem kp_grow {w0 w : World} (Y : List LRow) {k : Nat} {tb bm : Nat → Nat} {tb' bm' : Nat} {R : List LRow} {S : Nat → TS} (h : LayM w0 w (rowT tb' bm' :: (Y ++ (famT k tb bm ++ R))) (⟨bm', TrE (S k)⟩ :: mapsS k bm S)) :
    LayM w0 w (Y ++ (famT (k + 1) (kset tb k tb') (kset bm k bm') ++ R)) (mapsS (k + 1) (kset bm k bm') S) := by
  rw [famT_succ, mapsS_succ]
  have h1 := h.permQ (List.perm_append_comm (l₁ := [_]))
  refine h1.permL ?_
  have h2 : (rowT tb' bm' :: (Y ++ (famT k tb bm ++ R))).Perm (Y ++ (famT k tb bm ++ ([rowT tb' bm'] ++ R))) := tuck_perm [rowT tb' bm'] Y (famT k tb bm) R
  simpa only [List.append_assoc] using h2
theorem svF_grow (tb : Nat → Nat) (k tb' : Nat) : (∀ j, j < k * 2 → svF (kset tb k tb') (fun _ => 0) j = svF tb (fun _ => 0) j) ∧ ∀ j, j < 1 * 2 → svF (kset tb k tb') (fun _ => 0) (k * 2 + j) = ofL [.pointer (some ⟨tb', 0, none⟩), .int .i64 0] j := by
  refine ⟨fun j hj => ?_, fun j hj => ?_⟩
  · unfold svF
    rw [kset_ne _ _ (by omega)]
  · rcases (by omega : j = 0 ∨ j = 1) with rfl | rfl
    · rw [Nat.add_zero, svF_0, kset_at]; rfl
    · rw [svF_1]; rfl
def StS (t7 t9 : Nat) (C : Value) (x : StepX) (w : World) : Prop := w.cell? ⟨t7, 0, none⟩ = some C ∧ w.cell? ⟨t9, 0, none⟩ = some (.int .i64 x.kind) ∧ w.cell? ⟨t9, 1, none⟩ = some (.int .i64 x.client) ∧ w.cell? ⟨t9, 2, none⟩ = some (.int .i64 x.server) ∧
  w.cell? ⟨t9, 3, none⟩ = some (.int .i64 x.deed.kind) ∧ w.cell? ⟨t9, 4, none⟩ = some (.string (bs x.deed.path)) ∧ w.cell? ⟨t9, 5, none⟩ = some (.string (bs x.deed.data)) ∧ w.cell? ⟨t9, 6, none⟩ = some (.int .i64 x.deed.version)
theorem StS.of {w0 w : World} {L : List LRow} {t7 t9 : Nat} {C : Value} {l : List Value} {x : StepX} (h : Lay w0 w L) (i j : Nat) (hi : L[i]? = some (blk t7 52 3 (ofL (C :: l)))) (hj : L[j]? = some (blk t9 49 7 (ofL (cellsX x)))) : StS t7 t9 C x w :=
  ⟨h.cellB i hi 0 (by omega), h.cellB j hj 0 (by omega), h.cellB j hj 1 (by omega), h.cellB j hj 2 (by omega), h.cellB j hj 3 (by omega), h.cellB j hj 4 (by omega), h.cellB j hj 5 (by omega), h.cellB j hj 6 (by omega)⟩
set_option maxRecDepth 100000 in
set_option maxHeartbeats 6400000 in
theorem kplay_good (n m cap0 B : Nat) (A0 : Option Addr) (X : Nat → StepX) (w : World) (hn1 : 1 ≤ n) (hn : n ≤ 6) (hm : m ≤ 60) (hB : B ≤ w.heap.size) (hD : ∀ i, i < m → DeedL (X i).deed) (hr : Rd w B A0 (m * 7) (skF X)) :
    Calls Tryd.prog 14 #[.int .i64 n, .slice A0 m cap0] w (Gives fun v w' => ∃ AC cC AP cP AS cS G VR, v = .tuple #[.agg #[.slice AC m cC, .slice AP n cP, .slice AS 6 cS], .int .i64 0] ∧
      Lay w w' (rowTd AC m cC G :: lst AP 3 n cP (fun t => .int .i64 ((kst n X m).ap t : Nat)) :: lst AS 3 6 cS (fun t => .int .i64 ((kst n X m).seen t : Nat)) :: VR) ∧ ∀ t, t < m → TdI VR G t (kans n X t)) := by
  have HR := Lib.hid hr; clear hr
  have HD := Lib.hid hD; clear hD
  obtain ⟨iT, hiT, hzT0, hzT1, hzT2⟩ := info_parts infoTold
  obtain ⟨iV, hiV, hzV0, hzV1, hzV2⟩ := info_parts infoServer
  obtain ⟨iI, hiI, hzI0, hzI1, hzI2⟩ := info_parts infoInt1
  have HM0 : Hid (LayM w ((w.alloc (.cells #[.slice none 0 0, .slice none 0 0, .slice none 0 0] 52)).alloc (.cells l14.toArray 77)) (blk w.heap.size 52 3 (ofL kept3) :: rowsK (w.heap.size + 1) none 0 0 (fun _ => 0) (fun _ => 0) none 0 K0 []) (mapsS 0 (fun _ => 0) (treeAt K0))) := Lib.hid (by
    have h1 := ((Lay.nil w).newB kept3 52 3 rfl _ rfl).newB l14 77 14 rfl (w.heap.size + 1) (by simp)
    have h2 := h1.congr 0 (plF none 0 0 none 0 0 (fun _ => 0) (fun _ => 0)) rfl (fun j hj => plF_zero j hj)
    have h3 := (h2.lnil 79 2 (svF (fun _ => 0) (fun _ => 0))).lnil 30 4 (ddF (fun _ => Dz))
    exact (h3.perm (L' := blk w.heap.size 52 3 (ofL kept3) :: rowsK (w.heap.size + 1) none 0 0 (fun _ => 0) (fun _ => 0) none 0 K0 []) [3, 2, 1, 0] (by decide) rfl).toM)
  go_enter Tryd.func14, Tryd.ntmps14
  go_wp2
  generalize w.heap.size + 1 = g at HM0 ⊢
  generalize ht4 : w.heap.size = t4 at HM0 ⊢
  go_loopw [27] (fun i wr => ∃ (k cs : Nat) (SA : Option Addr) (tb bm : Nat → Nat), k ≤ n ∧ i = .int .i64 (k : Nat) ∧ Hid (LayM w wr (blk t4 52 3 (ofL kept3) :: rowsK g SA k cs tb bm none 0 K0 []) (mapsS k bm (treeAt K0)))) (fun i _ => n - (intOf i).toNat)
  case atStart => exact ⟨0, 0, none, _, _, by omega, rfl, HM0⟩
  case round =>
    clear HM0
    obtain ⟨k, cs, SA, tb, bm, hk, rfl, HQ⟩ := hrel
    by_cases hlt : k < n
    · have p0 : wr.cell? ⟨g, 0, none⟩ = some (.slice SA k cs) := HQ.out.lay.cellB 1 rfl 0 (by omega)
      go_wp2
      refine wp_held_mask (fun W => W.cell? ⟨g, 0, none⟩ = some (.slice SA k cs)) [true, true, true, true, true, false, false, false, false, false, false, false] ?A1 (by kernel_rfl) rfl (by kernel_rfl) (by repeat' (first | (with_reducible apply tame_then) | (with_reducible apply tame_block) | (with_reducible apply tame_scope) | exact tame_gives | exact tame_body (fun _ _ h => ⟨_, h.1⟩))) p0 ?head ?tail
      case head =>
        intro W5 s0
        simp only [pick]
        go_wp2
        exact taken
      case tail =>
        simp only [pick, List.map_cons, List.map_nil, Bool.not_true, Bool.not_false]
        clear p0
        refine tail_step ?_
        go_wp2_with (go_at_call 19
                     refine (new_any _ _ w wr.drew HQ.out.drew).mono ?_
                     rintro e w3 ⟨tb', bm', rfl, h3⟩
                     have H3 := Lib.hid h3
                     clear h3 HQ)
        refine holds (H3.out.lay.cellB 2 rfl 0 (by omega)) ?_
        refine tail_step ?_
        go_wp2
        refine holds (H3.out.lay.cellB 2 rfl 0 (by omega)) ?_
        refine tail_step ?_
        go_wp2
        refine holds ((H3.out.alloc _).lay.cellB 2 rfl 0 (by omega)) ?_
        refine tail_step ?_
        have HSZ : Hid (w.heap.size ≤ (w3.alloc (.cells #[.pointer (some ⟨tb', 0, none⟩), .int .i64 0] 79)).heap.size) := Lib.hid (by have := H3.out.lay.size; simp; omega)
        have HO1 : Hid (∀ k, k < 1 * 2 → (ofL [.pointer (some ⟨tb', 0, none⟩), .int .i64 0] k).oneCell' = true) := Lib.hid (fun k hk => by
          rcases (by omega : k = 0 ∨ k = 1) with rfl | rfl <;> rfl)
        go_wp2_with (first
          | (at_builtin
             refine wpList_ap rfl (.tmp 33) (.tmp 36) _ rfl 79 iV _ 2 16 Tryd.underlying74 hiV hzV0 hzV1 hzV2 rfl (by omega) w.heap.size (n := k) rfl ((H3.out.lay.alloc _).own 3 _ rfl) (B := w3.heap.size + 1) (m := 1) (g := ofL [.pointer (some ⟨tb', 0, none⟩), .int .i64 0]) rfl ?hr HO1.out (svF (kset tb k tb') (fun _ => 0)) (svF_grow tb k tb').1 (svF_grow tb k tb').2 (k + 1) rfl (by unfold maxLen; omega) (by omega) HSZ.out ?_
             case hr =>
               refine cell_new w3 _ _ _ w3.heap.size rfl (fun k hk => ?_)
               rcases (by omega : k = 0 ∨ k = 1) with rfl | rfl <;> rfl
             intro A2 c2 w4 ho hg hh
             have H4 := Lib.hid ((H3.out.alloc _).app 3 rfl ho hg hh)
             clear ho hg hh HSZ HO1 H3)
          | fail)
        refine holds (H4.out.lay.cellB 2 rfl 0 (by omega)) ?_
        refine tail_step ?_
        go_wp2
        refine holds (H4.out.lay.cellB 2 rfl 0 (by omega)) ?_
        refine tail_step ?_
        go_wp2
        refine holds (H4.out.lay.cellB 2 rfl 0 (by omega)) ?_
        refine tail_last ?_
        have p0 := H4.out.lay.cellB 2 rfl 0 (by omega)
        have z0 := H4.out.lay.frz 2 rfl (by omega) 0
        go_wp2
        have H5 := Lib.hid (H4.out.set 2 (plF A2 (k + 1) c2 none 0 0 (fun _ => 0) (fun _ => 0)) (j := 0) (u := .slice A2 (k + 1) c2) rfl (by omega) (plF_setL SA A2 k cs (k + 1) c2 none 0 0 _ _).1 (fun i _ hi => (plF_setL SA A2 k cs (k + 1) c2 none 0 0 _ _).2 i hi))
        go_roundw
        case rel => exact ⟨k + 1, c2, A2, kset tb k tb', kset bm k bm', by omega, by go_num, Lib.hid (kp_grow [blk t4 52 3 (ofL kept3), rowP g A2 (k + 1) c2 none 0 0 (fun _ => 0) (fun _ => 0), rowV A2 (k + 1) c2 (kset tb k tb') (fun _ => 0), dds none 0 0 (fun _ => Dz)] H5.out)⟩
        case measure => simp [intOf]; omega
    · obtain rfl : n = k := by omega
      obtain ⟨gs, eS, -, -, -, -⟩ := (HQ.out.lay.own 2 _ rfl).pos (show 0 < n by omega)
      have eS : SA = some ⟨gs, 0, none⟩ := eS
      subst eS
      obtain ⟨w6, hw6⟩ : ∃ w6, w6 = wr := ⟨_, rfl⟩
      rw [← hw6] at HQ ⊢
      clear hw6 wr
      have HQ1 := Lib.hid ((((HQ.out.lnil 35 4 (fun _ => undef)).newB kept3 52 3 rfl _ rfl)))
      clear HQ
      go_wp2
      generalize w6.heap.size = t7 at HQ1 ⊢
      go_loopw [43] (fun i wr => ∃ (j : Nat) (AC : Option Addr) (cC : Nat) (G : Nat → Value) (A : Option Addr) (cap : Nat) (VR : List LRow), j ≤ m ∧ i = .int .i64 (j : Nat) ∧ Hid (LayM w wr (blk t7 52 3 (ofL [.slice AC j cC, .slice none 0 0, .slice none 0 0]) :: rowTd AC j cC G :: blk t4 52 3 (ofL kept3) :: rowsK g (some ⟨gs, 0, none⟩) n cs tb bm A cap (kst n X j) VR) (mapsS n bm (treeAt (kst n X j)))) ∧ Hid (∀ t, t < j → TdI VR G t (kans n X t))) (fun i _ => m - (intOf i).toNat)
      case atStart => exact ⟨0, none, 0, _, none, 0, [], by omega, rfl, HQ1, Lib.hid fun t ht => absurd ht (by omega)⟩
      case round =>
        clear HQ1
        obtain ⟨j, AC, cC, G, A, cap, VR, hj, rfl, HQ, HT⟩ := hrel
        by_cases hlt : j < m
        · obtain ⟨ad, rfl, -, m0, m1, m2, m3, m4, m5, m6⟩ := (HR.out.below (HQ.out.lay.bel.mono hB)).recX hlt
          go_upto_region 12 with (fail)
          refine at_layM (F := fun W' => Code.wp _ _ _ _ W') (HQ.out.newB (cellsX (X j)) 49 7 rfl _ rfl) ?_
          intro W hW
          have HW := Lib.hid hW
          clear hW HQ m0 m1 m2 m3 m4 m5 m6
          generalize wr.heap.size = t9 at HW ⊢
          refine wp_held_mask (StS t7 t9 (.slice AC j cC) (X j)) [true, true, true, true, false, false, false, false, false] ?A2 (by kernel_rfl) rfl (by kernel_rfl) (by repeat' (first | (with_reducible apply tame_then) | (with_reducible apply tame_block) | (with_reducible apply tame_scope) | exact tame_gives | exact tame_body (fun _ _ h => ⟨_, h.1⟩))) (StS.of HW.out.drew.lay 1 0 rfl rfl) ?head2 ?tail2
          case head2 =>
            intro W5 ⟨s0, s1, s2, s3, s4, s5, s6, s7⟩
            simp only [pick]
            go_wp2
            exact taken
          case tail2 =>
            simp only [pick, List.map_cons, List.map_nil, Bool.not_true, Bool.not_false]
            have HDO := Lib.hid (kdo_any g gs n cs tb bm A cap (kst n X j) _ w W.drew j (X j) hn (kst_ok hn1 X j fun i hi => HD.out i (by omega)) (by omega) (HD.out j hlt) (kp_tuck [blk t9 49 7 (ofL (cellsX (X j))), blk t7 52 3 (ofL [.slice AC j cC, .slice none 0 0, .slice none 0 0]), rowTd AC j cC G, blk t4 52 3 (ofL kept3)] HW.out.drew))
            have ek : keepK n (kst n X j) (X j) = (kans n X j, kst n X (j + 1)) := rfl
            rw [ek] at HDO
            refine tail_step ?_
            go_wp2_with (go_at_call 22
                         refine HDO.out.mono ?_
                         rintro e w3 ⟨v, rfl, AN, cN, A', cap', rfl, h3⟩
                         have H3 := Lib.hid (kp_untuck [_] [blk t9 49 7 (ofL (cellsX (X j))), blk t7 52 3 (ofL [.slice AC j cC, .slice none 0 0, .slice none 0 0]), rowTd AC j cC G, blk t4 52 3 (ofL kept3)] h3)
                         clear h3 HDO ek HW)
            obtain ⟨a, ha⟩ : ∃ a, kans n X j = a := ⟨_, rfl⟩
            try dsimp only at H3
            try dsimp only
            rw [ha] at H3 ⊢
            have HA := Lib.hid ha
            clear ha
            unfold toldV
            refine holds (StS.of H3.out.lay 2 1 rfl rfl) ?_
            refine tail_step ?_
            go_wp2
            refine holds (StS.of (H3.out.alloc _).lay 2 1 rfl rfl) ?_
            refine tail_step ?_
            have HSZ : Hid (w.heap.size ≤ (w3.alloc (.cells (toldL AN cN a).toArray 35)).heap.size) := Lib.hid (by have := H3.out.lay.size; simp; omega)
            have HO1 : Hid (∀ k, k < 1 * 4 → (ofL (toldL AN cN a) k).oneCell' = true) := Lib.hid (fun k hk => by
              rcases (by omega : k = 0 ∨ k = 1 ∨ k = 2 ∨ k = 3) with rfl | rfl | rfl | rfl <;> rfl)
            go_wp2_with (first
              | (at_builtin
                 refine wpList_ap rfl (.tmp 48) (.tmp 52) _ rfl 35 iT _ 4 56 Tryd.underlying23 hiT hzT0 hzT1 hzT2 rfl (by omega) w.heap.size (n := j) rfl ((H3.out.lay.alloc _).own 3 _ rfl) (B := w3.heap.size + 1) (m := 1) (g := ofL (toldL AN cN a)) rfl ?hr HO1.out (catG (j * 4) G (toldL AN cN a)) (fun k hk => by unfold catG; rw [if_pos hk]) (fun k hk => by unfold catG; rw [if_neg (by omega), Nat.add_sub_cancel_left]) (j + 1) rfl (by unfold maxLen; omega) (by omega) HSZ.out ?_
                 case hr =>
                   refine cell_new w3 _ _ _ w3.heap.size rfl (fun k hk => ?_)
                   rcases (by omega : k = 0 ∨ k = 1 ∨ k = 2 ∨ k = 3) with rfl | rfl | rfl | rfl <;> rfl
                 intro A2 c2 w4 ho hg hh
                 have H4 := Lib.hid ((H3.out.alloc _).app 3 rfl ho hg hh)
                 clear ho hg hh HSZ HO1 H3)
              | fail)
            refine holds (StS.of H4.out.lay 2 1 rfl rfl) ?_
            refine tail_step ?_
            go_wp2
            refine holds (StS.of H4.out.lay 2 1 rfl rfl) ?_
            refine tail_last ?_
            have p0 := H4.out.lay.cellB 2 rfl 0 (by omega)
            have z0 := H4.out.lay.frz 2 rfl (by omega) 0
            go_wp2
            have H5 := Lib.hid (H4.out.fld 2 0 (.slice A2 (j + 1) c2) rfl (by omega) (by simp))
            go_roundw
            case rel => exact ⟨j + 1, A2, c2, catG (j * 4) G (toldL AN cN a), A', cap', rowS AN cN a.names :: VR, by omega, by go_num, Lib.hid ((H5.out.del 1).permL (tuck_perm [rowS AN cN a.names] [_, _, _, _, _, _] (famT n tb bm) VR)), Lib.hid fun t ht => by
              rcases Nat.lt_succ_iff_lt_or_eq.1 ht with h1 | rfl
              · exact ((HT.out t h1).sub (RowsIn.cons _ _)).congr fun k hk => by unfold catG; rw [if_pos (by omega)]
              · rw [HA.out]
                exact ⟨0, AN, cN, rfl, fun k hk => by unfold catG; rw [if_neg (by omega), Nat.add_sub_cancel_left]⟩⟩
            case measure => simp [intOf]; omega
        · obtain rfl : m = j := by omega
          obtain ⟨w7, hw7⟩ : ∃ w7, w7 = wr := ⟨_, rfl⟩
          rw [← hw7] at HQ ⊢
          clear hw7 wr
          have p0 : w7.cell? ⟨g, 0, none⟩ = some (.slice (some ⟨gs, 0, none⟩) n cs) := HQ.out.lay.cellB 3 rfl 0 (by omega)
          have HQ3 := Lib.hid (HQ.out.lnil 3 1 (fun t => .int .i64 ((kst n X m).ap t : Nat)))
          clear HQ
          go_wp2
          go_loopw [61] (fun i wr => ∃ (k : Nat) (AP : Option Addr) (cP : Nat), k ≤ n ∧ i = .int .i64 (k : Nat) ∧ Hid (LayM w wr (lst AP 3 k cP (fun t => .int .i64 ((kst n X m).ap t : Nat)) :: blk t7 52 3 (ofL [.slice AC m cC, .slice AP k cP, .slice none 0 0]) :: rowTd AC m cC G :: blk t4 52 3 (ofL kept3) :: rowsK g (some ⟨gs, 0, none⟩) n cs tb bm A cap (kst n X m) VR) (mapsS n bm (treeAt (kst n X m))))) (fun i _ => n - (intOf i).toNat)
          case atStart => exact ⟨0, none, 0, by omega, rfl, HQ3⟩
          case round =>
            clear HQ3 p0
            obtain ⟨k, AP, cP, hk, rfl, HQ⟩ := hrel
            by_cases hlt : k < n
            · have s0 : wr.cell? ⟨gs, k * 2, none⟩ = some (.pointer (some ⟨tb k, 0, none⟩)) := (HQ.out.lay.cell 5 rfl (j := k * 2) (by omega)).trans (congrArg some (svF_0 _ _ _))
              have s1 : wr.cell? ⟨gs, k * 2 + 1, none⟩ = some (.int .i64 ((kst n X m).ap k : Nat)) := (HQ.out.lay.cell 5 rfl (j := k * 2 + 1) (by omega)).trans (congrArg some (svF_1 _ _ _))
              go_upto_region 17 with (fail)
              refine at_layM (F := fun W' => Code.wp _ _ _ _ W') (HQ.out.newB [.pointer (some ⟨tb k, 0, none⟩), .int .i64 ((kst n X m).ap k : Nat)] 79 2 rfl _ rfl) ?_
              intro W hW
              have HW := Lib.hid hW
              clear hW HQ s0 s1
              generalize wr.heap.size = t11 at HW ⊢
              have q1 := HW.out.lay.cellB 0 rfl 1 (by omega)
              have r1 := HW.out.lay.cellB 2 rfl 1 (by omega)
              simp only [ofL_1] at q1 r1
              have HSZ : Hid (w.heap.size ≤ (W.alloc (.cells #[.int .i64 ((kst n X m).ap k : Nat)] 3)).heap.size) := Lib.hid (by have := HW.out.lay.size; simp; omega)
              have HF2 : Hid (∀ i, i < 1 → (fun t => Value.int .i64 ((kst n X m).ap t : Nat)) (k + i) = (fun _ : Nat => Value.int .i64 ((kst n X m).ap k : Nat)) i) := Lib.hid fun i hi => by
                obtain rfl : i = 0 := by omega
                rfl
              go_wp2_with (at_builtin; revert HR)
              intro HR
              refine wpList_ap1 rfl (.tmp 66) (.tmp 69) _ rfl 3 iI _ 8 Tryd.underlying50 hiI hzI0 hzI1 hzI2 rfl w.heap.size (n := k) rfl (own1 ((HW.out.lay.alloc _).own 1 _ rfl)) (B := W.heap.size + 1) (m := 1) (g := fun _ => .int .i64 ((kst n X m).ap k : Nat)) rfl ?hr (fun _ _ => rfl) (fun t => .int .i64 ((kst n X m).ap t : Nat)) (fun _ _ => rfl) HF2.out (k + 1) rfl (by unfold maxLen; omega) (by omega) HSZ.out ?_
              case hr => exact cell_new W _ _ _ W.heap.size rfl (one_cell _)
              intro A2 c2 w4 ho hg hh
              have H4 := Lib.hid ((HW.out.alloc _).app 1 rfl ho hg hh)
              clear ho hg hh HSZ HW q1 r1
              have r1 := H4.out.lay.cellB 2 rfl 1 (by omega)
              have z1 := H4.out.lay.frz 2 rfl (by omega) 1
              go_wp2
              have H5 := Lib.hid (H4.out.fld 2 1 (.slice A2 (k + 1) c2) rfl (by omega) (by simp))
              go_roundw
              case rel => exact ⟨k + 1, A2, c2, by omega, by go_num, Lib.hid H5.out.tl⟩
              case measure => simp [intOf]; omega
            · obtain rfl : n = k := by omega
              have r2 := HQ.out.lay.cellB 1 rfl 2 (by omega)
              simp only [ofL_2] at r2
              have hgl := (HQ.out.lay.at_ 4 rfl).2
              have HRS : Hid (Rd wr.drew wr.heap.size (some ⟨g, 8, none⟩) 6 (fun t => .int .i64 ((kst n X m).seen t : Nat))) := Lib.hid fun _ => ⟨⟨g, 8, none⟩, rfl, hgl, fun j hj => by
                have := (HQ.out.lay.cellB 4 rfl (8 + j) (by have hj : j < 6 := hj; omega)).trans (congrArg some (plF_seen _ _ _ _ _ _ _ _ j))
                have e : (⟨g, 8, none⟩ : Addr).add j = ⟨g, 8 + j, none⟩ := by unfold Addr.add; split <;> simp_all
                rw [e]; exact this⟩
              clear hgl
              have HSZ : Hid (w.heap.size ≤ wr.drew.heap.size) := Lib.hid HQ.out.lay.size
              go_wp2
              refine wp_text 6 (by kernel_rfl) (by kernel_rfl) (by kernel_rfl) (by repeat' (first | (with_reducible apply tame_then) | (with_reducible apply tame_block) | (with_reducible apply tame_scope) | exact tame_gives | exact tame_body (fun _ _ h => ⟨_, h.1⟩))) ?_
              simp only [List.take_succ_cons, List.take_zero, List.drop_succ_cons, List.drop_zero]
              go_wp2
              refine headed ?_
              go_wp2_with (at_builtin; revert HR)
              intro HR
              refine wpList_ap1 rfl (.tmp 74) (.tmp 78) _ rfl 3 iI _ 8 Tryd.underlying50 hiI hzI0 hzI1 hzI2 rfl w.heap.size (n := 0) rfl (Own.nil_ _ _ _ _ (fun t => .int .i64 ((kst n X m).seen t : Nat))) (B := wr.heap.size) (m := 6) (g := fun t => .int .i64 ((kst n X m).seen t : Nat)) rfl HRS.out (fun _ _ => rfl) (fun t => .int .i64 ((kst n X m).seen t : Nat)) (fun i hi => absurd hi (by omega)) (fun i hi => by rw [Nat.zero_add]) 6 rfl (by unfold maxLen; omega) (by omega) HSZ.out ?_
              intro AS cS w4 ho hg hh
              have H4 := Lib.hid ((HQ.out.drew.lnil 3 1 (fun t => .int .i64 ((kst n X m).seen t : Nat))).app 0 rfl ho hg hh)
              clear ho hg hh HSZ HRS r2 HQ
              have r0 := H4.out.lay.cellB 2 rfl 0 (by omega)
              have r1 := H4.out.lay.cellB 2 rfl 1 (by omega)
              have r2 := H4.out.lay.cellB 2 rfl 2 (by omega)
              have z2 := H4.out.lay.frz 2 rfl (by omega) 2
              have x0 := H4.out.lay.cellB 4 rfl 0 (by omega)
              have x1 := H4.out.lay.cellB 4 rfl 1 (by omega)
              have x2 := H4.out.lay.cellB 4 rfl 2 (by omega)
              have y0 := H4.out.lay.frz 4 rfl (by omega) 0
              have y1 := H4.out.lay.frz 4 rfl (by omega) 1
              have y2 := H4.out.lay.frz 4 rfl (by omega) 2
              simp only [ofL_0, ofL_1, ofL_2] at r0 r1 r2 x0 x1 x2
              have n1 : t7 ≠ t4 := H4.out.lay.ne_ 2 4 rfl rfl (by omega)
              go_wp2
              have HG := Lib.hid ((((H4.out.fld 2 2 (.slice AS 6 cS) rfl (by omega) (by simp)).fld 4 0 (.slice AC m cC) rfl (by omega) (by simp)).fld 4 1 (.slice AP n cP) rfl (by omega) (by simp)).fld 4 2 (.slice AS 6 cS) rfl (by omega) (by simp))
              have f0 := HG.out.lay.cellB 4 rfl 0 (by omega)
              have f1 := HG.out.lay.cellB 4 rfl 1 (by omega)
              have f2 := HG.out.lay.cellB 4 rfl 2 (by omega)
              simp only [List.set_cons_zero, List.set_cons_succ, ofL_0, ofL_1, ofL_2] at f0 f1 f2
              refine bodyPost_ret (v := .tuple #[.agg #[.slice AC m cC, .slice AP n cP, .slice AS 6 cS], .int .i64 0]) (by simp [results, Tryd.results14, go_sem, f0, f1, f2]) rfl ?_
              refine ⟨_, rfl, AC, cC, AP, cP, AS, cS, rfl, G, VR, ?_, HT.out⟩
              exact (HG.out.lay.subL (.cons_cons _ (.cons_cons _ (.cons _ (.cons_cons _ (.cons _ (.cons _ (.cons _ (.cons _ (List.sublist_append_right (famT n tb bm) VR)))))))))).permL ((List.Perm.swap _ _ _).trans (((List.Perm.swap _ _ _).cons _).trans (List.Perm.swap _ _ _)))
end Go.Proofs.YtfdgjbanajodfaaDoor
