/- The law TreeMany, walked. -/
import Derived.Test.YtfkfljiinnlilaaDoorTrMany
import Derived.Test.YtfkfljiinnlilaaDoorTrOpen
import Derived.Test.YtfkfljiinnlilaaDoorPhase
set_option linter.unusedVariables false
set_option linter.unusedSimpArgs false
namespace Go.Proofs.YtfkfljiinnlilaaDoor
open Go.RowKit

theorem treeMany_bad (m q c1 c2 : Nat) (A1 A2 : Option Addr) (w : World) (hm : m * 48 ≤ 140737488351232) (hq : q * 48 ≤ 140737488351232) (hb : 60 < m + q) :
    Calls Tryd.prog 6 #[.slice A1 m c1, .slice A2 q c2] w fun e w' => e = .returned (.bool true) ∧ Below w.heap.size w w' := by
  go_enter Tryd.func6, Tryd.ntmps6
  go_wp2_with fail
  refine (many_bad m q c1 c2 A1 A2 w hm hq hb).mono ?_
  rintro e w1 ⟨rfl, rfl⟩
  by_cases h1 : 60 < m
  · go_wp2
    go_ret
    exact ⟨rfl, Below.refl _ _⟩
  · by_cases h2 : 60 < q
    · go_wp2
      go_ret
      exact ⟨rfl, Below.refl _ _⟩
    · go_wp2
      go_ret
      exact ⟨rfl, Below.refl _ _⟩
set_option maxRecDepth 100000 in
set_option maxHeartbeats 3200000 in
theorem treeMany_good (m q c1 c2 : Nat) (A1 A2 : Option Addr) (D E : Nat → Deed) (w : World) (hm : m + q ≤ 60) (hD : ∀ i, i < m → DeedL (D i)) (hE : ∀ i, i < q → DeedL (E i)) (hr : Rd w w.heap.size A1 (m * 4) (ddF D)) (hr2 : Rd w w.heap.size A2 (q * 4) (ddF E)) :
    Calls Tryd.prog 6 #[.slice A1 m c1, .slice A2 q c2] w fun e w' => e = .returned (.bool true) ∧ Below w.heap.size w w' := by
  have HM := Lib.hid (many_good m q c1 c2 w.heap.size A1 A2 D E w hm (Nat.le_refl _) hD hE hr hr2)
  have HRW := Lib.hid hr
  have HRW2 := Lib.hid hr2
  have HD : Hid (∀ i, i < m + q → DeedL (appD D m E i)) := Lib.hid fun i hi => by
    by_cases h : i < m
    · rw [appD_old _ _ _ h]; exact hD i h
    · obtain ⟨k, rfl⟩ : ∃ k, i = m + k := ⟨i - m, by omega⟩
      rw [appD_new]; exact hE k (by omega)
  clear hr hr2 hD hE
  go_enter Tryd.func6, Tryd.ntmps6
  go_wp2_with fail
  refine HM.out.mono ?_
  rintro e w1 ⟨v, rfl, AC, cC, G, VR, k, is, rfl, hL, hT, hK⟩
  obtain ⟨NA, NC, hP, -⟩ := plR_of hL hT
  have HP := Lib.hid hP
  have HB1 := Lib.hid hL.bel
  have HR := Lib.hid ((HRW.out.below hL.bel).more hL.bel.size)
  have HR2 := Lib.hid ((HRW2.out.below hL.bel).more hL.bel.size)
  have hkq := hK.le
  clear hP hL hT HM HRW HRW2
  cases is
  · obtain ⟨hK1, hK2, hK3⟩ := hK.no rfl
    have HK2 := Lib.hid hK2
    have HK3 := Lib.hid hK3
    clear hK hK2 hK3
    have ek : ((k : Int) == 0) = false := by simp; omega
    go_wp2_with (first
      | (at_builtin; refine wpList_apDs rfl (.tmp 38) (.tmp 39) rfl w1.heap.size rfl (Own.empty _ _ _ _ (ddF (fun _ => Dz)) _ (by simp) (by simp)) rfl (HR.out.alloc (Nat.le_refl _) _) m (Nat.zero_add m) (by unfold maxLen; omega) (by omega) (by simp) ?_; intro A3 c3 w3 ho3 hg3 ha3
         have HL3 : Hid (Lay w1 w3 [dds A3 m c3 (appD (fun _ => Dz) 0 D)]) := (((Lay.nil w1).new #[] 28 4 0 (ddF (fun _ => Dz)) _ rfl rfl (by unfold maxLen; omega) (fun j hj => absurd hj (by omega))).app 0 rfl ho3 hg3 ha3)
         rw [appD_zero] at HL3
         clear ho3 hg3 ha3)
      | (at_builtin; refine wpList_apDs rfl (.tmp 40) (.tmp 41) rfl w1.heap.size rfl (HL3.out.own 0 _ rfl) rfl (HR2.out.below HL3.out.bel) (m + q) rfl (by unfold maxLen; omega) (by omega) HL3.out.size ?_; intro A5 c5 w5 ho5 hg5 ha5
         have HL5 := Lib.hid (HL3.out.app 0 rfl ho5 hg5 ha5)
         clear ho5 hg5 ha5 HL3)
      | fail)
    refine (play_law (m + q) c5 w5.heap.size A5 (appD D m E) w5 (by omega) (Nat.le_refl _) HD.out (HL5.out.rd 0 rfl)).mono ?_
    rintro e w6 ⟨AA, cA, NA2, NC2, rfl, hb, hPA, -⟩
    have HPA := Lib.hid hPA
    have hb16 := HL5.out.bel.trans (hb.mono HL5.out.size)
    have HPL : Hid (PlR w6 w1.heap.size AC k NA NC (fun t => ansS T0 (appD D m E) (m + t))) := Lib.hid (HP.out.to hb16)
    have HFIN : Hid (Below w.heap.size w w6) := Lib.hid (HB1.out.trans (hb16.mono HB1.out.size))
    have HQ0 : Hid (Below w6.heap.size w6 w6) := Lib.hid (Below.refl _ _)
    clear hb16 hb hPA HL5 HP HB1 HR HR2
    have e0 : (((m + q : Nat) : Int) != (m : Int) + (q : Int)) = false := by simp
    have eg : decide (q < k) = false := by simp; omega
    go_wp2
    go_loopw [90] (fun i wr => ∃ j : Nat, j ≤ k ∧ i = .int .i64 (j : Nat) ∧ Hid (Below w6.heap.size w6 wr)) (fun i _ => k - (intOf i).toNat)
    case atStart => exact ⟨0, by omega, rfl, HQ0⟩
    case round =>
      clear HQ0 e0
      obtain ⟨j, hj, rfl, HQ⟩ := hrel
      by_cases hlt : j < k
      · have HLEN : Hid ((ansS T0 (appD D m E) (m + j)).names.length ≤ 12) := Lib.hid (ansS_len fun i hi => HD.out i (by omega))
        obtain ⟨a, ha⟩ : ∃ a, ansS T0 (appD D m E) (m + j) = a := ⟨_, rfl⟩
        rw [ha] at HLEN
        have HA := Lib.hid ha
        clear ha
        by_cases hlast : j + 1 = k
        · have hc : (a.code != 0) = true := by rw [← HA.out, show j = k - 1 by omega]; simpa using HK2.out
          have hje : ((j : Int) == (k : Int) - 1) = true := by simp; omega
          obtain ⟨ad, rfl, -, m0, m1, m2, m3⟩ := (HPL.out.to HQ.out).rec4 hlt
          rw [HA.out] at m0 m1 m2 m3
          go_upto_region 10 with (fail)
          refine at_world (F := fun W' => Code.wp _ _ _ _ W') (fun W => Lay wr W [blk wr.heap.size 31 4 (ofL (toldL (NA j) (NC j) a))] ∧ Below w6.heap.size w6 W) ⟨(Lay.nil wr).newB (toldL (NA j) (NC j) a) 31 4 rfl _ rfl, HQ.out.alloc HQ.out.size _⟩ ?_
          rintro W ⟨hL, hB⟩
          clear m0 m1 m2 m3
          have HB := Lib.hid hB.drew
          obtain ⟨ad2, rfl, hlt2, k0, k1, k2, k3⟩ := (HPA.out.to hB).rec4 (show m + j < m + q by omega)
          rw [HA.out] at k0 k1 k2 k3
          have HW := Lib.hid hL
          have r0 := HW.out.cellB 0 rfl 0 (by omega)
          have r1 := HW.out.cellB 0 rfl 1 (by omega)
          have r2 := HW.out.cellB 0 rfl 2 (by omega)
          have r3 := HW.out.cellB 0 rfl 3 (by omega)
          simp only [toldL, ofL_0, ofL_1, ofL_2, ofL_3] at r0 r1 r2 r3
          have HN1 := Lib.hid (((HPL.out.N j hlt).below ((hB.drew).mono HPL.out.le)).more (Nat.le_trans HPL.out.le hB.drew.size))
          have HN2 := Lib.hid (((HPA.out.N (m + j) (by omega)).below ((hB.drew).mono HPA.out.le)).more (Nat.le_trans HPA.out.le hB.drew.size))
          rw [HA.out] at HN1 HN2
          clear hB hL
          generalize wr.heap.size = tb at HW r0 r1 r2 r3 ⊢
          refine wp_phase (fun W => (W.cell? ⟨tb, 0, none⟩ = some (.int .i64 a.code) ∧ W.cell? ⟨tb, 1, none⟩ = some (.string (bs a.data)) ∧ W.cell? ⟨tb, 2, none⟩ = some (.int .i64 a.ver) ∧ W.cell? ⟨tb, 3, none⟩ = some (.slice (NA j) a.names.length (NC j))) ∧ W.cell? (ad2.add ((m + j) * 4)) = some (.int .i64 a.code) ∧ W.cell? ⟨(ad2.add ((m + j) * 4)).block, (ad2.add ((m + j) * 4)).off + 1, none⟩ = some (.string (bs a.data)) ∧
                W.cell? ⟨(ad2.add ((m + j) * 4)).block, (ad2.add ((m + j) * 4)).off + 2, none⟩ = some (.int .i64 a.ver) ∧ W.cell? ⟨(ad2.add ((m + j) * 4)).block, (ad2.add ((m + j) * 4)).off + 3, none⟩ = some (.slice (NA2 (m + j)) a.names.length (NC2 (m + j)))) [true, true, true, true, true, true, true, true, false] ?Ax (by kernel_rfl) (by decide) (by kernel_rfl) (by repeat' (first | (with_reducible apply tame_then) | (with_reducible apply tame_block) | (with_reducible apply tame_scope) | exact tame_gives | exact tame_body (fun _ _ h => ⟨_, h.1⟩))) ⟨⟨r0, r1, r2, r3⟩, k0, k1, k2, k3⟩ ?hx ?tx
          case hx =>
            intro W5 ⟨⟨s0, s1, s2, s3⟩, s4, s5, s6, s7⟩
            simp only [pick]
            go_wp2
            exact taken
          case tx =>
            simp only [pick, List.map_cons, List.map_nil, Bool.not_true, Bool.not_false]; refine chain_step ?_
            go_wp2_with fail
            refine (telling_any (NC j) (NC2 (m + j)) W.drew.heap.size (NA j) (NA2 (m + j)) a W.drew (Nat.le_trans HLEN.out (by omega)) (Nat.le_refl _) HN1.out HN2.out).mono ?_
            rintro e w8 ⟨rfl, hb8⟩
            have d0 : w8.cell? ⟨tb, 0, none⟩ = some (.int .i64 a.code) := (hb8.cell (HW.out.at_ 0 rfl).2).trans r0
            have HB8 := Lib.hid (HB.out.trans (hb8.mono HB.out.size))
            have HS : Hid ((w8.cell? ⟨tb, 0, none⟩ = some (.int .i64 a.code) ∧ w8.cell? ⟨tb, 1, none⟩ = some (.string (bs a.data)) ∧ w8.cell? ⟨tb, 2, none⟩ = some (.int .i64 a.ver) ∧ w8.cell? ⟨tb, 3, none⟩ = some (.slice (NA j) a.names.length (NC j))) ∧ w8.cell? (ad2.add ((m + j) * 4)) = some (.int .i64 a.code) ∧ w8.cell? ⟨(ad2.add ((m + j) * 4)).block, (ad2.add ((m + j) * 4)).off + 1, none⟩ = some (.string (bs a.data)) ∧
                w8.cell? ⟨(ad2.add ((m + j) * 4)).block, (ad2.add ((m + j) * 4)).off + 2, none⟩ = some (.int .i64 a.ver) ∧ w8.cell? ⟨(ad2.add ((m + j) * 4)).block, (ad2.add ((m + j) * 4)).off + 3, none⟩ = some (.slice (NA2 (m + j)) a.names.length (NC2 (m + j)))) := by
              have h1 : tb < W.drew.heap.size := (HW.out.at_ 0 rfl).2
              have h2 : (ad2.add ((m + j) * 4)).block < W.drew.heap.size := by rw [addr_block]; have := HPA.out.le; have := HB.out.size; omega
              exact Lib.hid ⟨⟨(hb8.cell h1).trans r0, (hb8.cell (p := ⟨tb, 1, none⟩) h1).trans r1, (hb8.cell (p := ⟨tb, 2, none⟩) h1).trans r2, (hb8.cell (p := ⟨tb, 3, none⟩) h1).trans r3⟩, (hb8.cell h2).trans k0, (hb8.cell (p := ⟨(ad2.add ((m + j) * 4)).block, (ad2.add ((m + j) * 4)).off + 1, none⟩) h2).trans k1, (hb8.cell (p := ⟨(ad2.add ((m + j) * 4)).block, (ad2.add ((m + j) * 4)).off + 2, none⟩) h2).trans k2, (hb8.cell (p := ⟨(ad2.add ((m + j) * 4)).block, (ad2.add ((m + j) * 4)).off + 3, none⟩) h2).trans k3⟩
            clear hb8 r0 r1 r2 r3 k0 k1 k2 k3
            go_wp2
            refine holds HS.out ?_
            refine chain_end ?_; simp only [List.length_cons, List.length_nil, Nat.zero_add, Nat.reduceAdd, List.drop_succ_cons, List.drop_zero]; go_wp2; refine headed ?_; go_wp2_with fail
            go_roundw
            case rel => exact ⟨j + 1, by omega, by go_num, HB8⟩
            case measure => simp [intOf]; omega
        · have hc : (a.code != 0) = false := by rw [← HA.out]; simpa using HK3.out j (by omega)
          have hje : ((j : Int) == (k : Int) - 1) = false := by simp; omega
          obtain ⟨ad, rfl, -, m0, m1, m2, m3⟩ := (HPL.out.to HQ.out).rec4 hlt
          rw [HA.out] at m0 m1 m2 m3
          go_upto_region 10 with (fail)
          refine at_world (F := fun W' => Code.wp _ _ _ _ W') (fun W => Lay wr W [blk wr.heap.size 31 4 (ofL (toldL (NA j) (NC j) a))] ∧ Below w6.heap.size w6 W) ⟨(Lay.nil wr).newB (toldL (NA j) (NC j) a) 31 4 rfl _ rfl, HQ.out.alloc HQ.out.size _⟩ ?_
          rintro W ⟨hL, hB⟩
          clear m0 m1 m2 m3
          have HB := Lib.hid hB.drew
          obtain ⟨ad2, rfl, hlt2, k0, k1, k2, k3⟩ := (HPA.out.to hB).rec4 (show m + j < m + q by omega)
          rw [HA.out] at k0 k1 k2 k3
          have HW := Lib.hid hL
          have r0 := HW.out.cellB 0 rfl 0 (by omega)
          have r1 := HW.out.cellB 0 rfl 1 (by omega)
          have r2 := HW.out.cellB 0 rfl 2 (by omega)
          have r3 := HW.out.cellB 0 rfl 3 (by omega)
          simp only [toldL, ofL_0, ofL_1, ofL_2, ofL_3] at r0 r1 r2 r3
          have HN1 := Lib.hid (((HPL.out.N j hlt).below ((hB.drew).mono HPL.out.le)).more (Nat.le_trans HPL.out.le hB.drew.size))
          have HN2 := Lib.hid (((HPA.out.N (m + j) (by omega)).below ((hB.drew).mono HPA.out.le)).more (Nat.le_trans HPA.out.le hB.drew.size))
          rw [HA.out] at HN1 HN2
          clear hB hL
          generalize wr.heap.size = tb at HW r0 r1 r2 r3 ⊢
          refine wp_phase (fun W => (W.cell? ⟨tb, 0, none⟩ = some (.int .i64 a.code) ∧ W.cell? ⟨tb, 1, none⟩ = some (.string (bs a.data)) ∧ W.cell? ⟨tb, 2, none⟩ = some (.int .i64 a.ver) ∧ W.cell? ⟨tb, 3, none⟩ = some (.slice (NA j) a.names.length (NC j))) ∧ W.cell? (ad2.add ((m + j) * 4)) = some (.int .i64 a.code) ∧ W.cell? ⟨(ad2.add ((m + j) * 4)).block, (ad2.add ((m + j) * 4)).off + 1, none⟩ = some (.string (bs a.data)) ∧
                W.cell? ⟨(ad2.add ((m + j) * 4)).block, (ad2.add ((m + j) * 4)).off + 2, none⟩ = some (.int .i64 a.ver) ∧ W.cell? ⟨(ad2.add ((m + j) * 4)).block, (ad2.add ((m + j) * 4)).off + 3, none⟩ = some (.slice (NA2 (m + j)) a.names.length (NC2 (m + j)))) [true, true, true, true, true, true, true, true, false] ?Ay (by kernel_rfl) (by decide) (by kernel_rfl) (by repeat' (first | (with_reducible apply tame_then) | (with_reducible apply tame_block) | (with_reducible apply tame_scope) | exact tame_gives | exact tame_body (fun _ _ h => ⟨_, h.1⟩))) ⟨⟨r0, r1, r2, r3⟩, k0, k1, k2, k3⟩ ?hy ?ty
          case hy =>
            intro W5 ⟨⟨s0, s1, s2, s3⟩, s4, s5, s6, s7⟩
            simp only [pick]
            go_wp2
            exact taken
          case ty =>
            simp only [pick, List.map_cons, List.map_nil, Bool.not_true, Bool.not_false]; refine chain_step ?_
            go_wp2_with fail
            refine (telling_any (NC j) (NC2 (m + j)) W.drew.heap.size (NA j) (NA2 (m + j)) a W.drew (Nat.le_trans HLEN.out (by omega)) (Nat.le_refl _) HN1.out HN2.out).mono ?_
            rintro e w8 ⟨rfl, hb8⟩
            have d0 : w8.cell? ⟨tb, 0, none⟩ = some (.int .i64 a.code) := (hb8.cell (HW.out.at_ 0 rfl).2).trans r0
            have HB8 := Lib.hid (HB.out.trans (hb8.mono HB.out.size))
            have HS : Hid ((w8.cell? ⟨tb, 0, none⟩ = some (.int .i64 a.code) ∧ w8.cell? ⟨tb, 1, none⟩ = some (.string (bs a.data)) ∧ w8.cell? ⟨tb, 2, none⟩ = some (.int .i64 a.ver) ∧ w8.cell? ⟨tb, 3, none⟩ = some (.slice (NA j) a.names.length (NC j))) ∧ w8.cell? (ad2.add ((m + j) * 4)) = some (.int .i64 a.code) ∧ w8.cell? ⟨(ad2.add ((m + j) * 4)).block, (ad2.add ((m + j) * 4)).off + 1, none⟩ = some (.string (bs a.data)) ∧
                w8.cell? ⟨(ad2.add ((m + j) * 4)).block, (ad2.add ((m + j) * 4)).off + 2, none⟩ = some (.int .i64 a.ver) ∧ w8.cell? ⟨(ad2.add ((m + j) * 4)).block, (ad2.add ((m + j) * 4)).off + 3, none⟩ = some (.slice (NA2 (m + j)) a.names.length (NC2 (m + j)))) := by
              have h1 : tb < W.drew.heap.size := (HW.out.at_ 0 rfl).2
              have h2 : (ad2.add ((m + j) * 4)).block < W.drew.heap.size := by rw [addr_block]; have := HPA.out.le; have := HB.out.size; omega
              exact Lib.hid ⟨⟨(hb8.cell h1).trans r0, (hb8.cell (p := ⟨tb, 1, none⟩) h1).trans r1, (hb8.cell (p := ⟨tb, 2, none⟩) h1).trans r2, (hb8.cell (p := ⟨tb, 3, none⟩) h1).trans r3⟩, (hb8.cell h2).trans k0, (hb8.cell (p := ⟨(ad2.add ((m + j) * 4)).block, (ad2.add ((m + j) * 4)).off + 1, none⟩) h2).trans k1, (hb8.cell (p := ⟨(ad2.add ((m + j) * 4)).block, (ad2.add ((m + j) * 4)).off + 2, none⟩) h2).trans k2, (hb8.cell (p := ⟨(ad2.add ((m + j) * 4)).block, (ad2.add ((m + j) * 4)).off + 3, none⟩) h2).trans k3⟩
            clear hb8 r0 r1 r2 r3 k0 k1 k2 k3
            go_wp2
            refine holds HS.out ?_
            refine chain_end ?_; simp only [List.length_cons, List.length_nil, Nat.zero_add, Nat.reduceAdd, List.drop_succ_cons, List.drop_zero]; go_wp2; refine headed ?_; go_wp2_with fail
            go_roundw
            case rel => exact ⟨j + 1, by omega, by go_num, HB8⟩
            case measure => simp [intOf]; omega
      · obtain rfl : k = j := by omega
        go_wp2
        go_ret
        exact ⟨rfl, HFIN.out.trans (HQ.out.mono HFIN.out.size)⟩
  · obtain ⟨h1, hK2⟩ := hK.yes rfl
    have HK2 := Lib.hid hK2
    have ek : ((k : Int) != (q : Int)) = false := by simp [h1]
    clear hK hK2 h1
    go_wp2_with (first
      | (at_builtin; refine wpList_apDs rfl (.tmp 38) (.tmp 39) rfl w1.heap.size rfl (Own.empty _ _ _ _ (ddF (fun _ => Dz)) _ (by simp) (by simp)) rfl (HR.out.alloc (Nat.le_refl _) _) m (Nat.zero_add m) (by unfold maxLen; omega) (by omega) (by simp) ?_; intro A3 c3 w3 ho3 hg3 ha3
         have HL3 : Hid (Lay w1 w3 [dds A3 m c3 (appD (fun _ => Dz) 0 D)]) := (((Lay.nil w1).new #[] 28 4 0 (ddF (fun _ => Dz)) _ rfl rfl (by unfold maxLen; omega) (fun j hj => absurd hj (by omega))).app 0 rfl ho3 hg3 ha3)
         rw [appD_zero] at HL3
         clear ho3 hg3 ha3)
      | (at_builtin; refine wpList_apDs rfl (.tmp 40) (.tmp 41) rfl w1.heap.size rfl (HL3.out.own 0 _ rfl) rfl (HR2.out.below HL3.out.bel) (m + q) rfl (by unfold maxLen; omega) (by omega) HL3.out.size ?_; intro A5 c5 w5 ho5 hg5 ha5
         have HL5 := Lib.hid (HL3.out.app 0 rfl ho5 hg5 ha5)
         clear ho5 hg5 ha5 HL3)
      | fail)
    refine (play_law (m + q) c5 w5.heap.size A5 (appD D m E) w5 (by omega) (Nat.le_refl _) HD.out (HL5.out.rd 0 rfl)).mono ?_
    rintro e w6 ⟨AA, cA, NA2, NC2, rfl, hb, hPA, -⟩
    have HPA := Lib.hid hPA
    have hb16 := HL5.out.bel.trans (hb.mono HL5.out.size)
    have HPL : Hid (PlR w6 w1.heap.size AC k NA NC (fun t => ansS T0 (appD D m E) (m + t))) := Lib.hid (HP.out.to hb16)
    have HFIN : Hid (Below w.heap.size w w6) := Lib.hid (HB1.out.trans (hb16.mono HB1.out.size))
    have HQ0 : Hid (Below w6.heap.size w6 w6) := Lib.hid (Below.refl _ _)
    clear hb16 hb hPA HL5 HP HB1 HR HR2
    have e0 : (((m + q : Nat) : Int) != (m : Int) + (q : Int)) = false := by simp
    have eg : decide (q < k) = false := by simp; omega
    go_wp2
    go_loopw [90] (fun i wr => ∃ j : Nat, j ≤ k ∧ i = .int .i64 (j : Nat) ∧ Hid (Below w6.heap.size w6 wr)) (fun i _ => k - (intOf i).toNat)
    case atStart => exact ⟨0, by omega, rfl, HQ0⟩
    case round =>
      clear HQ0 e0
      obtain ⟨j, hj, rfl, HQ⟩ := hrel
      by_cases hlt : j < k
      · have HLEN : Hid ((ansS T0 (appD D m E) (m + j)).names.length ≤ 12) := Lib.hid (ansS_len fun i hi => HD.out i (by omega))
        obtain ⟨a, ha⟩ : ∃ a, ansS T0 (appD D m E) (m + j) = a := ⟨_, rfl⟩
        rw [ha] at HLEN
        have HA := Lib.hid ha
        clear ha
        have hc : (a.code != 0) = false := by rw [← HA.out]; simpa using HK2.out j hlt
        obtain ⟨ad, rfl, -, m0, m1, m2, m3⟩ := (HPL.out.to HQ.out).rec4 hlt
        rw [HA.out] at m0 m1 m2 m3
        go_upto_region 10 with (fail)
        refine at_world (F := fun W' => Code.wp _ _ _ _ W') (fun W => Lay wr W [blk wr.heap.size 31 4 (ofL (toldL (NA j) (NC j) a))] ∧ Below w6.heap.size w6 W) ⟨(Lay.nil wr).newB (toldL (NA j) (NC j) a) 31 4 rfl _ rfl, HQ.out.alloc HQ.out.size _⟩ ?_
        rintro W ⟨hL, hB⟩
        clear m0 m1 m2 m3
        have HB := Lib.hid hB.drew
        obtain ⟨ad2, rfl, hlt2, k0, k1, k2, k3⟩ := (HPA.out.to hB).rec4 (show m + j < m + q by omega)
        rw [HA.out] at k0 k1 k2 k3
        have HW := Lib.hid hL
        have r0 := HW.out.cellB 0 rfl 0 (by omega)
        have r1 := HW.out.cellB 0 rfl 1 (by omega)
        have r2 := HW.out.cellB 0 rfl 2 (by omega)
        have r3 := HW.out.cellB 0 rfl 3 (by omega)
        simp only [toldL, ofL_0, ofL_1, ofL_2, ofL_3] at r0 r1 r2 r3
        have HN1 := Lib.hid (((HPL.out.N j hlt).below ((hB.drew).mono HPL.out.le)).more (Nat.le_trans HPL.out.le hB.drew.size))
        have HN2 := Lib.hid (((HPA.out.N (m + j) (by omega)).below ((hB.drew).mono HPA.out.le)).more (Nat.le_trans HPA.out.le hB.drew.size))
        rw [HA.out] at HN1 HN2
        clear hB hL
        generalize wr.heap.size = tb at HW r0 r1 r2 r3 ⊢
        refine wp_phase (fun W => (W.cell? ⟨tb, 0, none⟩ = some (.int .i64 a.code) ∧ W.cell? ⟨tb, 1, none⟩ = some (.string (bs a.data)) ∧ W.cell? ⟨tb, 2, none⟩ = some (.int .i64 a.ver) ∧ W.cell? ⟨tb, 3, none⟩ = some (.slice (NA j) a.names.length (NC j))) ∧ W.cell? (ad2.add ((m + j) * 4)) = some (.int .i64 a.code) ∧ W.cell? ⟨(ad2.add ((m + j) * 4)).block, (ad2.add ((m + j) * 4)).off + 1, none⟩ = some (.string (bs a.data)) ∧
              W.cell? ⟨(ad2.add ((m + j) * 4)).block, (ad2.add ((m + j) * 4)).off + 2, none⟩ = some (.int .i64 a.ver) ∧ W.cell? ⟨(ad2.add ((m + j) * 4)).block, (ad2.add ((m + j) * 4)).off + 3, none⟩ = some (.slice (NA2 (m + j)) a.names.length (NC2 (m + j)))) [true, true, true, true, true, true, true, true, false] ?Az (by kernel_rfl) (by decide) (by kernel_rfl) (by repeat' (first | (with_reducible apply tame_then) | (with_reducible apply tame_block) | (with_reducible apply tame_scope) | exact tame_gives | exact tame_body (fun _ _ h => ⟨_, h.1⟩))) ⟨⟨r0, r1, r2, r3⟩, k0, k1, k2, k3⟩ ?hz ?tz
        case hz =>
          intro W5 ⟨⟨s0, s1, s2, s3⟩, s4, s5, s6, s7⟩
          simp only [pick]
          go_wp2
          exact taken
        case tz =>
          simp only [pick, List.map_cons, List.map_nil, Bool.not_true, Bool.not_false]; refine chain_step ?_
          go_wp2_with fail
          refine (telling_any (NC j) (NC2 (m + j)) W.drew.heap.size (NA j) (NA2 (m + j)) a W.drew (Nat.le_trans HLEN.out (by omega)) (Nat.le_refl _) HN1.out HN2.out).mono ?_
          rintro e w8 ⟨rfl, hb8⟩
          have d0 : w8.cell? ⟨tb, 0, none⟩ = some (.int .i64 a.code) := (hb8.cell (HW.out.at_ 0 rfl).2).trans r0
          have HB8 := Lib.hid (HB.out.trans (hb8.mono HB.out.size))
          have HS : Hid ((w8.cell? ⟨tb, 0, none⟩ = some (.int .i64 a.code) ∧ w8.cell? ⟨tb, 1, none⟩ = some (.string (bs a.data)) ∧ w8.cell? ⟨tb, 2, none⟩ = some (.int .i64 a.ver) ∧ w8.cell? ⟨tb, 3, none⟩ = some (.slice (NA j) a.names.length (NC j))) ∧ w8.cell? (ad2.add ((m + j) * 4)) = some (.int .i64 a.code) ∧ w8.cell? ⟨(ad2.add ((m + j) * 4)).block, (ad2.add ((m + j) * 4)).off + 1, none⟩ = some (.string (bs a.data)) ∧
              w8.cell? ⟨(ad2.add ((m + j) * 4)).block, (ad2.add ((m + j) * 4)).off + 2, none⟩ = some (.int .i64 a.ver) ∧ w8.cell? ⟨(ad2.add ((m + j) * 4)).block, (ad2.add ((m + j) * 4)).off + 3, none⟩ = some (.slice (NA2 (m + j)) a.names.length (NC2 (m + j)))) := by
            have h1 : tb < W.drew.heap.size := (HW.out.at_ 0 rfl).2
            have h2 : (ad2.add ((m + j) * 4)).block < W.drew.heap.size := by rw [addr_block]; have := HPA.out.le; have := HB.out.size; omega
            exact Lib.hid ⟨⟨(hb8.cell h1).trans r0, (hb8.cell (p := ⟨tb, 1, none⟩) h1).trans r1, (hb8.cell (p := ⟨tb, 2, none⟩) h1).trans r2, (hb8.cell (p := ⟨tb, 3, none⟩) h1).trans r3⟩, (hb8.cell h2).trans k0, (hb8.cell (p := ⟨(ad2.add ((m + j) * 4)).block, (ad2.add ((m + j) * 4)).off + 1, none⟩) h2).trans k1, (hb8.cell (p := ⟨(ad2.add ((m + j) * 4)).block, (ad2.add ((m + j) * 4)).off + 2, none⟩) h2).trans k2, (hb8.cell (p := ⟨(ad2.add ((m + j) * 4)).block, (ad2.add ((m + j) * 4)).off + 3, none⟩) h2).trans k3⟩
          clear hb8 r0 r1 r2 r3 k0 k1 k2 k3
          go_wp2
          refine holds HS.out ?_
          refine chain_end ?_; simp only [List.length_cons, List.length_nil, Nat.zero_add, Nat.reduceAdd, List.drop_succ_cons, List.drop_zero]; go_wp2; refine headed ?_; go_wp2_with fail
          go_roundw
          case rel => exact ⟨j + 1, by omega, by go_num, HB8⟩
          case measure => simp [intOf]; omega
      · obtain rfl : k = j := by omega
        go_wp2
        go_ret
        exact ⟨rfl, HFIN.out.trans (HQ.out.mono HFIN.out.size)⟩
theorem treeMany_all (A1 : Option Addr) (n1 cap1 : Nat) (D : Nat → Deed) (A2 : Option Addr) (n2 cap2 : Nat) (E : Nat → Deed) (w : World) (hb : n1 ≤ cap1 ∧ cap1 * 48 ≤ 140737488351232) (hD : ∀ i, i < n1 → DeedL (D i)) (hr : Rd w w.heap.size A1 (n1 * 4) (ddF D))
    (hb2 : n2 ≤ cap2 ∧ cap2 * 48 ≤ 140737488351232) (hE : ∀ i, i < n2 → DeedL (E i)) (hr2 : Rd w w.heap.size A2 (n2 * 4) (ddF E)) :
    Calls Tryd.prog 6 #[.slice A1 n1 cap1, .slice A2 n2 cap2] w fun e w' => e = .returned (.bool true) ∧ Below w.heap.size w w' := by
  rcases Nat.lt_or_ge 60 (n1 + n2) with h | h
  · exact treeMany_bad n1 n2 cap1 cap2 A1 A2 w (by omega) (by omega) h
  · exact treeMany_good n1 n2 cap1 cap2 A1 A2 D E w h hD hE hr hr2
end Go.Proofs.YtfkfljiinnlilaaDoor
