/- The law WatchTold, walked. -/
import Derived.Test.YtfdgjbanajodfaaDoorWaApp
import Derived.Test.YtfdgjbanajodfaaDoorWaTell
import Derived.Test.YtfdgjbanajodfaaDoorInside
set_option linter.unusedVariables false
set_option linter.unusedSimpArgs false
namespace Go.Proofs.YtfdgjbanajodfaaDoor
open Go.RowKit

set_option maxRecDepth 100000 in
set_option maxHeartbeats 800000 in
theorem watchTold_bad (m cap : Nat) (A : Option Addr) (w : World) (hm : m ≤ maxLen) (hb : 60 < m) :
    Calls Tryd.prog 5 #[.slice A m cap] w fun e w' => e = .returned (.bool true) ∧ Below w.heap.size w w' := by
  have HM := Lib.hid hm
  unfold maxLen at hm
  go_enter Tryd.func5, Tryd.ntmps5
  go_wp2_with (first
    | (go_at_call 9; refine (wplay_bad m cap A w HM.out hb).mono ?_; rintro e w1 ⟨rfl, hw1⟩; subst w1)
    | fail)
  go_ret
  exact ⟨rfl, Below.refl _ _⟩
theorem bare_row {w0 w : World} {L : List LRow} {AB : Option Addr} {cB k : Nat} {X : Nat → AskX} {y : AskX} (h : Lay w0 w (aks AB (k + 1) cB (appA (bareX X) k (lsA [y])) :: L)) (hy : y = bareX X k) : Lay w0 w (aks AB (k + 1) cB (bareX X) :: L) :=
  h.congr 0 (akF (bareX X)) rfl fun j hj => by
    show akF (appA (bareX X) k (lsA [y])) j = akF (bareX X) j
    have hj : j < (k + 1) * 6 := hj
    have e : appA (bareX X) k (lsA [y]) (j / 6) = bareX X (j / 6) := by
      by_cases h1 : j / 6 < k
      · exact appA_old _ _ _ h1
      · have e1 : j / 6 = k + 0 := by omega
        rw [e1, appA_new, Nat.add_zero, ← hy]
        rfl
    unfold akF
    rw [e]
theorem PlR.more {w : World} {B B' : Nat} {A : Option Addr} {n : Nat} {NA : Nat → Option Addr} {NC : Nat → Nat} {a : Nat → Ans} (h : PlR w B A n NA NC a) (hb : B ≤ B') (hl : B' ≤ w.heap.size) : PlR w B' A n NA NC a :=
  ⟨hl, h.T.more hb, fun t ht => (h.N t ht).more hb⟩
set_option maxRecDepth 100000 in
set_option maxHeartbeats 3200000 in
theorem watchTold_good (m cap : Nat) (A : Option Addr) (X : Nat → AskX) (w : World) (hm : m ≤ 60) (hD : ∀ i, i < m → DeedL (X i).deed) (hr : Rd w w.heap.size A (m * 6) (akF X)) :
    Calls Tryd.prog 5 #[.slice A m cap] w fun e w' => e = .returned (.bool true) ∧ Below w.heap.size w w' := by
  have HR := Lib.hid hr
  have HD := Lib.hid hD
  have HP := Lib.hid (wplay_law m cap w.heap.size A X w hm (Nat.le_refl _) hD hr)
  clear hr hD
  go_enter Tryd.func5, Tryd.ntmps5
  go_upto_region 4 with (first
    | (go_at_call 9; refine HP.out.mono ?_; rintro e W1 ⟨AC, cC, NA, NC, gn, MA, MC, rfl, hb1, hW1⟩; have HB1 := Lib.hid hb1; have HWP := Lib.hid hW1; clear hb1 hW1)
    | fail)
  clear HP
  have HR1 := Lib.hid (HR.out.below HB1.out)
  have HSZ := Lib.hid HB1.out.size
  clear HR
  have HL0 : Hid (Lay W1 W1 [aks none 0 0 (bareX X), dds none 0 0 (ownI X 0)]) := Lib.hid (((Lay.nil W1).lnil 30 4 (ddF (ownI X 0))).lnil 32 6 (akF (bareX X)))
  go_wp2
  go_loopw [6, 7, 33] (fun sb so i wr => ∃ (k : Nat) (AB : Option Addr) (cB : Nat) (AO : Option Addr) (cO : Nat), k ≤ m ∧ i = .int .i64 (k : Nat) ∧ sb = .slice AB k cB ∧ so = .slice AO (cntI X k) cO ∧ Hid (Lay W1 wr [aks AB k cB (bareX X), dds AO (cntI X k) cO (ownI X k)])) (fun _ _ i _ => m - (intOf i).toNat)
  case atStart => exact ⟨0, none, 0, none, 0, by omega, rfl, rfl, rfl, HL0⟩
  case round =>
    clear HL0
    obtain ⟨k, AB, cB, AO, cO, hk, rfl, rfl, rfl, HQ⟩ := hrel
    have hcl := cntI_le X k
    by_cases hlt : k < m
    · have HCN0 := Lib.hid (show cntI X (k + 1) = if 0 ≤ (X k).who ∧ (X k).who < 6 then cntI X k + 1 else cntI X k from rfl)
      have HON0 := Lib.hid (show ownI X (k + 1) = if 0 ≤ (X k).who ∧ (X k).who < 6 then appD (ownI X k) (cntI X k) (lsD [(X k).deed]) else ownI X k from rfl)
      obtain ⟨ad, rfl, hbl, m0, m1, m2, m3, m4, m5⟩ := (HR1.out.below (HQ.out.bel.mono HSZ.out)).recA hlt
      clear hbl
      obtain ⟨y, hy⟩ : ∃ y, X k = y := ⟨_, rfl⟩
      rw [hy] at m0 m1 m2 m3 m4 m5 HCN0 HON0
      obtain ⟨xw, xb, dk, p, xd, dv⟩ := y
      have HXK := Lib.hid hy
      clear hy
      dsimp only at m0 m1 m2 m3 m4 m5
      go_upto_region 9 with (fail)
      refine at_lay (F := fun W' => Code.wp _ _ _ _ W') (HQ.out.newB (cellsA ⟨xw, xb, dk, p, xd, dv⟩) 32 6 rfl _ rfl) ?_
      intro W hW
      have HW := Lib.hid hW
      clear hW HQ m0 m1 m2 m3 m4 m5
      generalize wr.heap.size = t9 at HW ⊢
      have y0 := HW.out.cellB 0 rfl 0 (by omega)
      simp only [cellsA, cellsD, List.cons_append, List.nil_append, ofL_0] at y0
      by_cases hx : 0 ≤ xw ∧ xw < 6
      · have HCN := Lib.hid (HCN0.out.trans (if_pos hx))
        have HON := Lib.hid (HON0.out.trans (if_pos hx))
        have hin : (decide (0 ≤ xw) && decide (xw < 6)) = true := by simp; omega
        have HIN := Lib.hid hin
        clear HCN0 HON0 hin hx
        go_upto_region 10 with (first
          | (go_at_call 10; refine (inside1 true 6 xw W 3 W.heap.size rfl HIN.out).mono ?_; rintro e w2 ⟨rfl, hw2⟩; subst w2)
          | fail)
        have H2 := Lib.hid (HW.out.alloc (.cells #[.int .i64 xw] 3))
        generalize W.alloc (.cells #[.int .i64 xw] 3) = W2 at H2 ⊢
        clear y0 HW HIN
        have x2 := H2.out.cellB 0 rfl 2 (by omega)
        have x3 := H2.out.cellB 0 rfl 3 (by omega)
        have x4 := H2.out.cellB 0 rfl 4 (by omega)
        have x5 := H2.out.cellB 0 rfl 5 (by omega)
        simp only [cellsA, cellsD, List.cons_append, List.nil_append, ofL_2, ofL_3, ofL_4, ofL_5] at x2 x3 x4 x5
        go_wp2_with (at_builtin; revert HXK)
        intro HXK
        refine wpList_apDs rfl (.tmp 41) (.tmp 44) rfl W1.heap.size rfl ((H2.out.alloc _).own 2 _ rfl) rfl (new_deeds W2 [⟨dk, p, xd, dv⟩] _) (cntI X k + 1) rfl (by unfold maxLen; omega) (by omega) (H2.out.alloc _).size ?_
        intro A3 c3 w3 ho3 hg3 ha3
        have H3 := Lib.hid ((H2.out.alloc _).app 2 rfl ho3 hg3 ha3)
        clear ho3 hg3 ha3 H2 x2 x3 x4 x5
        have x0 := H3.out.cellB 0 rfl 0 (by omega)
        have x2 := H3.out.cellB 0 rfl 2 (by omega)
        have x3 := H3.out.cellB 0 rfl 3 (by omega)
        have x4 := H3.out.cellB 0 rfl 4 (by omega)
        have x5 := H3.out.cellB 0 rfl 5 (by omega)
        have z1 := H3.out.frz 0 rfl (by omega) 1
        have x1 := H3.out.cellB 0 rfl 1 (by omega)
        simp only [cellsA, cellsD, List.cons_append, List.nil_append, ofL_0, ofL_1, ofL_2, ofL_3, ofL_4, ofL_5] at x0 x1 x2 x3 x4 x5
        go_upto_region 12 with (fail)
        have HF := Lib.hid (H3.out.fld 0 1 (.bool false) rfl (by omega) (by simp [cellsA]))
        refine at_lay (F := fun W' => Code.wp _ _ _ _ W') HF.out ?_
        intro W5 hW5
        have H5 := Lib.hid hW5
        clear hW5 HF H3 x0 x1 x2 x3 x4 x5 z1
        have x0 := H5.out.cellB 0 rfl 0 (by omega)
        have x1 := H5.out.cellB 0 rfl 1 (by omega)
        have x2 := H5.out.cellB 0 rfl 2 (by omega)
        have x3 := H5.out.cellB 0 rfl 3 (by omega)
        have x4 := H5.out.cellB 0 rfl 4 (by omega)
        have x5 := H5.out.cellB 0 rfl 5 (by omega)
        simp only [cellsA, cellsD, List.cons_append, List.nil_append, List.set_cons_zero, List.set_cons_succ, ofL_0, ofL_1, ofL_2, ofL_3, ofL_4, ofL_5] at x0 x1 x2 x3 x4 x5
        go_wp2_with (at_builtin; revert HXK)
        intro HXK
        refine wpList_apAs rfl (.tmp 47) (.tmp 49) rfl W1.heap.size rfl ((H5.out.alloc _).own 1 _ rfl) rfl (new_asks W5 [⟨xw, false, ⟨dk, p, xd, dv⟩⟩] _) (k + 1) rfl (by unfold maxLen; omega) (by omega) (H5.out.alloc _).size ?_
        intro A7 c7 w7 ho7 hg7 ha7
        have HL7 := Lib.hid ((H5.out.alloc _).app 1 rfl ho7 hg7 ha7)
        clear ho7 hg7 ha7 H5
        go_wp2
        go_roundw
        case rel => exact ⟨k + 1, A7, c7, A3, c3, by omega, by go_num, rfl, by rw [HCN.out], Lib.hid (by rw [HCN.out, HON.out]; exact bare_row HL7.out.tail (by show _ = (⟨(X k).who, false, (X k).deed⟩ : AskX); rw [HXK.out]))⟩
        case measure => simp [intOf]; omega
      · have HCN := Lib.hid (HCN0.out.trans (if_neg hx))
        have HON := Lib.hid (HON0.out.trans (if_neg hx))
        have hin : (decide (0 ≤ xw) && decide (xw < 6)) = false := by
          rw [Bool.eq_false_iff]; intro h; simp at h; exact hx h
        have HIN := Lib.hid hin
        clear HCN0 HON0 hin hx
        go_upto_region 11 with (first
          | (go_at_call 10; refine (inside1 false 6 xw W 3 W.heap.size rfl HIN.out).mono ?_; rintro e w2 ⟨rfl, hw2⟩; subst w2)
          | fail)
        have H2 := Lib.hid (HW.out.alloc (.cells #[.int .i64 xw] 3))
        generalize W.alloc (.cells #[.int .i64 xw] 3) = W2 at H2 ⊢
        clear y0 HW HIN
        have x0 := H2.out.cellB 0 rfl 0 (by omega)
        have x2 := H2.out.cellB 0 rfl 2 (by omega)
        have x3 := H2.out.cellB 0 rfl 3 (by omega)
        have x4 := H2.out.cellB 0 rfl 4 (by omega)
        have x5 := H2.out.cellB 0 rfl 5 (by omega)
        have z1 := H2.out.frz 0 rfl (by omega) 1
        have x1 := H2.out.cellB 0 rfl 1 (by omega)
        simp only [cellsA, cellsD, List.cons_append, List.nil_append, ofL_0, ofL_1, ofL_2, ofL_3, ofL_4, ofL_5] at x0 x1 x2 x3 x4 x5
        go_upto_region 12 with (fail)
        have HF := Lib.hid (H2.out.fld 0 1 (.bool false) rfl (by omega) (by simp [cellsA]))
        refine at_lay (F := fun W' => Code.wp _ _ _ _ W') HF.out ?_
        intro W5 hW5
        have H5 := Lib.hid hW5
        clear hW5 HF H2 x0 x1 x2 x3 x4 x5 z1
        have x0 := H5.out.cellB 0 rfl 0 (by omega)
        have x1 := H5.out.cellB 0 rfl 1 (by omega)
        have x2 := H5.out.cellB 0 rfl 2 (by omega)
        have x3 := H5.out.cellB 0 rfl 3 (by omega)
        have x4 := H5.out.cellB 0 rfl 4 (by omega)
        have x5 := H5.out.cellB 0 rfl 5 (by omega)
        simp only [cellsA, cellsD, List.cons_append, List.nil_append, List.set_cons_zero, List.set_cons_succ, ofL_0, ofL_1, ofL_2, ofL_3, ofL_4, ofL_5] at x0 x1 x2 x3 x4 x5
        go_wp2_with (at_builtin; revert HXK)
        intro HXK
        refine wpList_apAs rfl (.tmp 47) (.tmp 49) rfl W1.heap.size rfl ((H5.out.alloc _).own 1 _ rfl) rfl (new_asks W5 [⟨xw, false, ⟨dk, p, xd, dv⟩⟩] _) (k + 1) rfl (by unfold maxLen; omega) (by omega) (H5.out.alloc _).size ?_
        intro A7 c7 w7 ho7 hg7 ha7
        have HL7 := Lib.hid ((H5.out.alloc _).app 1 rfl ho7 hg7 ha7)
        clear ho7 hg7 ha7 H5
        go_wp2
        go_roundw
        case rel => exact ⟨k + 1, A7, c7, AO, cO, by omega, by go_num, rfl, by rw [HCN.out], Lib.hid (by rw [HCN.out, HON.out]; exact bare_row HL7.out.tail (by show _ = (⟨(X k).who, false, (X k).deed⟩ : AskX); rw [HXK.out]))⟩
        case measure => simp [intOf]; omega
    · obtain rfl : m = k := by omega
      obtain ⟨w6, rfl⟩ : ∃ w6, w6 = wr := ⟨_, rfl⟩
      have HDB : Hid (∀ i, i < m → DeedL (bareX X i).deed) := Lib.hid fun i hi => HD.out i hi
      have HDO := Lib.hid (ownI_L X m HD.out m (Nat.le_refl _))
      have HNL : Hid (∀ t, t < m → (wans X t).names.length ≤ 12) := Lib.hid fun t ht => wans_len X t fun i hi => HD.out i (by omega)
      go_upto_region 16 with (first
        | (go_at_call 9
           refine (wplay_law m cB w6.heap.size AB (bareX X) w6 hm (Nat.le_refl _) HDB.out (HQ.out.rd 0 rfl)).mono ?_
           rintro e w7 ⟨AD, cD, ND, NCD, gb, MB, MCB, rfl, hb7, hP7⟩
           rw [show wans (bareX X) = wans X from funext (bare_ans X), bare_st X m] at hP7
           have HP7 := Lib.hid hP7
           have HB7 := Lib.hid hb7
           clear hb7 hP7)
        | (go_at_call 11
           refine (play_law (cntI X m) cO w7.heap.size AO (ownI X m) w7 (by omega) (Nat.le_refl _) HDO.out (((HQ.out.rd 1 rfl).below HB7.out).more HB7.out.size)).mono ?_
           rintro e w8 ⟨AT, cT, NT, NCT, rfl, hb8, hP8, -⟩
           have HP8 := Lib.hid hP8
           have HB8 := Lib.hid hb8
           clear hb8 hP8)
        | fail)
      have HB18 : Hid (Below W1.heap.size W1 w8) := Lib.hid ((HQ.out.bel.trans (HB7.out.mono HQ.out.size)).trans (HB8.out.mono (Nat.le_trans HQ.out.size HB7.out.size)))
      have HPA := Lib.hid (((HWP.out.to HB18.out).pl).more (B' := w8.heap.size) HB18.out.size (Nat.le_refl _))
      have HPD := Lib.hid (HP7.out.to HB8.out)
      have HPD2 := Lib.hid (HPD.out.pl.more (B' := w8.heap.size) HB8.out.size (Nat.le_refl _))
      clear HWP HP7 HB8 HB7 HQ HDB HDO
      have e0 : ((m : Int) != (m : Int)) = false := by simp
      have e1 : ((cntI X m : Int) != (cntI X m : Int)) = false := by simp
      go_upto_region 18 with (first
        | (go_at_call 12
           refine (tellings_any m cC cD w8.heap.size AC AD NA ND NC NCD (wans X) w8 hm HPA.out HPD2.out HNL.out).mono ?_
           rintro e w9 ⟨rfl, hb9⟩
           have HB9 := Lib.hid hb9
           clear hb9)
        | fail)
      have HBW : Hid (Below W1.heap.size W1 w9) := Lib.hid (HB18.out.trans (HB9.out.mono HB18.out.size))
      have HA9 := Lib.hid (HPA.out.to HB9.out)
      have HD9 := Lib.hid (HPD.out.to HB9.out)
      have HT9 := Lib.hid (HP8.out.to HB9.out)
      clear HPA HPD HPD2 HP8 HB9 HB18 e0 e1
      go_wp2
      go_loopw [105] (fun i wr => ∃ k : Nat, k ≤ 6 ∧ i = .int .i64 (k : Nat) ∧ wr = w9) (fun i _ => 6 - (intOf i).toNat)
      case atStart => exact ⟨0, by omega, rfl, rfl⟩
      case round =>
        obtain ⟨k, hk, rfl, hwr⟩ := hrel
        subst wr
        by_cases hlt : k < 6
        · have g0 : w9.cell? ⟨gb, k, none⟩ = some (.slice (MB k) 0 (MCB k)) := (HD9.out.at_ hlt).2
          go_wp2
          go_roundw
          case rel => exact ⟨k + 1, by omega, by go_num, trivial⟩
          case measure => simp [intOf]; omega
        · obtain ⟨k6, rfl⟩ : ∃ k6, k6 = k := ⟨_, rfl⟩
          go_wp2
          go_loopw [17, 115] (fun s i wr => ∃ k : Nat, k ≤ m ∧ i = .int .i64 (k : Nat) ∧ s = .int .i64 (cntI X k : Nat) ∧ Hid (Below w9.heap.size w9 wr)) (fun _ i _ => m - (intOf i).toNat)
          case atStart => exact ⟨0, by omega, rfl, rfl, Lib.hid (Below.refl _ _)⟩
          case round =>
            obtain ⟨k, hk, rfl, rfl, HQ⟩ := hrel
            have hcl := cntI_le X k
            by_cases hlt : k < m
            · have HCN0 := Lib.hid (show cntI X (k + 1) = if 0 ≤ (X k).who ∧ (X k).who < 6 then cntI X k + 1 else cntI X k from rfl)
              have HOA := Lib.hid (fun hx => own_ans X (j := k) (m := m) hlt hx)
              have HN12 := Lib.hid (HNL.out k hlt)
              obtain ⟨ad, rfl, hbl, m0, m1, m2, m3, m4, m5⟩ := (HR1.out.below ((HBW.out.trans (HQ.out.mono HBW.out.size)).mono HSZ.out)).recA hlt
              clear hbl
              go_upto_region 28 with (fail)
              refine at_lay (F := fun W' => Code.wp _ _ _ _ W') ((Lay.nil wr).newB (cellsA (X k)) 32 6 rfl _ rfl) ?_
              intro W hW
              have HBX : Hid (Below w9.heap.size w9 W) := Lib.hid (HQ.out.trans (hW.bel.mono HQ.out.size))
              clear m0 m1 m2 m3 m4 m5 HQ
              generalize wr.heap.size = t19 at hW ⊢
              have x0 := hW.cellB 0 rfl 0 (by omega)
              simp only [cellsA, cellsD, List.cons_append, List.nil_append, ofL_0] at x0
              clear hW
              generalize (X k).who = xw at HCN0 HOA x0
              by_cases hx : 0 ≤ xw ∧ xw < 6
              · have HCN := Lib.hid (HCN0.out.trans (if_pos hx))
                obtain ⟨hoc, hoa⟩ := HOA.out hx
                have HOE := Lib.hid hoa
                have hin : (decide (0 ≤ xw) && decide (xw < 6)) = true := by simp; omega
                have HIN := Lib.hid hin
                clear HCN0 HOA hin hx hoa
                go_upto_region 29 with (first
                  | (go_at_call 10; refine (inside1 true 6 xw W 3 W.heap.size rfl HIN.out).mono ?_; rintro e w2 ⟨rfl, hw2⟩; subst w2)
                  | fail)
                have HB2 : Hid (Below w9.heap.size w9 (W.alloc (.cells #[.int .i64 xw] 3))) := Lib.hid (HBX.out.alloc HBX.out.size _)
                generalize W.alloc (.cells #[.int .i64 xw] 3) = W2 at HB2 ⊢
                clear x0 HBX HIN
                obtain ⟨ad1, rfl, -, a0, a1, a2, a3⟩ := (HA9.out.to HB2.out).rec4 hlt
                obtain ⟨ad2, rfl, -, b0, b1, b2, b3⟩ := (HT9.out.to HB2.out).rec4 hoc
                have HQD : Hid (Below w9.heap.size w9 W2.drew) := Lib.hid (below_sim HB2.out ⟨rfl, rfl, rfl, rfl⟩)
                have T1 := Lib.hid ((HA9.out.to HQD.out).N k hlt)
                have T2 := Lib.hid ((HT9.out.to HQD.out).N (cntI X k) hoc)
                have TB := Lib.hid (HA9.out.to HQD.out).le
                have HOE2 := HOE.out
                rw [HOE2] at b0 b1 b2 b3 T2
                clear HOE2 HOE
                generalize wans X k = x at a0 a1 a2 a3 b0 b1 b2 b3 T1 T2 HN12
                have TL := Lib.hid (Nat.le_trans HN12.out (show 12 ≤ 1000 by omega))
                go_wp2
                refine wp_text 8 (by kernel_rfl) (by kernel_rfl) (by kernel_rfl) (by repeat' (first | (with_reducible apply tame_then) | (with_reducible apply tame_block) | (with_reducible apply tame_scope) | exact tame_gives | exact tame_body (fun _ _ h => ⟨_, h.1⟩))) ?_
                simp only [List.take_succ_cons, List.take_zero, List.drop_succ_cons, List.drop_zero]
                go_wp2
                refine headed ?_
                go_wp2_with fail
                refine (telling_any (NC k) (NCT (cntI X k)) w8.heap.size (NA k) (NT (cntI X k)) x W2.drew TL.out TB.out T1.out T2.out).mono ?_
                rintro e w3 ⟨rfl, hb3⟩
                have HB3 := Lib.hid (HQD.out.trans (hb3.mono HQD.out.size))
                clear hb3
                go_wp2
                go_roundw
                case rel => exact ⟨k + 1, by omega, by go_num, by rw [HCN.out]; go_num, HB3⟩
                case measure => simp [intOf]; omega
              · have HCN := Lib.hid (HCN0.out.trans (if_neg hx))
                have hin : (decide (0 ≤ xw) && decide (xw < 6)) = false := by
                  rw [Bool.eq_false_iff]; intro h; simp at h; exact hx h
                have HIN := Lib.hid hin
                clear HCN0 HOA hin hx
                go_wp2_with (first
                  | (go_at_call 10; refine (inside1 false 6 xw W 3 W.heap.size rfl HIN.out).mono ?_; rintro e w2 ⟨rfl, hw2⟩; subst w2)
                  | fail)
                go_roundw
                case rel => exact ⟨k + 1, by omega, by go_num, by rw [HCN.out], Lib.hid (HBX.out.alloc HBX.out.size _)⟩
                case measure => simp [intOf]; omega
            · obtain rfl : m = k := by omega
              go_wp2
              go_ret
              exact ⟨rfl, HB1.out.trans ((HBW.out.trans (HQ.out.mono HBW.out.size)).mono HSZ.out)⟩
theorem watchTold_all (A : Option Addr) (m cap : Nat) (X : Nat → AskX) (w : World) (hm : m ≤ cap ∧ cap * 64 ≤ 140737488351232) (hD : ∀ i, i < m → DeedL (X i).deed) (hr : Rd w w.heap.size A (m * 6) (akF X)) :
    Calls Tryd.prog 5 #[.slice A m cap] w fun e w' => e = .returned (.bool true) ∧ Below w.heap.size w w' := by
  by_cases h : m ≤ 60
  · exact watchTold_good m cap A X w h hD hr
  · exact watchTold_bad m cap A w (by unfold maxLen; omega) (by omega)
end Go.Proofs.YtfdgjbanajodfaaDoor
