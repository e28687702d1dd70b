/- The walks of writes and order; the law TopSync, walked. -/
import Derived.Test.YtfdgjbanajodfaaDoorTopOpen
set_option linter.unusedVariables false
set_option linter.unusedSimpArgs false
namespace Go.Proofs.YtfdgjbanajodfaaDoor
open Go.RowKit

set_option maxRecDepth 100000 in
set_option maxHeartbeats 1600000 in
theorem writes_any (x : StepX) (w : World) : Calls Tryd.prog 23 #[stepV x] w fun e w' => e = .returned (.bool (wrB x)) ∧ Below w.heap.size w w' := by
  have HL := Lib.hid ((Lay.nil w).newB (cellsX x) 49 7 rfl _ rfl)
  obtain ⟨xk, xc, xs, dk, dp, dd, dv⟩ := x
  try dsimp only at *
  have HW0 : Hid (wrB ⟨xk, xc, xs, ⟨dk, dp, dd, dv⟩⟩ = (decide (xk = 1) && decide (0 ≤ xc ∧ xc < 6) && decide (1 ≤ dk ∧ dk ≤ 3))) := Lib.hid rfl
  go_enter Tryd.func23, Tryd.ntmps23
  go_upto_region 1 with (fail)
  refine at_lay (F := fun W' => Code.wp _ _ _ _ W') HL.out ?_
  intro W hW
  have x0 := hW.cellB 0 rfl 0 (by omega)
  have x1 := hW.cellB 0 rfl 1 (by omega)
  have x3 := hW.cellB 0 rfl 3 (by omega)
  simp only [ofL_0, ofL_1, ofL_3] at x0 x1 x3
  have HB := Lib.hid hW.bel
  clear hW HL
  generalize w.heap.size = t1 at x0 x1 x3 ⊢
  by_cases c0 : xk = 1
  · by_cases c1 : 0 ≤ xc
    · by_cases c2 : xc < 6
      · by_cases c3 : 1 ≤ dk
        · by_cases c4 : dk ≤ 3
          · have H : Hid (wrB ⟨xk, xc, xs, ⟨dk, dp, dd, dv⟩⟩ = true) := Lib.hid (by rw [HW0.out]; simp; omega)
            subst c0
            go_wp2
            refine bodyPost_ret (v := .bool true) (by simp [results, Tryd.results23, go_sem]) rfl ?_
            exact ⟨by rw [H.out], HB.out⟩
          · have H : Hid (wrB ⟨xk, xc, xs, ⟨dk, dp, dd, dv⟩⟩ = false) := Lib.hid (by rw [HW0.out, show decide (1 ≤ dk ∧ dk ≤ 3) = false by simp; omega, Bool.and_false])
            subst c0
            go_wp2
            refine bodyPost_ret (v := .bool false) (by simp [results, Tryd.results23, go_sem]) rfl ?_
            exact ⟨by rw [H.out], HB.out⟩
        · have H : Hid (wrB ⟨xk, xc, xs, ⟨dk, dp, dd, dv⟩⟩ = false) := Lib.hid (by rw [HW0.out, show decide (1 ≤ dk ∧ dk ≤ 3) = false by simp; omega, Bool.and_false])
          subst c0
          go_wp2
          refine bodyPost_ret (v := .bool false) (by simp [results, Tryd.results23, go_sem]) rfl ?_
          exact ⟨by rw [H.out], HB.out⟩
      · have H : Hid (wrB ⟨xk, xc, xs, ⟨dk, dp, dd, dv⟩⟩ = false) := Lib.hid (by rw [HW0.out, show decide (0 ≤ xc ∧ xc < 6) = false by simp; omega, Bool.and_false, Bool.false_and])
        subst c0
        go_wp2
        refine bodyPost_ret (v := .bool false) (by simp [results, Tryd.results23, go_sem]) rfl ?_
        exact ⟨by rw [H.out], HB.out⟩
    · have H : Hid (wrB ⟨xk, xc, xs, ⟨dk, dp, dd, dv⟩⟩ = false) := Lib.hid (by rw [HW0.out, show decide (0 ≤ xc ∧ xc < 6) = false by simp; omega, Bool.and_false, Bool.false_and])
      subst c0
      go_wp2
      refine bodyPost_ret (v := .bool false) (by simp [results, Tryd.results23, go_sem]) rfl ?_
      exact ⟨by rw [H.out], HB.out⟩
  · have H : Hid (wrB ⟨xk, xc, xs, ⟨dk, dp, dd, dv⟩⟩ = false) := Lib.hid (by rw [HW0.out, decide_eq_false c0, Bool.false_and, Bool.false_and])
    have b0 : (xk == 1) = false := by simpa using c0
    clear c0
    go_wp2
    refine bodyPost_ret (v := .bool false) (by simp [results, Tryd.results23, go_sem]) rfl ?_
    exact ⟨by rw [H.out], HB.out⟩
set_option maxRecDepth 100000 in
set_option maxHeartbeats 3200000 in
theorem order_any (m cap B : Nat) (A : Option Addr) (X : Nat → StepX) (w : World) (hm : m ≤ 60) (hB : B ≤ w.heap.size) (hr : Rd w B A (m * 7) (skF X)) :
    Calls Tryd.prog 17 #[.slice A m cap] w fun e w' => ∃ AL cL AB cB, e = .returned (.tuple #[.slice AL (cntW X m) cL, .slice AB (cntW X m) cB]) ∧ Below w.heap.size w w' := by
  have HR := Lib.hid hr; clear hr
  obtain ⟨iI, hiI, hzI0, hzI1, hzI2⟩ := info_parts infoInt1
  have hcl : ∀ j, cntW X j ≤ j := fun j => by
    induction j with
    | zero => exact Nat.le_refl _
    | succ j ih => show cntW X j + (wrB (X j)).toNat ≤ j + 1; have := Bool.toNat_le (wrB (X j)); omega
  have HCL := Lib.hid hcl
  clear hcl
  have HN := Lib.hid (((Lay.nil w).lnil 3 1 (fun _ => Value.int .i64 0)).lnil 30 4 (ddF (fun _ => Dz)))
  go_enter Tryd.func17, Tryd.ntmps17
  go_wp2
  go_loopw [4, 5, 10] (fun v4 v5 i wr => ∃ (j : Nat) (AL : Option Addr) (cL : Nat) (AB : Option Addr) (cB : Nat) (D : Nat → Deed) (fb : Nat → Nat), j ≤ m ∧ i = .int .i64 (j : Nat) ∧ v4 = .slice AL (cntW X j) cL ∧ v5 = .slice AB (cntW X j) cB ∧ Hid (Lay w wr [dds AL (cntW X j) cL D, lst AB 3 (cntW X j) cB (fun t => .int .i64 (fb t : Nat))])) (fun _ _ i _ => m - (intOf i).toNat)
  case atStart => exact ⟨0, none, 0, none, 0, _, fun _ => 0, by omega, rfl, rfl, rfl, HN⟩
  case round =>
    clear HN
    obtain ⟨j, AL, cL, AB, cB, D, fb, hj, rfl, rfl, rfl, HQ⟩ := hrel
    by_cases hlt : j < m
    · obtain ⟨ad, rfl, -, m0, m1, m2, m3, m4, m5, m6⟩ := (HR.out.below (HQ.out.bel.mono hB)).recX hlt
      go_upto_region 6 with (fail)
      refine at_lay (F := fun W' => Code.wp _ _ _ _ W') (HQ.out.newB (cellsX (X j)) 49 7 rfl _ rfl) ?_
      intro W hW
      have HW := Lib.hid hW
      clear hW HQ m0 m1 m2 m3 m4 m5 m6
      generalize wr.heap.size = t7 at HW ⊢
      have x0 := HW.out.cellB 0 rfl 0 (by omega)
      have x1 := HW.out.cellB 0 rfl 1 (by omega)
      have x2 := HW.out.cellB 0 rfl 2 (by omega)
      have x3 := HW.out.cellB 0 rfl 3 (by omega)
      have x4 := HW.out.cellB 0 rfl 4 (by omega)
      have x5 := HW.out.cellB 0 rfl 5 (by omega)
      have x6 := HW.out.cellB 0 rfl 6 (by omega)
      simp only [ofL_0, ofL_1, ofL_2, ofL_3, ofL_4, ofL_5, ofL_6] at x0 x1 x2 x3 x4 x5 x6
      have HC1 : Hid (cntW X (j + 1) = cntW X j + (wrB (X j)).toNat) := Lib.hid rfl
      obtain ⟨b, hb⟩ : ∃ b, wrB (X j) = b := ⟨_, rfl⟩
      rw [hb] at HC1
      have HBB := Lib.hid hb
      have hcj := HCL.out j
      obtain ⟨q, hq⟩ : ∃ q, cntW X j = q := ⟨_, rfl⟩
      rw [hq] at hcj HC1 HW ⊢
      clear hb hq
      go_upto_if 16 with (first
        | (go_at_call 23
           refine (writes_any (X j) W).mono ?_
           rintro e w8 ⟨rfl, hb8⟩
           rw [HBB.out]
           have H8 := Lib.hid (HW.out.keep hb8)
           clear hb8 x0 x1 x2 x3 x4 x5 x6 HW
           have x3 := H8.out.cellB 0 rfl 3 (by omega)
           have x4 := H8.out.cellB 0 rfl 4 (by omega)
           have x5 := H8.out.cellB 0 rfl 5 (by omega)
           have x6 := H8.out.cellB 0 rfl 6 (by omega)
           simp only [ofL_3, ofL_4, ofL_5, ofL_6] at x3 x4 x5 x6)
        | fail)
      cases b
      · go_wp2
        go_roundw
        case rel => exact ⟨j + 1, AL, cL, AB, cB, D, fb, by omega, by go_num, by rw [HC1.out]; rfl, by rw [HC1.out]; rfl, Lib.hid (by rw [HC1.out]; exact H8.out.tail)⟩
        case measure => simp [intOf]; omega
      · have HC2 : Hid (cntW X (j + 1) = q + 1) := Lib.hid HC1.out
        go_wp2_with (at_builtin; revert HR)
        intro HR
        refine wpList_apDs rfl (.tmp 17) (.tmp 20) rfl w.heap.size rfl ((H8.out.alloc _).own 1 _ rfl) rfl (new_deeds w8 [(X j).deed] _) (q + 1) rfl (by unfold maxLen; omega) (by omega) (H8.out.alloc _).size ?_
        intro A3 c3 w9 ho hg hh
        have H9 := Lib.hid ((H8.out.alloc _).app 1 rfl ho hg hh)
        clear ho hg hh H8 x3 x4 x5 x6
        have HF1 : Hid (∀ t, t < q → (fun t => Value.int .i64 ((kset fb q j t : Nat) : Int)) t = (fun t => Value.int .i64 (fb t : Nat)) t) := Lib.hid fun t ht => by
          show Value.int .i64 ((kset fb q j t : Nat) : Int) = _
          rw [kset_ne _ _ (by omega)]
        have HF2 : Hid (∀ t, t < 1 → (fun t => Value.int .i64 ((kset fb q j t : Nat) : Int)) (q + t) = (fun _ : Nat => Value.int .i64 (j : Nat)) t) := Lib.hid fun t ht => by
          obtain rfl : t = 0 := by omega
          show Value.int .i64 ((kset fb q j (q + 0) : Nat) : Int) = _
          rw [Nat.add_zero, kset_at]
        go_wp2_with (at_builtin; revert HR)
        intro HR
        refine wpList_ap1 rfl (.tmp 22) (.tmp 24) _ rfl 3 iI _ 8 Tryd.underlying50 hiI hzI0 hzI1 hzI2 rfl w.heap.size (n := q) rfl ((H9.out.alloc _).own 2 _ rfl) (B := w9.heap.size + 1) (m := 1) (g := fun _ => .int .i64 (j : Nat)) rfl ?hr (fun _ _ => rfl) (fun t => Value.int .i64 ((kset fb q j t : Nat) : Int)) HF1.out HF2.out (q + 1) rfl (by unfold maxLen; omega) (by omega) (H9.out.alloc _).size ?_
        case hr => exact cell_new w9 _ _ _ w9.heap.size rfl (one_cell _)
        intro A4 c4 w10 ho hg hh
        have H10 := Lib.hid ((H9.out.alloc _).app 2 rfl ho hg hh)
        clear ho hg hh H9 HF1 HF2
        go_wp2
        go_roundw
        case rel => exact ⟨j + 1, A3, c3, A4, c4, _, kset fb q j, by omega, by go_num, by rw [HC2.out], by rw [HC2.out], Lib.hid (by rw [HC2.out]; exact H10.out.tail)⟩
        case measure => simp [intOf]; omega
    · obtain rfl : m = j := by omega
      go_wp2
      refine bodyPost_ret (v := .tuple #[.slice AL (cntW X m) cL, .slice AB (cntW X m) cB]) (by simp [results, Tryd.results17, go_sem]) rfl ?_
      exact ⟨_, _, _, _, rfl, HQ.out.bel⟩
set_option maxRecDepth 100000 in
set_option maxHeartbeats 1600000 in
theorem topSync_bad (n : Int) (m cap : Nat) (A : Option Addr) (X : Nat → StepX) (c : Int) (w : World) (hb : m * 72 ≤ 140737488351232) (hbad : n < 1 ∨ 6 < n ∨ 60 < m + 1) (hr : Rd w w.heap.size A (m * 7) (skF X)) :
    Calls Tryd.prog 7 #[.int .i64 n, .slice A m cap, .int .i64 c] w fun e w' => e = .returned (.bool true) ∧ Below w.heap.size w w' := by
  have HR := Lib.hid hr; clear hr
  go_enter Tryd.func7, Tryd.ntmps7
  go_wp2_with (first
    | (at_builtin; refine wpList_apXs rfl (.tmp 12) (.tmp 13) rfl w.heap.size rfl (Own.empty _ _ _ _ (skF (fun _ => Sz)) _ (by simp) (by simp)) rfl (HR.out.alloc (Nat.le_refl _) _) m (Nat.zero_add m) (by unfold maxLen; omega) (by omega) (by simp) ?_; intro A3 c3 w3 ho3 hg3 ha3
       have HL3 : Hid (Lay w w3 [sts A3 m c3 (appX (fun _ => Sz) 0 X)]) := (((Lay.nil w).new #[] 49 7 0 (skF (fun _ => Sz)) _ rfl rfl (by unfold maxLen; omega) (fun j hj => absurd hj (by omega))).app 0 rfl ho3 hg3 ha3)
       rw [appX_zero] at HL3
       clear ho3 hg3 ha3)
    | (at_builtin; refine wpList_apXs rfl (.tmp 14) (.tmp 17) rfl w.heap.size rfl ((HL3.out.alloc _).own 0 _ rfl) rfl (new_steps w3 [⟨4, c, 0, Dz⟩] _) (m + 1) rfl (by unfold maxLen; omega) (by omega) (HL3.out.alloc _).size ?_; intro A5 c5 w5 ho5 hg5 ha5
       have HL5 := Lib.hid ((HL3.out.alloc _).app 0 rfl ho5 hg5 ha5)
       clear ho5 hg5 ha5 HL3)
    | fail)
  refine (kplay_bad n (m + 1) c5 A5 w5 (by unfold maxLen; omega) hbad).mono ?_
  rintro e w6 ⟨rfl, hb6⟩
  have HB6 := Lib.hid (HL5.out.bel.trans (hb6.mono HL5.out.size))
  have HC := Lib.hid (if_pos (show n < 1 ∨ 6 < n ∨ 60 < ((m + 1 : Nat) : Int) by omega) : (if n < 1 ∨ 6 < n ∨ 60 < ((m + 1 : Nat) : Int) then (1 : Int) else 0) = 1)
  have HCK := Lib.hid fun W => check_any n ((m + 1 : Nat) : Int) W
  rw [HC.out] at HCK
  clear hb6 HL5 HR
  go_wp2_with (go_at_call 15
               refine (HCK.out _).mono ?_
               rintro e w' ⟨rfl, hw'⟩
               subst w')
  go_ret
  exact ⟨rfl, HB6.out.alloc HB6.out.size _⟩
/-- What the law asks of a sync. -/
structure SyncLaw (n q : Nat) (c : Int) (a : Ans) (ap seen : Nat → Nat) : Prop where
  no : ¬ (0 ≤ c ∧ c < 6) → a.code = 2
  yes : 0 ≤ c ∧ c < 6 → a.code = 0 ∧ seen c.toNat = q ∧ hasB (fun t => ((ap t : Nat) : Int)) n q = true
theorem syncLaw {n k : Nat} {σ : KS} (h : KB n k σ) (c : Int) : SyncLaw n σ.q c (keepK n σ ⟨4, c, 0, Dz⟩).1 (keepK n σ ⟨4, c, 0, Dz⟩).2.ap (keepK n σ ⟨4, c, 0, Dz⟩).2.seen := by
  refine ⟨fun hc => ?_, fun hc => ?_⟩
  · rw [keep_noc (.inr (.inr rfl)) hc (fun h => absurd h (by decide))]; rfl
  · rw [keep_sync hc]
    refine ⟨rfl, kset_at _ _ _, hasB_iff.2 ⟨σ.at_ c.toNat, h.at_ _, ?_⟩⟩
    show ((σ.q : Nat) : Int) = ((kset σ.ap (σ.at_ c.toNat) σ.q (σ.at_ c.toNat) : Nat) : Int)
    rw [kset_at]
set_option maxRecDepth 100000 in
set_option maxHeartbeats 3200000 in
theorem topSync_good (n m cap : Nat) (A : Option Addr) (X : Nat → StepX) (c : Int) (w : World) (hn1 : 1 ≤ n) (hn : n ≤ 6) (hm : m + 1 ≤ 60) (hD : ∀ i, i < m → DeedL (X i).deed) (hr : Rd w w.heap.size A (m * 7) (skF X)) :
    Calls Tryd.prog 7 #[.int .i64 n, .slice A m cap, .int .i64 c] w fun e w' => e = .returned (.bool true) ∧ Below w.heap.size w w' := by
  have HR := Lib.hid hr
  have HD : Hid (∀ i, i < m + 1 → DeedL (appX X m (lsX [⟨4, c, 0, Dz⟩]) i).deed) := Lib.hid (appX_L (l := [⟨4, c, 0, Dz⟩]) hD fun x hx => by
    obtain rfl := List.mem_singleton.1 hx
    exact Dz_L)
  have hlaw := syncLaw (kst_ok hn1 X m hD) c
  rw [kst_q] at hlaw
  have HLAW := Lib.hid hlaw
  have HC := Lib.hid (if_neg (show ¬ ((n : Int) < 1 ∨ 6 < (n : Int) ∨ 60 < ((m + 1 : Nat) : Int)) by omega) : (if (n : Int) < 1 ∨ 6 < (n : Int) ∨ 60 < ((m + 1 : Nat) : Int) then (1 : Int) else 0) = 0)
  have HCK := Lib.hid fun W => check_any (n : Int) ((m + 1 : Nat) : Int) W
  rw [HC.out] at HCK
  have HOR := Lib.hid fun (W : World) (hb : Below w.heap.size w W) => order_any m cap w.heap.size A X W (by omega) hb.size (hr.below hb)
  have hcq : cntW X m ≤ 60 := by
    have : ∀ j, cntW X j ≤ j := fun j => by
      induction j with
      | zero => exact Nat.le_refl _
      | succ j ih => show cntW X j + (wrB (X j)).toNat ≤ j + 1; have := Bool.toNat_le (wrB (X j)); omega
    have := this m; omega
  clear hr hD HC hlaw
  go_enter Tryd.func7, Tryd.ntmps7
  go_wp2_with (first
    | (at_builtin; refine wpList_apXs rfl (.tmp 12) (.tmp 13) rfl w.heap.size rfl (Own.empty _ _ _ _ (skF (fun _ => Sz)) _ (by simp) (by simp)) rfl (HR.out.alloc (Nat.le_refl _) _) m (Nat.zero_add m) (by unfold maxLen; omega) (by omega) (by simp) ?_; intro A3 c3 w3 ho3 hg3 ha3
       have HL3 : Hid (Lay w w3 [sts A3 m c3 (appX (fun _ => Sz) 0 X)]) := (((Lay.nil w).new #[] 49 7 0 (skF (fun _ => Sz)) _ rfl rfl (by unfold maxLen; omega) (fun j hj => absurd hj (by omega))).app 0 rfl ho3 hg3 ha3)
       rw [appX_zero] at HL3
       clear ho3 hg3 ha3)
    | (at_builtin; refine wpList_apXs rfl (.tmp 14) (.tmp 17) rfl w.heap.size rfl ((HL3.out.alloc _).own 0 _ rfl) rfl (new_steps w3 [⟨4, c, 0, Dz⟩] _) (m + 1) rfl (by unfold maxLen; omega) (by omega) (HL3.out.alloc _).size ?_; intro A5 c5 w5 ho5 hg5 ha5
       have HL5 := Lib.hid ((HL3.out.alloc _).app 0 rfl ho5 hg5 ha5)
       clear ho5 hg5 ha5 HL3)
    | fail)
  refine (kplay_law n (m + 1) c5 w5.heap.size A5 (appX X m (lsX [⟨4, c, 0, Dz⟩])) w5 hn1 hn hm (Nat.le_refl _) HD.out (HL5.out.rd 0 rfl)).mono ?_
  rintro e w6 ⟨AC, cC, AP, cP, AS, cS, NA, NC, rfl, hb6, hK⟩
  have hb := HL5.out.bel.trans (hb6.mono HL5.out.size)
  have HB6 := Lib.hid hb
  have h1 : kans n (appX X m (lsX [⟨4, c, 0, Dz⟩])) m = (keepK n (kst n X m) ⟨4, c, 0, Dz⟩).1 := kans_app n X (lsX [⟨4, c, 0, Dz⟩]) m 0
  have h2 : kst n (appX X m (lsX [⟨4, c, 0, Dz⟩])) (m + 1) = (keepK n (kst n X m) ⟨4, c, 0, Dz⟩).2 := kst_app n X (lsX [⟨4, c, 0, Dz⟩]) m 1
  rw [← h1, ← h2] at HLAW
  clear h1 h2
  generalize (kst n (appX X m (lsX [⟨4, c, 0, Dz⟩])) (m + 1)).ap = ap at hK HLAW
  generalize (kst n (appX X m (lsX [⟨4, c, 0, Dz⟩])) (m + 1)).seen = seen at hK HLAW
  generalize kans n (appX X m (lsX [⟨4, c, 0, Dz⟩])) = a at hK HLAW
  generalize cntW X m = q at HLAW HOR hcq
  have HK := Lib.hid hK
  clear hb6 HL5 HR HD hb hK
  go_upto_region 3 with (fail)
  refine at_lay (F := fun W' => Code.wp _ _ _ _ W') ((Lay.nil w6).newB [.slice AC (m + 1) cC, .slice AP n cP, .slice AS 6 cS] 52 3 rfl _ rfl) ?_
  intro W hW
  have HW := Lib.hid hW
  have HBW := Lib.hid (HB6.out.trans (hW.bel.mono HB6.out.size))
  have HKW := Lib.hid (HK.out.to hW.bel)
  have hsz : w6.heap.size ≤ W.heap.size := hW.size
  clear hW HK HB6
  generalize hB : w6.heap.size = B at HW HKW hsz ⊢
  have r0 := HW.out.cellB 0 rfl 0 (by omega)
  have r1 := HW.out.cellB 0 rfl 1 (by omega)
  have r2 := HW.out.cellB 0 rfl 2 (by omega)
  simp only [ofL_0, ofL_1, ofL_2] at r0 r1 r2
  go_upto_region 7 with (first
    | (go_at_call 15
       refine (HCK.out _).mono ?_
       rintro e w' ⟨rfl, hw'⟩
       subst w')
    | (go_at_call 16
       refine (kept_any (m + 1) n cC cP cS B AC AP AS ap seen W hm hn hsz HKW.out.A HKW.out.S).mono ?_
       rintro e w8 ⟨rfl, hb8⟩
       have HB8 := Lib.hid (HBW.out.trans (hb8.mono HBW.out.size))
       have HK8 := Lib.hid (HKW.out.to hb8)
       have HW8 := Lib.hid (HW.out.keep hb8)
       clear hb8 r0 r1 r2 HW HKW)
    | fail)
  by_cases hc : 0 ≤ c ∧ c < 6
  · obtain ⟨l1, l2, l3⟩ := HLAW.out.yes hc
    obtain ⟨i, rfl⟩ := Int.eq_ofNat_of_zero_le hc.1
    have hi : i < 6 := by omega
    have l2 : seen i = q := l2
    have HH := Lib.hid l3
    have HL1 := Lib.hid l1
    have HL2 := Lib.hid l2
    clear HLAW l1 l2 l3
    have hn6 : n ≤ maxLen := by unfold maxLen; omega
    go_upto_region 10 with (first
      | (go_at_call 17
         refine (HOR.out _ HB8.out).mono ?_
         rintro e w9 ⟨AL, cL, AB, cB, rfl, hb9⟩
         have HB9 := Lib.hid (HB8.out.trans (hb9.mono HB8.out.size))
         have HK9 := Lib.hid (HK8.out.to hb9)
         have HW9 := Lib.hid (HW8.out.keep hb9)
         clear hb9 HB8 HK8 HW8)
      | fail)
    have r0 := HW9.out.cellB 0 rfl 0 (by omega)
    have r1 := HW9.out.cellB 0 rfl 1 (by omega)
    have r2 := HW9.out.cellB 0 rfl 2 (by omega)
    simp only [ofL_0, ofL_1, ofL_2] at r0 r1 r2
    obtain ⟨ad, rfl, -, k0, -, -, -⟩ := HK9.out.pl.rec4 (show m < m + 1 by omega)
    rw [HL1.out] at k0
    obtain ⟨aS, rfl, -, hs⟩ := HK9.out.S (by omega)
    have k1 : w9.cell? (aS.add i) = some (.int .i64 (q : Nat)) := (hs i hi).trans (congrArg (fun t : Nat => some (Value.int .i64 (t : Nat))) HL2.out)
    have e1 : ((q : Int) == (q : Int)) = true := by simp
    clear hs
    go_wp2_with (go_at_call 18
                 refine (has_is true AP n cP B (fun t => ((ap t : Nat) : Int)) q w9 hn6 HK9.out.A HH.out).mono ?_
                 rintro e w' ⟨rfl, hw'⟩
                 subst w')
    go_ret
    exact ⟨rfl, HB9.out⟩
  · have l1 := HLAW.out.no hc
    obtain ⟨ad, rfl, -, k0, -, -, -⟩ := HK8.out.pl.rec4 (show m < m + 1 by omega)
    rw [l1] at k0
    have r0 := HW8.out.cellB 0 rfl 0 (by omega)
    simp only [ofL_0] at r0
    clear HLAW l1
    by_cases h0 : c < 0
    · go_wp2
      go_ret
      exact ⟨rfl, HB8.out⟩
    · have h6 : 6 ≤ c := by omega
      go_wp2
      go_ret
      exact ⟨rfl, HB8.out⟩
theorem topSync_all (n : Int) (A : Option Addr) (m cap : Nat) (X : Nat → StepX) (c : Int) (w : World) (hb : m ≤ cap ∧ cap * 72 ≤ 140737488351232) (hD : ∀ i, i < m → DeedL (X i).deed) (hr : Rd w w.heap.size A (m * 7) (skF X)) :
    Calls Tryd.prog 7 #[.int .i64 n, .slice A m cap, .int .i64 c] w fun e w' => e = .returned (.bool true) ∧ Below w.heap.size w w' := by
  by_cases h : n < 1 ∨ 6 < n ∨ 60 < m + 1
  · exact topSync_bad n m cap A X c w (by omega) h hr
  · obtain ⟨k, rfl⟩ := Int.eq_ofNat_of_zero_le (show 0 ≤ n by omega)
    exact topSync_good k m cap A X c w (by omega) (by omega) (by omega) hD hr
end Go.Proofs.YtfdgjbanajodfaaDoor
