/- The law MergeRise: plain, and walked. -/
import Derived.Test.YtdgegbdkimdpjaaMergeWins
set_option linter.unusedVariables false
set_option linter.unusedSimpArgs false
namespace Go.Proofs.Ytdgegbdkimdpjaa
open Go.RowKit Go.Maps Go.MapKept

theorem join_self (s : MeS) (i : Nat) : meJoin s i i = s := by
  have h1 : (upd (upd s.st (2 * i) (fun q => s.st (2 * i) q || s.st (2 * i) q)) (2 * i + 1) (fun q => s.st (2 * i + 1) q || s.st (2 * i + 1) q)) = s.st := by
    simp only [Bool.or_self]
    have e1 : upd s.st (2 * i) (s.st (2 * i)) = s.st := upd_self _ _
    show upd (upd s.st (2 * i) (s.st (2 * i))) (2 * i + 1) (s.st (2 * i + 1)) = s.st
    rw [e1]; exact upd_self _ _
  have h2 : (upd (upd s.ct (2 * i) (fun k => max (s.ct (2 * i) k) (s.ct (2 * i) k))) (2 * i + 1) (fun k => max (s.ct (2 * i + 1) k) (s.ct (2 * i + 1) k))) = s.ct := by
    simp only [Nat.max_self]
    have e1 : upd s.ct (2 * i) (s.ct (2 * i)) = s.ct := upd_self _ _
    show upd (upd s.ct (2 * i) (s.ct (2 * i))) (2 * i + 1) (s.ct (2 * i + 1)) = s.ct
    rw [e1]; exact upd_self _ _
  unfold meJoin
  rw [h1, h2]
theorem inL_lt (s : MeS) (a k : Nat) (h : k + 1 < (inL s a).length) : (inL s a).getD k 0 < (inL s a).getD (k + 1) 0 := by
  have hp : (inL s a).Pairwise (· < ·) := List.pairwise_lt_range.sublist List.filter_sublist
  have := List.pairwise_iff_getElem.1 hp k (k + 1) (by omega) h (by omega)
  rw [List.getD_eq_getElem?_getD, List.getElem?_eq_getElem (by omega), List.getD_eq_getElem?_getD, List.getElem?_eq_getElem h]
  exact this
theorem inL_le (s : MeS) (a k : Nat) (h : k < (inL s a).length) : (inL s a).getD k 0 ≤ 8 := by
  rw [List.getD_eq_getElem?_getD, List.getElem?_eq_getElem h]
  have := List.mem_range.1 (List.mem_filter.1 (List.getElem_mem h)).1
  show (inL s a)[k] ≤ 8
  have h2 : (inL s a)[k] < 9 := this
  omega
set_option maxHeartbeats 800000 in
theorem mergeRise_bad (n i : Int) (A : Option Addr) (m cap : Nat) (w : World) (hm : m ≤ maxLen) (hn : n < 1 ∨ 6 < n ∨ 60 < m) :
    Calls Try.prog 6 #[.int .i64 n, .slice A m cap, .int .i64 i] w fun e w' => e = .returned (.bool true) ∧ Below w.heap.size w w' := by
  have HP : Hid (playedB n (m : Nat) = false) := Lib.hid (by
    cases h : playedB n (m : Nat)
    · rfl
    · have := playedB_iff.1 h; omega)
  have HM := Lib.hid hm
  have HN := Lib.hid hn
  unfold maxLen at hm
  clear hn
  go_enter Try.func6, Try.ntmps6
  go_wp2_with fail
  refine (play_bad n m cap A w HM.out HN.out).mono ?_
  rintro e w6 ⟨rfl, hb6⟩
  have HB6 := Lib.hid hb6; clear hb6
  go_wp2_with fail
  refine (bool_is (played_any n m _) HP.out).mono ?_
  rintro e w7 ⟨rfl, rfl⟩
  go_wp2
  go_ret
  exact ⟨rfl, HB6.out.alloc HB6.out.size _⟩
set_option maxRecDepth 100000 in
set_option maxHeartbeats 3200000 in
theorem mergeRise_good (n : Nat) (i : Int) (A : Option Addr) (m cap : Nat) (M : Mv) (w : World) (hr : Rd w w.heap.size A (m * 4) (mvF M)) (hm : m ≤ 60) (hn1 : 1 ≤ n) (hn : n ≤ 6) :
    Calls Try.prog 6 #[.int .i64 n, .slice A m cap, .int .i64 i] w fun e w' => e = .returned (.bool true) ∧ Below w.heap.size w w' := by
  have HR := Lib.hid hr; clear hr
  have HP : Hid (playedB n (m : Nat) = true) := Lib.hid (playedB_iff.2 (by omega))
  go_enter Try.func6, Try.ntmps6
  go_wp2_with fail
  refine (play_good n m cap w.heap.size A M w hn1 hn hm (Nat.le_refl _) HR.out).mono ?_
  rintro e w6 ⟨v6, rfl, hb6, AC, AI, AN, cC, cI, cN, gI, rfl, rC, rI, rN, hI⟩
  have HB6 := Lib.hid hb6
  have HI := Lib.hid hI
  have HRI := Lib.hid rI
  have HRN := Lib.hid rN
  clear hI rI rN rC hb6
  generalize hS : meSt n M m = S at HI HRN
  have HSS := Lib.hid hS
  clear hS
  go_wp2_with fail
  refine (bool_is (played_any n m _) HP.out).mono ?_
  rintro e w7 ⟨rfl, rfl⟩
  go_wp2_with fail
  refine (merged_true AC AI AN m n cC cI cN (w6.alloc (.cells #[.slice AC m cC, .slice AI n cI, .slice AN n cN] 28)) (by omega) hn).mono ?_
  rintro e w8 ⟨rfl, hb8⟩
  have HBB : Hid (Below w6.heap.size w6 w8) := Lib.hid (((Below.refl w6.heap.size w6).alloc (Nat.le_refl _) _).trans (hb8.mono (by simp)))
  have HB8 : Hid (Below w.heap.size w w8) := Lib.hid (HB6.out.trans (HBB.out.mono HB6.out.size))
  have o1 : w8.cell? ⟨w6.heap.size, 1, none⟩ = some (.slice AI n cI) := (hb8.cell (by simp)).trans (by rw [World.cell?_alloc_new]; rfl)
  have o2 : w8.cell? ⟨w6.heap.size, 2, none⟩ = some (.slice AN n cN) := (hb8.cell (by simp)).trans (by rw [World.cell?_alloc_new]; rfl)
  have hsz : w6.heap.size < w8.heap.size := by have := hb8.size; simp at this; omega
  clear hb8
  have HI8 : Hid (∀ a, a < n → ∃ X c, gI a = .slice X (inL S a).length c ∧ Rd w8 w6.heap.size X (inL S a).length (fun j => .int .i64 (((inL S a).getD j 0 : Nat) : Int))) := Lib.hid fun a ha => by
    obtain ⟨X, c, e1, e2⟩ := HI.out a ha
    exact ⟨X, c, e1, e2.below HBB.out⟩
  have HRI8 := Lib.hid (HRI.out.below HBB.out)
  have HRN8 := Lib.hid (HRN.out.below HBB.out)
  clear HI HRI HRN HBB HB6
  generalize w6.heap.size = q6 at o1 o2 hsz HI8 HRI8 HRN8 ⊢
  go_wp2
  go_loop [40] (fun v => ∃ a : Nat, a ≤ n ∧ v = .int .i64 a) (fun v => n - (intOf v).toNat)
  case atStart => exact ⟨0, by omega, rfl⟩
  case round =>
    obtain ⟨a, ha, rfl⟩ := hrel
    by_cases hlt : a < n
    · obtain ⟨X, c, e1, r1⟩ := HI8.out a hlt
      obtain ⟨adI, rfl, hbI, cellI⟩ := HRI8.out (by omega)
      have y1 : w8.cell? (adI.add a) = some (.slice X (inL S a).length c) := by rw [← e1]; exact cellI a hlt
      have HR1 := Lib.hid r1
      have HLT := Lib.hid (inL_lt S a)
      have HLE := Lib.hid (inL_le S a)
      have hl9 := inL_len S a
      generalize hL : inL S a = L at y1 HR1 HLT HLE hl9
      generalize hk : L.length = k at y1 HR1 HLT HLE hl9
      clear hL hk r1 cellI e1
      go_wp2
      go_loop [46] (fun v => ∃ q : Nat, q ≤ k ∧ v = .int .i64 q) (fun v => k - (intOf v).toNat)
      case atStart => exact ⟨0, by omega, rfl⟩
      case round =>
        obtain ⟨q, hq, rfl⟩ := hrel
        by_cases hqk : q < k
        · obtain ⟨ad, rfl, _, hc⟩ := HR1.out (by omega)
          have x1 : w8.cell? (ad.add q) = some (.int .i64 ((L.getD q 0 : Nat) : Int)) := hc q hqk
          have h8 := HLE.out q hqk
          rcases Nat.eq_zero_or_pos q with h0 | h0
          · subst h0
            have x0 : w8.cell? ad = some (.int .i64 ((L.getD 0 0 : Nat) : Int)) := by simpa [Addr.add] using x1
            clear hc
            generalize L.getD 0 0 = x at x0 x1 h8
            go_wp2
            go_round
            case rel => exact ⟨1, by omega, by go_num⟩
            case measure => simp [intOf]; omega
          · have x2 : w8.cell? (ad.add (q - 1)) = some (.int .i64 ((L.getD (q - 1) 0 : Nat) : Int)) := hc (q - 1) (by omega)
            have x3 : w8.cell? (ad.add ((q : Int) - 1).toNat) = some (.int .i64 ((L.getD (q - 1) 0 : Nat) : Int)) := by rw [show ((q : Int) - 1).toNat = q - 1 by omega]; exact x2
            have hq1 : ((q : Int) - 1) = ((q - 1 : Nat) : Int) := by omega
            have hltx := HLT.out (q - 1) (by omega)
            rw [show q - 1 + 1 = q by omega] at hltx
            clear hc
            generalize L.getD q 0 = x at x1 h8 hltx
            generalize L.getD (q - 1) 0 = y at x2 x3 hltx
            go_wp2
            go_round
            case rel => exact ⟨q + 1, by omega, by go_num⟩
            case measure => simp [intOf]; omega
        · obtain rfl : q = k := by omega
          go_wp2
          go_round
          case rel => exact ⟨a + 1, by omega, by go_num⟩
          case measure => simp [intOf]; omega
    · obtain rfl : a = n := by omega
      skip
      by_cases hm60 : m = 60
      · have hmb : ((m : Int) == 60) = true := by rw [beq_iff_eq]; omega
        clear hm60
        go_wp2
        go_ret
        exact ⟨rfl, HB8.out⟩
      · have hmb : ((m : Int) == 60) = false := by rw [beq_eq_false_iff_ne]; omega
        by_cases hin : 0 ≤ i ∧ i < a
        · have hib : (decide (0 ≤ i) && decide (i < (a : Int))) = true := by simp; omega
          obtain ⟨ii, rfl⟩ := Int.eq_ofNat_of_zero_le hin.1
          have HIN : Hid (ii < a) := Lib.hid (by omega)
          clear hin
          go_wp2_with fail
          refine (inside1 true a ii w8 3 w8.heap.size rfl hib).mono ?_
          rintro e w9 ⟨rfl, rfl⟩
          have HBX : Hid (Below w8.heap.size w8 (w8.alloc (.cells #[.int .i64 (ii : Nat)] 3))) := Lib.hid ((Below.refl _ _).alloc (Nat.le_refl _) _)
          have p1 : (w8.alloc (.cells #[.int .i64 (ii : Nat)] 3)).cell? ⟨q6, 1, none⟩ = some (.slice AI a cI) := (HBX.out.cell hsz).trans o1
          have p2 : (w8.alloc (.cells #[.int .i64 (ii : Nat)] 3)).cell? ⟨q6, 2, none⟩ = some (.slice AN a cN) := (HBX.out.cell hsz).trans o2
          have hsz9 : q6 < (w8.alloc (.cells #[.int .i64 (ii : Nat)] 3)).heap.size := Nat.lt_of_lt_of_le hsz HBX.out.size
          have HB9 : Hid (Below w.heap.size w (w8.alloc (.cells #[.int .i64 (ii : Nat)] 3))) := Lib.hid (HB8.out.alloc HB8.out.size _)
          have hq6 : q6 ≤ w8.heap.size := Nat.le_of_lt hsz
          have HI9 : Hid (∀ b, b < a → ∃ X c, gI b = .slice X (inL S b).length c ∧ Rd (w8.alloc (.cells #[.int .i64 (ii : Nat)] 3)) q6 X (inL S b).length (fun j => .int .i64 (((inL S b).getD j 0 : Nat) : Int))) := Lib.hid fun b hb => by
            obtain ⟨X, c, e1, e2⟩ := HI8.out b hb
            exact ⟨X, c, e1, e2.below (HBX.out.mono hq6)⟩
          have HRI9 := Lib.hid (HRI8.out.below (HBX.out.mono hq6))
          have HRN9 := Lib.hid (HRN8.out.below (HBX.out.mono hq6))
          clear HI8 HRI8 HRN8 o1 o2 hsz HB8 hq6 HBX
          generalize (w8.alloc (.cells #[.int .i64 (ii : Nat)] 3)) = w9 at p1 p2 hsz9 HB9 HI9 HRI9 HRN9 ⊢
          have HR9 := Lib.hid (HR.out.below HB9.out)
          have hw9 := HB9.out.size
          have HL0 : Hid (Lay w9 (w9.alloc (.cells #[] 37)) [mvs (some ⟨w9.heap.size, 0, none⟩) 0 0 Z0]) := Lib.hid ((Lay.nil w9).new #[] 37 4 0 (mvF Z0) _ rfl rfl (by unfold maxLen; omega) (fun j hj => absurd hj (by omega)))
          go_wp2_with (first
            | (at_builtin; refine wpList_apMvs rfl (.tmp 84) (.tmp 85) rfl w9.heap.size rfl (HL0.out.own 0 _ rfl) rfl (HR9.out.below (HL0.out.bel.mono hw9)) m (Nat.zero_add m) (by unfold maxLen; omega) (by omega) HL0.out.size ?_; intro A3 c3 w3 ho3 hg3 ha3
               have HL3 : Hid (Lay w9 w3 [mvs A3 m c3 (Z0.app 0 M)]) := Lib.hid (HL0.out.app 0 rfl ho3 hg3 ha3)
               clear ho3 hg3 ha3 HL0)
            | (at_builtin; refine wpList_apMv rfl (.tmp 86) (.tmp 90) rfl w9.heap.size rfl (w0 := w3) w3.heap.size 4 (ii : Nat) (ii : Nat) 0 rfl rfl (HL3.out.own 0 _ rfl) rfl (by omega) HL3.out.size ?_; intro A5 c5 w5 ho5 hg5 ha5
               have HL5 : Hid (Lay w9 w5 [mvs A5 (m + 1) c5 ((Z0.app 0 M).push m 4 (ii : Nat) (ii : Nat) 0)]) := Lib.hid ((HL3.out.alloc _).app 0 rfl ho5 hg5 ha5)
               clear ho5 hg5 ha5 HL3)
            | fail)
          refine (play_good a (m + 1) c5 w5.heap.size A5 _ w5 hn1 hn (by omega) (Nat.le_refl _) (HL5.out.rd 0 rfl)).mono ?_
          rintro e w7 ⟨v7, rfl, hb7, AC2, AI2, AN2, cC2, cI2, cN2, gI2, rfl, rC2, rI2, rN2, hI2⟩
          have HST : Hid (meSt a ((Z0.app 0 M).push m 4 (ii : Nat) (ii : Nat) 0) (m + 1) = S) := Lib.hid (by
            have e0 : meSt a ((Z0.app 0 M).push m 4 (ii : Nat) (ii : Nat) 0) m = S := by
              rw [← HSS.out]
              refine meSt_congr fun j hj => ?_
              obtain ⟨x1, x2, x3, x4⟩ := push_other (Z0.app 0 M) m 4 (ii : Nat) (ii : Nat) 0 (show j ≠ m by omega)
              obtain ⟨y1, y2, y3, y4⟩ := app_new Z0 0 M j
              rw [Nat.zero_add] at y1 y2 y3 y4
              exact ⟨x1.trans y1, x2.trans y2, x3.trans y3, x4.trans y4⟩
            obtain ⟨x1, x2, x3, x4⟩ := push_at (Z0.app 0 M) m 4 (ii : Nat) (ii : Nat) 0
            have hia := HIN.out
            rw [meSt, e0, meDo, x1, x2, x3, x4, if_neg (by omega), if_neg (by omega), if_neg (by omega), if_neg (by omega), if_neg (by omega), if_neg (by omega)]
            simp [join_self])
          rw [HST.out] at rN2 hI2
          have HBB : Hid (Below w9.heap.size w9 (w7.alloc (.cells #[.slice AC2 (m + 1) cC2, .slice AI2 a cI2, .slice AN2 a cN2] 28))) := Lib.hid (by
            have h1 := HL5.out.bel.trans (hb7.mono HL5.out.size)
            exact h1.alloc h1.size _)
          have HBA : Hid (Below w7.heap.size w7 (w7.alloc (.cells #[.slice AC2 (m + 1) cC2, .slice AI2 a cI2, .slice AN2 a cN2] 28))) := Lib.hid ((Below.refl _ _).alloc (Nat.le_refl _) _)
          have t1 : (w7.alloc (.cells #[.slice AC2 (m + 1) cC2, .slice AI2 a cI2, .slice AN2 a cN2] 28)).cell? ⟨w7.heap.size, 1, none⟩ = some (.slice AI2 a cI2) := by rw [World.cell?_alloc_new]; rfl
          have t2 : (w7.alloc (.cells #[.slice AC2 (m + 1) cC2, .slice AI2 a cI2, .slice AN2 a cN2] 28)).cell? ⟨w7.heap.size, 2, none⟩ = some (.slice AN2 a cN2) := by rw [World.cell?_alloc_new]; rfl
          have t3 : (w7.alloc (.cells #[.slice AC2 (m + 1) cC2, .slice AI2 a cI2, .slice AN2 a cN2] 28)).cell? ⟨q6, 1, none⟩ = some (.slice AI a cI) := (HBB.out.cell hsz9).trans p1
          have t4 : (w7.alloc (.cells #[.slice AC2 (m + 1) cC2, .slice AI2 a cI2, .slice AN2 a cN2] 28)).cell? ⟨q6, 2, none⟩ = some (.slice AN a cN) := (HBB.out.cell hsz9).trans p2
          have hq9 : q6 ≤ w9.heap.size := Nat.le_of_lt hsz9
          have hq7 : q6 ≤ w7.heap.size := by have := HL5.out.size; have := hb7.size; omega
          have HLI : Hid (∀ b, b < a → ∃ X c, gI b = .slice X (inL S b).length c ∧ Rd (w7.alloc (.cells #[.slice AC2 (m + 1) cC2, .slice AI2 a cI2, .slice AN2 a cN2] 28)) w7.heap.size X (inL S b).length (fun j => .int .i64 (((inL S b).getD j 0 : Nat) : Int))) := Lib.hid fun b hb => by
            obtain ⟨X, c, e1, e2⟩ := HI9.out b hb
            exact ⟨X, c, e1, (e2.below (HBB.out.mono hq9)).more hq7⟩
          have HLI2 : Hid (∀ b, b < a → ∃ X c, gI2 b = .slice X (inL S b).length c ∧ Rd (w7.alloc (.cells #[.slice AC2 (m + 1) cC2, .slice AI2 a cI2, .slice AN2 a cN2] 28)) w7.heap.size X (inL S b).length (fun j => .int .i64 (((inL S b).getD j 0 : Nat) : Int))) := Lib.hid fun b hb => by
            obtain ⟨X, c, e1, e2⟩ := hI2 b hb
            exact ⟨X, c, e1, e2.below HBA.out⟩
          have K1 := Lib.hid ((HRI9.out.below (HBB.out.mono hq9)).more hq7)
          have K2 := Lib.hid (rI2.below HBA.out)
          have K3 := Lib.hid ((HRN9.out.below (HBB.out.mono hq9)).more hq7)
          have K4 := Lib.hid (rN2.below HBA.out)
          have HBF := Lib.hid (HB9.out.trans (HBB.out.mono hw9))
          have HLL := Lib.hid (fun b => Nat.le_trans (inL_len S b) (show 9 ≤ 100 by omega))
          clear HI9 HRI9 HRN9 rC2 rI2 rN2 hI2 HBB HBA p1 p2 hsz9 hq9 hq7 HL5 hb7 HST
          go_wp2_with fail
          generalize (w7.alloc (.cells #[.slice AC2 (m + 1) cC2, .slice AI2 a cI2, .slice AN2 a cN2] 28)) = W at t1 t2 t3 t4 HLI HLI2 K1 K2 K3 K4 HBF ⊢
          generalize w7.heap.size = q7 at t1 t2 HLI HLI2 K1 K2 K3 K4 ⊢
          refine (lists_eq a cI cI2 q7 AI AI2 gI gI2 (fun b => (inL S b).length) (fun b j => (((inL S b).getD j 0 : Nat) : Int)) W hn HLL.out K1.out K2.out HLI.out HLI2.out).mono ?_
          rintro e w11 ⟨rfl, hs⟩
          have u2 : w11.cell? ⟨q7, 2, none⟩ = some (.slice AN2 a cN2) := (cell_sim hs _).trans t2
          have u4 : w11.cell? ⟨q6, 2, none⟩ = some (.slice AN a cN) := (cell_sim hs _).trans t4
          have HBF2 := Lib.hid (below_sim HBF.out hs)
          have HIE := Lib.hid (ints_eq a cN q7 AN (fun b => cntI S b a) cN2 q7 AN2 (fun b => cntI S b a) w11 (by unfold maxLen; omega) (K3.out.sim hs) (K4.out.sim hs) (fun _ _ => rfl))
          clear t1 t2 t3 t4 HLI HLI2 K1 K2 K3 K4 HBF hs
          go_wp2_with fail
          refine HIE.out.mono ?_
          rintro e w12 ⟨rfl, hs2⟩
          have HBF3 := Lib.hid (below_sim HBF2.out hs2)
          clear hs2
          go_wp2
          go_ret
          exact ⟨rfl, HBF3.out⟩
        · have hib : (decide (0 ≤ i) && decide (i < (a : Int))) = false := by
            rw [Bool.eq_false_iff]; intro h; simp at h; omega
          clear hin
          go_wp2_with fail
          refine (inside1 false a i w8 3 w8.heap.size rfl hib).mono ?_
          rintro e w9 ⟨rfl, rfl⟩
          go_wp2
          go_ret
          exact ⟨rfl, HB8.out.alloc HB8.out.size _⟩
theorem mergeRise_all (n : Int) (A : Option Addr) (m cap : Nat) (M : Mv) (i : Int) (w : World) (_ : (Lit.int .i64 n).wf = true) (hmc : m ≤ cap ∧ cap ≤ maxLen) (hr : Rd w w.heap.size A (m * 4) (mvF M)) (_ : (Lit.int .i64 i).wf = true) :
    Calls Try.prog 6 #[.int .i64 n, .slice A m cap, .int .i64 i] w fun e w' => e = .returned (.bool true) ∧ Below w.heap.size w w' := by
  by_cases h : n < 1 ∨ 6 < n ∨ 60 < m
  · exact mergeRise_bad n i A m cap w (by omega) h
  · obtain ⟨n, rfl⟩ := Int.eq_ofNat_of_zero_le (show 0 ≤ n by omega)
    exact mergeRise_good n i A m cap M w hr (by omega) (by omega) (by omega)
end Go.Proofs.Ytdgegbdkimdpjaa
