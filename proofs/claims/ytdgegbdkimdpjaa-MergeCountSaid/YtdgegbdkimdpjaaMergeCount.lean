/- The law MergeCount: walked. -/
import Derived.Test.YtdgegbdkimdpjaaMeCnt
set_option linter.unusedVariables false
set_option linter.unusedSimpArgs false
namespace Go.Proofs.Ytdgegbdkimdpjaa
open Go.RowKit Go.Maps Go.MapKept

set_option maxHeartbeats 400000 in
theorem mergeCount_long (n : Int) (A : Option Addr) (m cap : Nat) (w : World) (hm : m ≤ maxLen) (h : 30 < m) :
    Calls Try.prog 4 #[.int .i64 n, .slice A m cap] w fun e w' => e = .returned (.bool true) ∧ Below w.heap.size w w' := by
  unfold maxLen at hm
  go_enter Try.func4, Try.ntmps4
  go_wp2
  go_ret
  exact ⟨rfl, Below.refl _ _⟩
set_option maxRecDepth 100000 in
set_option maxHeartbeats 3200000 in
theorem mergeCount_bad (n : Int) (d : Nat) (A : Option Addr) (m cap : Nat) (M : Mv) (w : World) (hr : Rd w w.heap.size A (m * 4) (mvF M)) (hm : m ≤ 30) (hd : (n < 1 ∧ d = 0) ∨ (6 < n ∧ d = 5)) :
    Calls Try.prog 4 #[.int .i64 n, .slice A m cap] w fun e w' => e = .returned (.bool true) ∧ Below w.heap.size w w' := by
  have HR := Lib.hid hr; clear hr
  go_enter Try.func4, Try.ntmps4
  have HL0x : Hid (Lay w (w.alloc (.cells #[] 37)) [mvs (some ⟨w.heap.size, 0, none⟩) 0 0 Z0]) := Lib.hid ((Lay.nil w).new #[] 37 4 0 (mvF Z0) _ rfl rfl (by unfold maxLen; omega) (fun j hj => absurd hj (by omega)))
  go_wp2_with (first
    | (at_builtin; skip; refine wpList_apMvs rfl (.tmp 16) (.tmp 17) rfl w.heap.size rfl (HL0x.out.own 0 _ rfl) rfl (HR.out.below HL0x.out.bel) (m) (Nat.zero_add _) (by unfold maxLen; omega) (by omega) HL0x.out.size ?_; intro A3x c3x w3x ho3x hg3x ha3x
       have HL3x : Hid (Lay w w3x [mvs A3x (m) c3x (Z0.app 0 (M))]) := Lib.hid (HL0x.out.app 0 rfl ho3x hg3x ha3x)
       clear ho3x hg3x ha3x HL0x)
    | fail)
  refine (joins_any n d w3x (by omega)).mono ?_
  rintro e w4x ⟨JAx, jcx, rfl, hjx⟩
  have HL4x : Hid (Lay w w4x [mvs JAx (4 * d) jcx (JM d), mvs A3x (m) c3x (Z0.app 0 (M))]) := Lib.hid (HL3x.out.join hjx)
  have HRJx : Hid (Rd w4x w4x.heap.size JAx (4 * d * 4) (mvF (JM d))) := Lib.hid (HL4x.out.rd 0 rfl)
  clear hjx HL3x
  go_wp2_with (first
    | (at_builtin; refine wpList_apMvs rfl (.tmp 18) (.tmp 20) rfl w.heap.size rfl (HL4x.out.own 1 _ rfl) rfl HRJx.out (m + 4 * d) rfl (by unfold maxLen; omega) (by omega) HL4x.out.size ?_; intro A5x c5x w5x ho5x hg5x ha5x
       have HL5x : Hid (Lay w w5x [mvs JAx (4 * d) jcx (JM d), mvs A5x (m + 4 * d) c5x ((Z0.app 0 (M)).app (m) (JM d))]) := Lib.hid (HL4x.out.app 1 rfl ho5x hg5x ha5x)
       clear ho5x hg5x ha5x HL4x HRJx)
    | fail)
  refine (play_bad n (m + 4 * d) c5x A5x w5x (by unfold maxLen; omega) (by omega)).mono ?_
  rintro e w6 ⟨rfl, hb6⟩
  have HB6 := Lib.hid (HL5x.out.bel.trans (hb6.mono HL5x.out.size)); clear hb6
  go_wp2
  all_goals first
    | (exfalso; omega)
    | (go_ret; exact ⟨rfl, HB6.out.alloc HB6.out.size _⟩)
set_option maxRecDepth 100000 in
set_option maxHeartbeats 6400000 in
theorem mergeCount_good (n d : Nat) (A : Option Addr) (m cap : Nat) (M : Mv) (w : World) (hr : Rd w w.heap.size A (m * 4) (mvF M)) (hm : m ≤ 30) (hnd : n = d + 1) (hd : d ≤ 5) :
    Calls Try.prog 4 #[.int .i64 n, .slice A m cap] w fun e w' => e = .returned (.bool true) ∧ Below w.heap.size w w' := by
  have HR := Lib.hid hr; clear hr
  have HJ : Hid (((n : Int) < 1 ∧ d = 0) ∨ ((n : Int) = (d : Int) + 1 ∧ d ≤ 5) ∨ (6 < (n : Int) ∧ d = 5)) := Lib.hid (by omega)
  have hn1 : 1 ≤ n := by omega
  have hn : n ≤ 6 := by omega
  have HP : Hid (∀ a, a < n → cntI (meSt n ((Z0.app 0 M).app m (JM d)) (m + 4 * d)) a n = sumU n ((Z0.app 0 M).app m (JM d)) (m + 4 * d)) := Lib.hid (by
    subst hnd; exact count_plain (by omega))
  clear hnd
  go_enter Try.func4, Try.ntmps4
  have HL0x : Hid (Lay w (w.alloc (.cells #[] 37)) [mvs (some ⟨w.heap.size, 0, none⟩) 0 0 Z0]) := Lib.hid ((Lay.nil w).new #[] 37 4 0 (mvF Z0) _ rfl rfl (by unfold maxLen; omega) (fun j hj => absurd hj (by omega)))
  go_wp2_with (first
    | (at_builtin; skip; refine wpList_apMvs rfl (.tmp 16) (.tmp 17) rfl w.heap.size rfl (HL0x.out.own 0 _ rfl) rfl (HR.out.below HL0x.out.bel) (m) (Nat.zero_add _) (by unfold maxLen; omega) (by omega) HL0x.out.size ?_; intro A3x c3x w3x ho3x hg3x ha3x
       have HL3x : Hid (Lay w w3x [mvs A3x (m) c3x (Z0.app 0 (M))]) := Lib.hid (HL0x.out.app 0 rfl ho3x hg3x ha3x)
       clear ho3x hg3x ha3x HL0x)
    | fail)
  refine (joins_any n d w3x (HJ.out)).mono ?_
  rintro e w4x ⟨JAx, jcx, rfl, hjx⟩
  have HL4x : Hid (Lay w w4x [mvs JAx (4 * d) jcx (JM d), mvs A3x (m) c3x (Z0.app 0 (M))]) := Lib.hid (HL3x.out.join hjx)
  have HRJx : Hid (Rd w4x w4x.heap.size JAx (4 * d * 4) (mvF (JM d))) := Lib.hid (HL4x.out.rd 0 rfl)
  clear hjx HL3x
  go_wp2_with (first
    | (at_builtin; refine wpList_apMvs rfl (.tmp 18) (.tmp 20) rfl w.heap.size rfl (HL4x.out.own 1 _ rfl) rfl HRJx.out (m + 4 * d) rfl (by unfold maxLen; omega) (by omega) HL4x.out.size ?_; intro A5x c5x w5x ho5x hg5x ha5x
       have HL5x : Hid (Lay w w5x [mvs JAx (4 * d) jcx (JM d), mvs A5x (m + 4 * d) c5x ((Z0.app 0 (M)).app (m) (JM d))]) := Lib.hid (HL4x.out.app 1 rfl ho5x hg5x ha5x)
       clear ho5x hg5x ha5x HL4x HRJx)
    | fail)
  generalize (Z0.app 0 M).app m (JM d) = N at HP HL5x
  obtain ⟨t, ht⟩ : ∃ t, t = m + 4 * d := ⟨_, rfl⟩
  have ht60 : t ≤ 60 := by omega
  rw [← ht] at HP HL5x ⊢
  clear ht
  refine (play_good n t c5x w5x.heap.size A5x _ w5x hn1 hn (by omega) (Nat.le_refl _) (HL5x.out.rd 1 rfl)).mono ?_
  rintro e w6 ⟨v6, rfl, hb6, AC, AI, AN, cC, cI, cN, gI, rfl, rC, rI, rN, hI⟩
  go_wp2_with fail
  obtain ⟨w7, hw7⟩ : ∃ w7, w7 = w6.alloc (.cells #[.slice AC t cC, .slice AI n cI, .slice AN n cN] 28) := ⟨_, rfl⟩
  obtain ⟨q6, hq6⟩ : ∃ q6, q6 = w6.heap.size := ⟨_, rfl⟩
  rw [← hw7, ← hq6]
  have hz7 : w7.heap.size = q6 + 1 := by rw [hw7, hq6]; simp
  have hA : Below w6.heap.size w6 w7 := by rw [hw7]; exact (Below.refl _ _).alloc (Nat.le_refl _) _
  have hB7 : Below w5x.heap.size w5x w7 := by rw [hw7]; exact hb6.alloc hb6.size _
  have c0 : w7.cell? ⟨q6, 0, none⟩ = some (.slice AC t cC) := by rw [hw7, hq6, World.cell?_alloc_new]; rfl
  have c2 : w7.cell? ⟨q6, 2, none⟩ = some (.slice AN n cN) := by rw [hw7, hq6, World.cell?_alloc_new]; rfl
  refine (merged_true AC AI AN t n cC cI cN w7 (by omega) hn).mono ?_
  rintro e w8 ⟨rfl, hb8⟩
  have hs8 := hb8.size
  have HBw : Hid (Below w.heap.size w w8) := Lib.hid (HL5x.out.bel.trans ((hB7.trans (hb8.mono hB7.size)).mono HL5x.out.size))
  have HRL : Hid (Rd w8 w8.heap.size A5x (t * 4) (mvF N)) := Lib.hid (((HL5x.out.rd 1 rfl).below (hB7.trans (hb8.mono hB7.size))).more (Nat.le_trans hB7.size hs8))
  have HRC : Hid (Rd w8 w8.heap.size AC t (fun j => .int .i64 (meCode n N j))) := Lib.hid (((rC.below hA).below (hb8.mono hA.size)).more (Nat.le_trans hA.size hs8))
  have HRN : Hid (Rd w8 w8.heap.size AN n (fun _ => .int .i64 (sumU n N t))) := Lib.hid ((((rN.congr fun j hj => by rw [HP.out j hj]).below hA).below (hb8.mono hA.size)).more (Nat.le_trans hA.size hs8))
  have HD0 : Hid (w8.cell? ⟨q6, 0, none⟩ = some (.slice AC t cC)) := Lib.hid ((hb8.cell (show (⟨q6, 0, none⟩ : Addr).block < w7.heap.size by show q6 < _; omega)).trans c0)
  have HD2 : Hid (w8.cell? ⟨q6, 2, none⟩ = some (.slice AN n cN)) := Lib.hid ((hb8.cell (show (⟨q6, 2, none⟩ : Addr).block < w7.heap.size by show q6 < _; omega)).trans c2)
  have hq8 : q6 < w8.heap.size := by omega
  have HU0 : Hid (-((0 : Nat) : Int) ≤ sumU n N 0 ∧ sumU n N 0 ≤ ((0 : Nat) : Int)) := Lib.hid (sumU_abs n N 0)
  clear hw7 hq6 hz7 hA hB7 c0 c2 hb8 hb6 HL5x rC rI rN hI HP
  have HB0 : Hid (Below w8.heap.size w8 w8) := Lib.hid (Below.refl _ _)
  go_wp2
  go_loopw [8, 48] (fun sv iv wr => ∃ (q : Nat) (S : Int), iv = .int .i64 q ∧ q ≤ t ∧ sv = .int .i64 S ∧ Hid (S = sumU n N q) ∧ Hid (Below w8.heap.size w8 wr)) (fun _ iv _ => t - (intOf iv).toNat)
  case atStart => exact ⟨0, 0, rfl, by omega, rfl, Lib.hid rfl, HB0⟩
  case round =>
    obtain ⟨q, S, rfl, hq, rfl, HS, HW⟩ := hrel
    have hqr : q6 < wr.heap.size := Nat.lt_of_lt_of_le hq8 HW.out.size
    by_cases hlt : q < t
    · have hSa := sumU_abs n N q
      rw [← HS.out] at hSa
      obtain ⟨hS1, hS2⟩ := hSa
      obtain ⟨gc, rfl, hgc, hcc⟩ := (HRC.out.below HW.out) (by omega)
      have hc : wr.cell? (gc.add q) = some (.int .i64 (meCode n N q)) := hcc q hlt
      have hgq : (gc.add q).block < wr.heap.size := Nat.lt_of_lt_of_le (show (gc.add q).block < w8.heap.size by unfold Addr.add; split <;> exact hgc) HW.out.size
      have k0 := (HW.out.cell (show (⟨q6, 0, none⟩ : Addr).block < w8.heap.size from hq8)).trans HD0.out
      obtain ⟨ad, rfl, hbl, m0, m1, m2, m3⟩ := (HRL.out.below HW.out).rec4 hlt
      have HN := Lib.hid (HW.out.alloc HW.out.size (.cells #[.int .i64 (N.k q), .int .i64 (N.f q), .int .i64 (N.t q), .int .i64 (N.v q)] 37))
      have hU : sumU n N (q + 1) = sumU n N q + if N.k q = 3 ∧ meCode n N q = 0 then N.v q else 0 := rfl
      rw [← HS.out] at hU
      have hV := up_one n N q
      clear hcc hbl hgc HS HW
      by_cases k3 : N.k q = 3
      · by_cases e0 : meCode n N q = 0
        · rw [if_pos ⟨k3, e0⟩] at hU
          have HU := Lib.hid hU.symm
          rw [k3] at m0 HN
          rw [e0] at hc
          have hv := hV ⟨k3, e0⟩
          have hv1 : -1 ≤ N.v q := by omega
          have hv2 : N.v q ≤ 1 := by omega
          clear hU hV hv k3 e0
          generalize N.v q = v at m3 HN HU hv1 hv2
          go_wp2
          go_roundw
          case rel => exact ⟨q + 1, S + v, by go_num, by omega, by go_num, HU, HN⟩
          case measure => simp [intOf]; omega
        · rw [if_neg (fun c => e0 c.2), Int.add_zero] at hU
          have HU := Lib.hid hU.symm
          have b0 : (meCode n N q == 0) = false := by rw [beq_eq_false_iff_ne]; exact e0
          rw [k3] at m0 HN
          clear hU hV e0 k3
          go_wp2
          go_roundw
          case rel => exact ⟨q + 1, S, by go_num, by omega, by go_num, HU, HN⟩
          case measure => simp [intOf]; omega
      · rw [if_neg (fun c => k3 c.1), Int.add_zero] at hU
        have HU := Lib.hid hU.symm
        have b3 : (N.k q == 3) = false := by rw [beq_eq_false_iff_ne]; exact k3
        clear hU hV k3
        go_wp2
        go_roundw
        case rel => exact ⟨q + 1, S, by go_num, by omega, by go_num, HU, HN⟩
        case measure => simp [intOf]; omega
    · obtain rfl : q = t := by omega
      have k2 := (HW.out.cell (show (⟨q6, 2, none⟩ : Addr).block < w8.heap.size from hq8)).trans HD2.out
      have HRN2 : Hid (Rd wr w8.heap.size AN n (fun _ => .int .i64 S)) := Lib.hid (by rw [HS.out]; exact HRN.out.below HW.out)
      have HBF := Lib.hid (HBw.out.trans (HW.out.mono HBw.out.size))
      clear HS HW HB0
      obtain ⟨wx, rfl⟩ : ∃ wx, wx = wr := ⟨_, rfl⟩
      go_wp2
      go_loop [72] (fun v => ∃ a : Nat, a ≤ n ∧ v = .int .i64 a) (fun v => n - (intOf v).toNat)
      case atStart => exact ⟨0, by omega, rfl⟩
      case round =>
        obtain ⟨a, ha, rfl⟩ := hrel
        by_cases hlt : a < n
        · obtain ⟨adN, rfl, _, cellN⟩ := HRN2.out (by omega)
          have y1 : wx.cell? (adN.add a) = some (.int .i64 S) := cellN a hlt
          clear cellN
          go_wp2
          go_round
          case rel => exact ⟨a + 1, by omega, by go_num⟩
          case measure => simp [intOf]; omega
        · obtain rfl : a = n := by omega
          go_wp2
          go_ret
          exact ⟨rfl, HBF.out⟩
theorem mergeCount_all (n : Int) (A : Option Addr) (m cap : Nat) (M : Mv) (w : World) (_ : (Lit.int .i64 n).wf = true) (hmc : m ≤ cap ∧ cap ≤ maxLen) (hr : Rd w w.heap.size A (m * 4) (mvF M)) :
    Calls Try.prog 4 #[.int .i64 n, .slice A m cap] w fun e w' => e = .returned (.bool true) ∧ Below w.heap.size w w' := by
  by_cases h : 30 < m
  · exact mergeCount_long n A m cap w (by omega) h
  · by_cases h1 : n < 1
    · exact mergeCount_bad n 0 A m cap M w hr (by omega) (.inl ⟨h1, rfl⟩)
    · by_cases h6 : 6 < n
      · exact mergeCount_bad n 5 A m cap M w hr (by omega) (.inr ⟨h6, rfl⟩)
      · obtain ⟨n, rfl⟩ := Int.eq_ofNat_of_zero_le (show 0 ≤ n by omega)
        exact mergeCount_good n (n - 1) A m cap M w hr (by omega) (by omega) (by omega)
end Go.Proofs.Ytdgegbdkimdpjaa
