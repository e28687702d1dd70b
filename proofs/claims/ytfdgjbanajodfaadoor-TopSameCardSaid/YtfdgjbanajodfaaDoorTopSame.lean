/- The law TopSame, walked. -/
import Derived.Test.YtfdgjbanajodfaaDoorTopOpen
set_option linter.unusedVariables false
set_option linter.unusedSimpArgs false
namespace Go.Proofs.YtfdgjbanajodfaaDoor
open Go.RowKit

def sameN (a b c : Int) (d : Deed) (i : Nat) : StepX :=
  if i < 12 then ⟨2, 0, a, Dz⟩ else if i < 24 then ⟨2, 0, b, Dz⟩ else if i = 24 then ⟨3, c, a, Dz⟩ else if i = 25 then ⟨1, c, 0, d⟩ else if i = 26 then ⟨3, c, b, Dz⟩ else ⟨1, c, 0, d⟩
def sel2 (a b : Int) (k : Nat) : Int := if k = 0 then a else b
theorem sameN_ap (a b c : Int) (d : Deed) {k j : Nat} (hk : k < 2) (hj : j < 12) : sameN a b c d (12 * k + j) = ⟨2, 0, sel2 a b k, Dz⟩ := by
  unfold sameN sel2
  rcases (by omega : k = 0 ∨ k = 1) with rfl | rfl
  · rw [if_pos (by omega), if_pos rfl]
  · rw [if_neg (by omega), if_pos (by omega), if_neg (by omega)]
theorem sameN_mv (a b c : Int) (d : Deed) {k : Nat} (hk : k < 2) : sameN a b c d (24 + 2 * k) = ⟨3, c, sel2 a b k, Dz⟩ ∧ sameN a b c d (24 + 2 * k + 1) = ⟨1, c, 0, d⟩ := by
  unfold sameN sel2
  rcases (by omega : k = 0 ∨ k = 1) with rfl | rfl
  · exact ⟨rfl, rfl⟩
  · exact ⟨rfl, rfl⟩
theorem sameN_L (a b c : Int) {d : Deed} (hd : DeedL d) (i : Nat) : DeedL (sameN a b c d i).deed := by
  unfold sameN
  repeat' split
  all_goals first | exact Dz_L | exact hd
/-- What is appended is what the script has there. -/
theorem skF_next (Y : Nat → StepX) (q : Nat) (x : StepX) (h : Y q = x) : ∀ t, t < (q + 1) * 7 → skF (appX Y q (lsX [x])) t = skF Y t := fun t ht => by
  have e : appX Y q (lsX [x]) (t / 7) = Y (t / 7) := by
    by_cases h1 : t / 7 < q
    · exact appX_old _ _ _ h1
    · obtain e : t / 7 = q + 0 := by omega
      rw [e, appX_new, Nat.add_zero, h]; rfl
  unfold skF
  rw [e]
theorem skF_next2 (Y : Nat → StepX) (q : Nat) (x y : StepX) (h : Y q = x) (h2 : Y (q + 1) = y) : ∀ t, t < (q + 2) * 7 → skF (appX Y q (lsX [x, y])) t = skF Y t := fun t ht => by
  have e : appX Y q (lsX [x, y]) (t / 7) = Y (t / 7) := by
    by_cases h1 : t / 7 < q
    · exact appX_old _ _ _ h1
    · rcases (by omega : t / 7 = q + 0 ∨ t / 7 = q + 1) with e | e
      · rw [e, appX_new, Nat.add_zero, h]; rfl
      · rw [e, appX_new, h2]; rfl
  unfold skF
  rw [e]
set_option maxRecDepth 100000 in
set_option maxHeartbeats 1600000 in
theorem topSame_no (n : Int) (m cap : Nat) (A : Option Addr) (c : Int) (d : Deed) (a b : Int) (w : World) (hb : m ≤ maxLen) (hbad : 12 < m ∨ (d.kind ≠ 4 ∧ d.kind ≠ 5)) :
    Calls Tryd.prog 8 #[.int .i64 n, .slice A m cap, .int .i64 c, .agg #[.int .i64 d.kind, .string (bs d.path), .string (bs d.data), .int .i64 d.version], .int .i64 a, .int .i64 b] w fun e w' => e = .returned (.bool true) ∧ Below w.heap.size w w' := by
  have HP := Lib.hid fun W => kplay_bad 0 m cap A W hb (.inl (by omega))
  have HL := Lib.hid ((Lay.nil w).newB (cellsD d) 30 4 rfl _ rfl)
  unfold maxLen at hb
  obtain ⟨dk, dp, dd, dv⟩ := d
  try dsimp only at *
  go_enter Tryd.func8, Tryd.ntmps8
  go_upto_region 1 with (fail)
  refine at_lay (F := fun W' => Code.wp _ _ _ _ W') HL.out ?_
  intro W hW
  have x0 := hW.cellB 0 rfl 0 (by omega)
  simp only [ofL_0] at x0
  have HB := Lib.hid hW.bel
  clear hW HL
  generalize w.heap.size = t9 at x0 ⊢
  by_cases h1 : 12 < m
  · clear hbad
    go_wp2_with (go_at_call 14
                 refine (HP.out _).mono ?_
                 rintro e w6 ⟨rfl, hb6⟩
                 have HB6 := Lib.hid (HB.out.trans (hb6.mono HB.out.size))
                 clear hb6)
    go_ret
    exact ⟨rfl, HB6.out.alloc HB6.out.size _⟩
  · obtain ⟨h4, h5⟩ : dk ≠ 4 ∧ dk ≠ 5 := hbad.resolve_left h1
    have b4 : (dk != 4) = true := by simpa using h4
    have b5 : (dk != 5) = true := by simpa using h5
    clear hbad h4 h5
    go_wp2_with (go_at_call 14
                 refine (HP.out _).mono ?_
                 rintro e w6 ⟨rfl, hb6⟩
                 have HB6 := Lib.hid (HB.out.trans (hb6.mono HB.out.size))
                 clear hb6)
    go_ret
    exact ⟨rfl, HB6.out.alloc HB6.out.size _⟩
theorem kans_len {n : Nat} (hn : 1 ≤ n) {Y : Nat → StepX} {j : Nat} (h : ∀ i, i ≤ j → DeedL (Y i).deed) : (kans n Y j).names.length ≤ 12 := by
  have hB := kst_ok hn Y j fun i hi => h i (by omega)
  unfold kans keepK
  split
  · exact Nat.zero_le _
  split
  · exact Nat.zero_le _
  split
  · unfold deedK
    split
    · exact ans_len (run_ok _ _ fun i hi => hB.dl i (by have := hB.ap ((kst n Y j).at_ (Y j).client.toNat); omega)) _
    · exact ansS_len fun i hi => (hB.addK _ (h j (Nat.le_refl _))).dl i (by show i < (kst n Y j).q + 1; omega)
  split
  · split <;> exact Nat.zero_le _
  split
  · split <;> exact Nat.zero_le _
  exact Nat.zero_le _
set_option maxRecDepth 100000 in
set_option maxHeartbeats 6400000 in
theorem topSame_yes (n : Int) (m cap : Nat) (A : Option Addr) (X : Nat → StepX) (c : Int) (d : Deed) (a b : Int) (w : World) (hm : m ≤ 12) (hk : d.kind = 4 ∨ d.kind = 5) (hD : ∀ i, i < m → DeedL (X i).deed) (hd : DeedL d) (hr : Rd w w.heap.size A (m * 7) (skF X)) :
    Calls Tryd.prog 8 #[.int .i64 n, .slice A m cap, .int .i64 c, .agg #[.int .i64 d.kind, .string (bs d.path), .string (bs d.data), .int .i64 d.version], .int .i64 a, .int .i64 b] w fun e w' => e = .returned (.bool true) ∧ Below w.heap.size w w' := by
  have HR := Lib.hid hr
  have HDL : Hid (∀ i, i < m + 28 → DeedL (appX X m (sameN a b c d) i).deed) := Lib.hid fun i hi => by
    by_cases h : i < m
    · rw [appX_old _ _ _ h]; exact hD i h
    · obtain ⟨k, rfl⟩ : ∃ k, i = m + k := ⟨i - m, by omega⟩
      rw [appX_new]; exact sameN_L a b c hd k
  have HKD := Lib.hid hk
  have HD0 := Lib.hid hD
  have HL := Lib.hid ((Lay.nil w).newB (cellsD d) 30 4 rfl _ rfl)
  clear hr hD hd hk
  go_enter Tryd.func8, Tryd.ntmps8
  go_upto_region 1 with (fail)
  refine at_lay (F := fun W' => Code.wp _ _ _ _ W') HL.out ?_
  intro W hW
  have HW := Lib.hid hW
  have x0 := hW.cellB 0 rfl 0 (by omega)
  simp only [ofL_0] at x0
  clear hW HL
  generalize ht9 : w.heap.size = t9 at HW x0 ⊢
  have e12 : decide (12 < (m : Int)) = false := by simp; omega
  go_cut [36] from 24 to 35 (fun v wx => v = .bool false ∧ wx = W)
  case first =>
    rcases HKD.out with h | h
    · rw [h] at x0
      clear h
      go_wp2
      go_meet
      exact ⟨rfl, rfl⟩
    · rw [h] at x0
      clear h
      go_wp2
      go_meet
      exact ⟨rfl, rfl⟩
  case rest =>
    obtain ⟨rfl, hwc⟩ := hcut
    subst wc
    have HRW : Hid (Rd W W.heap.size A (m * 7) (skF X)) := Lib.hid ((HR.out.below HW.out.bel).more HW.out.bel.size)
    obtain ⟨Y, hY⟩ : ∃ Y, appX X m (sameN a b c d) = Y := ⟨_, rfl⟩
    have HYA : Hid (∀ k j, k < 2 → j < 12 → Y (m + 12 * k + j) = ⟨2, 0, sel2 a b k, Dz⟩) := Lib.hid fun k j hk hj => by
      rw [← hY, Nat.add_assoc, appX_new]; exact sameN_ap a b c d hk hj
    have HYM : Hid (∀ k, k < 2 → Y (m + 24 + 2 * k) = ⟨3, c, sel2 a b k, Dz⟩ ∧ Y (m + 24 + 2 * k + 1) = ⟨1, c, 0, d⟩) := Lib.hid fun k hk => by
      rw [← hY, Nat.add_assoc m, Nat.add_assoc m, appX_new, appX_new]; exact sameN_mv a b c d hk
    have HYX : Hid (∀ t, t < m * 7 → skF X t = skF Y t) := Lib.hid fun t ht => by rw [← hY]; exact (skF_old X m _ ht).symm
    rw [hY] at HDL
    have HYD := Lib.hid hY
    clear hY HR x0
    go_wp2_with (at_builtin; revert HDL)
    intro HDL
    refine wpList_apXs rfl (.tmp 44) (.tmp 45) rfl W.heap.size rfl (Own.empty _ _ _ _ (skF (fun _ => Sz)) _ (by simp) (by simp)) rfl (HRW.out.alloc (Nat.le_refl _) _) m (Nat.zero_add m) (by unfold maxLen; omega) (by omega) (by simp) ?_
    intro A3 c3 w3 ho3 hg3 ha3
    have HL3 : Hid (Lay W w3 [sts A3 m c3 (appX (fun _ => Sz) 0 X)]) := (((Lay.nil W).new #[] 49 7 0 (skF (fun _ => Sz)) _ rfl rfl (by unfold maxLen; omega) (fun j hj => absurd hj (by omega))).app 0 rfl ho3 hg3 ha3)
    rw [appX_zero] at HL3
    have H3 := Lib.hid ((HW.out.join HL3.out).congr 0 (skF Y) rfl HYX.out)
    clear ho3 hg3 ha3 HL3 HRW HW
    have HS1 := Lib.hid (H3.out.new #[.int .i64 a, .int .i64 b] 3 1 2 (fun j => .int .i64 (sel2 a b j)) _ rfl rfl (by unfold maxLen; omega) (fun j hj => by
      rcases (by omega : j = 0 ∨ j = 1) with rfl | rfl <;> rfl))
    clear H3
    go_wp2
    generalize w3.heap.size = tab at HS1 ⊢
    have HS1 : Hid (Lay w (w3.alloc (.cells #[.int .i64 a, .int .i64 b] 3)) [⟨some ⟨tab, 0, none⟩, 3, 1, 2, 2, fun j => .int .i64 (sel2 a b j)⟩, sts A3 (m + 12 * 0) c3 Y, blk t9 30 4 (ofL (cellsD d))]) := HS1
    go_loopw [15, 51] (fun l i wr => ∃ (k : Nat) (A5 : Option Addr) (c5 : Nat), k ≤ 2 ∧ i = .int .i64 (k : Nat) ∧ l = .slice A5 (m + 12 * k) c5 ∧ Hid (Lay w wr [⟨some ⟨tab, 0, none⟩, 3, 1, 2, 2, fun j => .int .i64 (sel2 a b j)⟩, sts A5 (m + 12 * k) c5 Y, blk t9 30 4 (ofL (cellsD d))])) (fun _ i _ => 2 - (intOf i).toNat)
    case atStart => exact ⟨0, A3, c3, by omega, rfl, rfl, HS1⟩
    case round =>
      clear HS1
      obtain ⟨k, A5, c5, hk, rfl, rfl, HQ⟩ := hrel
      by_cases hlt : k < 2
      · have s0 : wr.cell? ⟨tab, k, none⟩ = some (.int .i64 (sel2 a b k)) := HQ.out.cell1 0 rfl hlt
        obtain ⟨s, hs⟩ : ∃ s, sel2 a b k = s := ⟨_, rfl⟩
        rw [hs] at s0
        have HYK : Hid (∀ j, j < 12 → Y (m + 12 * k + j) = ⟨2, 0, s, Dz⟩) := Lib.hid fun j hj => by rw [← hs]; exact HYA.out k j hlt hj
        clear hs
        obtain ⟨w6, hw6⟩ : ∃ w6, w6 = wr := ⟨_, rfl⟩
        rw [← hw6] at HQ s0 ⊢
        clear hw6 wr
        have HQ0 : Hid (Lay w w6 [⟨some ⟨tab, 0, none⟩, 3, 1, 2, 2, fun j => .int .i64 (sel2 a b j)⟩, sts A5 (m + 12 * k + 0) c5 Y, blk t9 30 4 (ofL (cellsD d))]) := HQ
        clear HQ
        go_wp2
        go_loopw [15, 18] (fun l i wr => ∃ (j : Nat) (A5 : Option Addr) (c5 : Nat), j ≤ 12 ∧ i = .int .i64 (j : Nat) ∧ l = .slice A5 (m + 12 * k + j) c5 ∧ Hid (Lay w wr [⟨some ⟨tab, 0, none⟩, 3, 1, 2, 2, fun j => .int .i64 (sel2 a b j)⟩, sts A5 (m + 12 * k + j) c5 Y, blk t9 30 4 (ofL (cellsD d))])) (fun _ i _ => 12 - (intOf i).toNat)
        case atStart => exact ⟨0, A5, c5, by omega, rfl, rfl, HQ0⟩
        case round =>
          clear HQ0 s0
          obtain ⟨j, A6, c6, hj, rfl, rfl, HQ⟩ := hrel
          by_cases hlj : j < 12
          · have HYJ := Lib.hid (HYK.out j hlj)
            go_wp2_with (at_builtin; revert HDL)
            intro HDL
            refine wpList_apXs rfl (.tmp 59) (.tmp 62) rfl w.heap.size rfl ((HQ.out.alloc _).own 1 _ rfl) rfl (new_steps wr [⟨2, 0, s, Dz⟩] _) (m + 12 * k + j + 1) rfl (by unfold maxLen; omega) (by omega) (HQ.out.alloc _).size ?_
            intro A7 c7 w7 ho hg hh
            have H7 := Lib.hid (((HQ.out.alloc _).app 1 rfl ho hg hh).congr 1 (skF Y) rfl (skF_next Y (m + 12 * k + j) _ HYJ.out))
            clear ho hg hh HQ
            go_wp2
            go_roundw
            case rel => exact ⟨j + 1, by omega, by go_num, A7, c7, ⟨rfl, by omega, rfl⟩, H7⟩
            case measure => simp [intOf]; omega
          · obtain rfl : j = 12 := by omega
            go_wp2
            go_roundw
            case rel => exact ⟨k + 1, A6, c6, by omega, by go_num, by rw [show m + 12 * (k + 1) = m + 12 * k + 12 by omega], by rw [show m + 12 * (k + 1) = m + 12 * k + 12 by omega]; exact HQ⟩
            case measure => simp [intOf]; omega
      · obtain rfl : k = 2 := by omega
        obtain ⟨w8, hw8⟩ : ∃ w8, w8 = wr := ⟨_, rfl⟩
        rw [← hw8] at HQ ⊢
        clear hw8 wr
        have HS2 := Lib.hid (HQ.out.tail.new #[.int .i64 a, .int .i64 b] 3 1 2 (fun j => .int .i64 (sel2 a b j)) _ rfl rfl (by unfold maxLen; omega) (fun j hj => by
          rcases (by omega : j = 0 ∨ j = 1) with rfl | rfl <;> rfl))
        clear HQ
        go_wp2
        generalize w8.heap.size = tac at HS2 ⊢
        have HS2 : Hid (Lay w (w8.alloc (.cells #[.int .i64 a, .int .i64 b] 3)) [⟨some ⟨tac, 0, none⟩, 3, 1, 2, 2, fun j => .int .i64 (sel2 a b j)⟩, sts A5 (m + 24 + 2 * 0) c5 Y, blk t9 30 4 (ofL (cellsD d))]) := HS2
        go_loopw [15, 71] (fun l i wr => ∃ (k : Nat) (A5 : Option Addr) (c5 : Nat), k ≤ 2 ∧ i = .int .i64 (k : Nat) ∧ l = .slice A5 (m + 24 + 2 * k) c5 ∧ Hid (Lay w wr [⟨some ⟨tac, 0, none⟩, 3, 1, 2, 2, fun j => .int .i64 (sel2 a b j)⟩, sts A5 (m + 24 + 2 * k) c5 Y, blk t9 30 4 (ofL (cellsD d))])) (fun _ i _ => 2 - (intOf i).toNat)
        case atStart => exact ⟨0, A5, c5, by omega, rfl, rfl, HS2⟩
        case round =>
          clear HS2
          obtain ⟨k, A6, c6, hk, rfl, rfl, HQ⟩ := hrel
          by_cases hlt : k < 2
          · have s0 : wr.cell? ⟨tac, k, none⟩ = some (.int .i64 (sel2 a b k)) := HQ.out.cell1 0 rfl hlt
            obtain ⟨s, hs⟩ : ∃ s, sel2 a b k = s := ⟨_, rfl⟩
            rw [hs] at s0
            have HYK : Hid (Y (m + 24 + 2 * k) = ⟨3, c, s, Dz⟩ ∧ Y (m + 24 + 2 * k + 1) = ⟨1, c, 0, d⟩) := Lib.hid (by rw [← hs]; exact HYM.out k hlt)
            clear hs
            have x0 := HQ.out.cellB 2 rfl 0 (by omega)
            have x1 := HQ.out.cellB 2 rfl 1 (by omega)
            have x2 := HQ.out.cellB 2 rfl 2 (by omega)
            have x3 := HQ.out.cellB 2 rfl 3 (by omega)
            simp only [ofL_0, ofL_1, ofL_2, ofL_3] at x0 x1 x2 x3
            go_wp2_with (at_builtin; revert HDL)
            intro HDL
            refine wpList_apXs rfl (.tmp 75) (.tmp 82) rfl w.heap.size rfl ((HQ.out.alloc _).own 1 _ rfl) rfl (new_steps wr [⟨3, c, s, Dz⟩, ⟨1, c, 0, d⟩] _) (m + 24 + 2 * k + 2) rfl (by unfold maxLen; omega) (by omega) (HQ.out.alloc _).size ?_
            intro A7 c7 w7 ho hg hh
            have H7 := Lib.hid (((HQ.out.alloc _).app 1 rfl ho hg hh).congr 1 (skF Y) rfl (skF_next2 Y (m + 24 + 2 * k) _ _ HYK.out.1 HYK.out.2))
            clear ho hg hh HQ x0 x1 x2 x3 s0
            go_wp2
            go_roundw
            case rel => exact ⟨.slice A7 (m + 24 + 2 * k + 2) c7, .int .i64 s, .int .i64 ((k : Int) + 1), ⟨k + 1, by omega, by go_num, A7, c7, by rw [show m + 24 + 2 * (k + 1) = m + 24 + 2 * k + 2 by omega], by rw [show m + 24 + 2 * (k + 1) = m + 24 + 2 * k + 2 by omega]; exact H7⟩, rfl, rfl, rfl⟩
            case measure => simp [intOf]; omega
          · obtain rfl : k = 2 := by omega
            obtain ⟨w9, hw9⟩ : ∃ w9, w9 = wr := ⟨_, rfl⟩
            rw [← hw9] at HQ ⊢
            clear hw9 wr
            rw [show m + 24 + 2 * 2 = m + 28 by omega] at HQ ⊢
            by_cases hn : n < 1 ∨ 6 < n
            · have HC := Lib.hid (if_pos (show n < 1 ∨ 6 < n ∨ 60 < ((m + 28 : Nat) : Int) by omega) : (if n < 1 ∨ 6 < n ∨ 60 < ((m + 28 : Nat) : Int) then (1 : Int) else 0) = 1)
              have HCK := Lib.hid fun W => check_any n ((m + 28 : Nat) : Int) W
              rw [HC.out] at HCK
              go_wp2_with (first
                | (go_at_call 14
                   refine (kplay_bad n (m + 28) c6 A6 w9 (by unfold maxLen; omega) (by omega)).mono ?_
                   rintro e w10 ⟨rfl, hb10⟩
                   have HB10 := Lib.hid (HQ.out.bel.trans (hb10.mono HQ.out.size))
                   clear hb10 HQ)
                | (go_at_call 15
                   refine (HCK.out _).mono ?_
                   rintro e w' ⟨rfl, hw'⟩
                   subst w')
                | fail)
              go_ret
              exact ⟨rfl, by first | exact HB10.out.alloc HB10.out.size _ | (rw [← ht9]; exact HB10.out.alloc HB10.out.size _)⟩
            · obtain ⟨n, rfl⟩ := Int.eq_ofNat_of_zero_le (show 0 ≤ n by omega)
              have hn1 : 1 ≤ n := by omega
              have hn6 : n ≤ 6 := by omega
              clear hn
              have HC := Lib.hid (if_neg (show ¬ ((n : Int) < 1 ∨ 6 < (n : Int) ∨ 60 < ((m + 28 : Nat) : Int)) by omega) : (if (n : Int) < 1 ∨ 6 < (n : Int) ∨ 60 < ((m + 28 : Nat) : Int) then (1 : Int) else 0) = 0)
              have HCK := Lib.hid fun W => check_any (n : Int) ((m + 28 : Nat) : Int) W
              rw [HC.out] at HCK
              clear HC
              go_wp2_with fail
              refine (kplay_law n (m + 28) c6 w9.heap.size A6 Y w9 hn1 hn6 (by omega) (Nat.le_refl _) HDL.out (HQ.out.rd 1 rfl)).mono ?_
              rintro e w10 ⟨AC, cC, AP, cP, AS, cS, NA, NC, rfl, hb10, hK⟩
              have hb := HQ.out.bel.trans (hb10.mono HQ.out.size)
              have HB10 := Lib.hid hb
              have HLAW : Hid (0 ≤ a → a < n → 0 ≤ b → b < n → 0 ≤ c → c < 6 → (kans n Y (m + 24)).code = 0 ∧ (kans n Y (m + 26)).code = 0 ∧ kans n Y (m + 25) = kans n Y (m + 27)) := Lib.hid fun ha1 ha2 hb1 hb2 hc1 hc2 => by
                have hB := kst_ok hn1 X m HD0.out
                have := sameLaw hB (Nat.le_trans hB.q hm) ⟨ha1, ha2⟩ ⟨hb1, hb2⟩ ⟨hc1, hc2⟩ d HKD.out (sameN a b c d) (fun i hi => sameN_ap a b c d (k := 0) (j := i) (by omega) hi |>.symm ▸ (by rw [show 12 * 0 + i = i by omega])) (fun i hi => sameN_ap a b c d (k := 1) (j := i) (by omega) hi) rfl rfl rfl rfl
                rw [← HYD.out, kans_app n X _ m 24, kans_app n X _ m 25, kans_app n X _ m 26, kans_app n X _ m 27]
                exact this
              have HLEN : Hid ((kans n Y (m + 25)).names.length ≤ 12) := Lib.hid (kans_len hn1 fun i hi => HDL.out i (by omega))
              generalize (kst n Y (m + 28)).ap = ap at hK
              generalize (kst n Y (m + 28)).seen = seen at hK
              generalize kans n Y = z at hK HLAW HLEN
              have HK := Lib.hid hK
              clear hb10 hb hK HQ HDL HYA HYM HYX HYD HD0 HKD
              go_upto_region 20 with (fail)
              refine at_lay (F := fun W' => Code.wp _ _ _ _ W') ((Lay.nil w10).newB [.slice AC (m + 28) cC, .slice AP n cP, .slice AS 6 cS] 52 3 rfl _ rfl) ?_
              intro W5 hW
              have HW5 := Lib.hid hW
              have HBW := Lib.hid (HB10.out.trans (hW.bel.mono HB10.out.size))
              have HKW := Lib.hid (HK.out.to hW.bel)
              have hsz : w10.heap.size ≤ W5.heap.size := hW.size
              clear hW HK HB10
              generalize hB : w10.heap.size = B at HW5 HKW hsz ⊢
              have r0 := HW5.out.cellB 0 rfl 0 (by omega)
              have r1 := HW5.out.cellB 0 rfl 1 (by omega)
              have r2 := HW5.out.cellB 0 rfl 2 (by omega)
              simp only [ofL_0, ofL_1, ofL_2] at r0 r1 r2
              go_upto_region 24 with (first
                | (go_at_call 15
                   refine (HCK.out _).mono ?_
                   rintro e w' ⟨rfl, hw'⟩
                   subst w')
                | (go_at_call 16
                   refine (kept_any (m + 28) n cC cP cS B AC AP AS ap seen W5 (by omega) hn6 hsz HKW.out.A HKW.out.S).mono ?_
                   rintro e w11 ⟨rfl, hb8⟩
                   have HB8 := Lib.hid (HBW.out.trans (hb8.mono HBW.out.size))
                   have HK8 := Lib.hid (HKW.out.to hb8)
                   have HW8 := Lib.hid (HW5.out.keep hb8)
                   clear hb8 r0 r1 r2 HW5 HKW)
                | fail)
              by_cases q1 : a < 0
              · go_wp2
                refine bodyPost_ret (v := .bool true) (by simp [results, Tryd.results8, go_sem]) rfl ?_
                exact ⟨rfl, by first | exact HB8.out | (rw [← ht9]; exact HB8.out)⟩
              by_cases q2 : b < 0
              · go_wp2
                refine bodyPost_ret (v := .bool true) (by simp [results, Tryd.results8, go_sem]) rfl ?_
                exact ⟨rfl, by first | exact HB8.out | (rw [← ht9]; exact HB8.out)⟩
              by_cases q3 : (n : Int) ≤ a
              · go_wp2
                refine bodyPost_ret (v := .bool true) (by simp [results, Tryd.results8, go_sem]) rfl ?_
                exact ⟨rfl, by first | exact HB8.out | (rw [← ht9]; exact HB8.out)⟩
              by_cases q4 : (n : Int) ≤ b
              · go_wp2
                refine bodyPost_ret (v := .bool true) (by simp [results, Tryd.results8, go_sem]) rfl ?_
                exact ⟨rfl, by first | exact HB8.out | (rw [← ht9]; exact HB8.out)⟩
              by_cases q5 : c < 0
              · go_wp2
                refine bodyPost_ret (v := .bool true) (by simp [results, Tryd.results8, go_sem]) rfl ?_
                exact ⟨rfl, by first | exact HB8.out | (rw [← ht9]; exact HB8.out)⟩
              by_cases q6 : 6 ≤ c
              · go_wp2
                refine bodyPost_ret (v := .bool true) (by simp [results, Tryd.results8, go_sem]) rfl ?_
                exact ⟨rfl, by first | exact HB8.out | (rw [← ht9]; exact HB8.out)⟩
              obtain ⟨l1, l2, l3⟩ := HLAW.out (by omega) (by omega) (by omega) (by omega) (by omega) (by omega)
              have r0 := HW8.out.cellB 0 rfl 0 (by omega)
              simp only [ofL_0] at r0
              obtain ⟨ad, rfl, -, k0, -, -, -⟩ := HK8.out.pl.rec4 (show m + 24 < m + 28 by omega)
              obtain ⟨ad', e, -, f0, f1, f2, f3⟩ := HK8.out.pl.rec4 (show m + 25 < m + 28 by omega)
              injection e with e
              subst e
              obtain ⟨ad', e, -, h0, -, -, -⟩ := HK8.out.pl.rec4 (show m + 26 < m + 28 by omega)
              injection e with e
              subst e
              obtain ⟨ad', e, -, g0, g1, g2, g3⟩ := HK8.out.pl.rec4 (show m + 27 < m + 28 by omega)
              injection e with e
              subst e
              have HN1 := Lib.hid ((HK8.out.pl.N (m + 25) (by omega)).more HK8.out.pl.le)
              have HN2 := Lib.hid ((HK8.out.pl.N (m + 27) (by omega)).more HK8.out.pl.le)
              rw [← l3] at g0 g1 g2 g3 HN2
              rw [l1] at k0
              rw [l2] at h0
              generalize z (m + 25) = y at *
              clear l1 l2 l3 HLAW HK8 HW8 HCK
              go_wp2
              refine wp_text 30 (by kernel_rfl) (by kernel_rfl) (by kernel_rfl) (by repeat' (first | (with_reducible apply tame_then) | (with_reducible apply tame_block) | (with_reducible apply tame_scope) | exact tame_gives | exact tame_body (fun _ _ h => ⟨_, h.1⟩))) ?_
              simp only [List.take_succ_cons, List.take_zero, List.drop_succ_cons, List.drop_zero]
              go_wp2
              refine headed ?_
              go_wp2_with fail
              refine (telling_any (NC (m + 25)) (NC (m + 27)) w11.drew.heap.size (NA (m + 25)) (NA (m + 27)) y w11.drew (Nat.le_trans HLEN.out (by omega)) (Nat.le_refl _) HN1.out HN2.out).mono ?_
              rintro e w12 ⟨rfl, hb12⟩
              have HB12 := Lib.hid (HB8.out.drew.trans (hb12.mono HB8.out.size))
              clear hb12 k0 h0 f0 f1 f2 f3 g0 g1 g2 g3 r0
              go_wp2
              go_ret
              exact ⟨rfl, by first | exact HB12.out | (rw [← ht9]; exact HB12.out)⟩
theorem topSame_all (n : Int) (A : Option Addr) (m cap : Nat) (X : Nat → StepX) (c : Int) (d : Deed) (a b : Int) (w : World) (hb : m ≤ cap ∧ cap * 72 ≤ 140737488351232) (hD : ∀ i, i < m → DeedL (X i).deed) (hr : Rd w w.heap.size A (m * 7) (skF X)) (hd : DeedL d) :
    Calls Tryd.prog 8 #[.int .i64 n, .slice A m cap, .int .i64 c, .agg #[.int .i64 d.kind, .string (bs d.path), .string (bs d.data), .int .i64 d.version], .int .i64 a, .int .i64 b] w fun e w' => e = .returned (.bool true) ∧ Below w.heap.size w w' := by
  by_cases h : 12 < m ∨ (d.kind ≠ 4 ∧ d.kind ≠ 5)
  · exact topSame_no n m cap A c d a b w (by unfold maxLen; omega) h
  · exact topSame_yes n m cap A X c d a b w (by omega) (by omega) hD hd hr
end Go.Proofs.YtfdgjbanajodfaaDoor
