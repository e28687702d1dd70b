/- The law RingMany, walked. -/
import Derived.Test.YtelenomccmnkfaaRingGreatest
import Derived.Test.YtelenomccmnkfaaRgMany
import Derived.Test.YtelenomccmnkfaaPhase
set_option linter.unusedVariables false
set_option linter.unusedSimpArgs false
namespace Go.Proofs.Ytelenomccmnkfaa
open Go.RowKit

def rotF (f : Nat → Int) (n i j : Nat) : Int := f ((j + i) % n)
theorem rot_ok {f : Nat → Int} {n i : Nat} (h : RingOk f n) (hi : i < n) : RingOk (rotF f n i) n := by
  refine ⟨h.sz, fun a b ha hb e => ?_⟩
  have := h.eq (Nat.mod_lt _ (by omega)) (Nat.mod_lt _ (by omega)) e
  rw [Nat.add_comm a, Nat.add_comm b, add_mod_lt hi (by omega), add_mod_lt hi (by omega)] at this
  split at this <;> split at this <;> omega
set_option maxRecDepth 100000 in
set_option maxHeartbeats 6400000 in
theorem ringMany_good (A1 : Option Addr) (n cap1 k : Nat) (f : Nat → Int) (w : World) (hc1 : n ≤ cap1) (hm1 : cap1 ≤ maxLen) (hk : k < 256) (hr1 : Rd w w.heap.size A1 n (fun j => .int .i64 (f j))) (hR : RingOk f n) :
    Calls Try.prog 6 #[.slice A1 n cap1, .int .u8 (k : Nat)] w fun e w' => e = .returned (.bool true) ∧ Below w.heap.size w w' := by
  obtain ⟨iB, hiB, hzB0, hzB1, hzB2⟩ := info_parts infoBoolB
  obtain ⟨iI, hiI, hzI0, hzI1, hzI2⟩ := info_parts infoInt
  obtain ⟨hn1, hn12⟩ := hR.sz
  obtain ⟨ad1, rfl, hbl1, hcl1⟩ := hr1 (by omega)
  have HR1 : Hid (Rd w w.heap.size (some ad1) n (fun j => .int .i64 (f j))) := Lib.hid fun _ => ⟨ad1, rfl, hbl1, hcl1⟩
  have HC := Lib.hid (ringCode_zero.2 hR)
  have HRO := Lib.hid hR
  have HM1 := Lib.hid hm1
  have hm1' : cap1 ≤ 9223372036854775807 := by unfold maxLen at hm1; omega
  clear hr1 hR hm1 hbl1 hcl1
  go_enter Try.func6, Try.ntmps6
  go_wp2_with (at_make; refine wpList_mk1 rfl (.tmp 17) (.tmp 17) _ rfl 4 iB _ 1 Try.underlying30 hiB hzB0 hzB1 hzB2 rfl .i64 .i64 n rfl rfl (by omega) (by unfold maxLen; omega) w.heap.size _ rfl (Nat.le_refl _) ?_
               intro w2 ho2 he2
               have HL2 : Hid (Lay w w2 [arr w.heap.size 4 n (fun j => .bool (decide (j < 0)))]) := Lib.hid (by rw [he2]; exact (Lay.nil w).make (.bool false) rfl n (by unfold maxLen; omega) _ _ (fun j _ => by simp) _ rfl)
               clear ho2 he2)
  generalize w.heap.size = ga at HL2 ⊢
  go_loopw [7] (fun iv wr => ∃ i : Nat, i ≤ n ∧ iv = .int .i64 (i : Nat) ∧ Hid (Lay w wr [arr ga 4 n (fun j => .bool (decide (j < i)))])) (fun iv _ => n - (intOf iv).toNat)
  case atStart => exact ⟨0, by omega, rfl, HL2⟩
  case round =>
    clear HL2
    obtain ⟨i, hi, rfl, HL⟩ := hrel
    by_cases hlt : i < n
    · have c0 := HL.out.cell1 0 rfl hlt
      have f0 := HL.out.frz 0 rfl (by omega) i
      have HL3 : Hid (Lay w (wr.setCell ⟨ga, i, none⟩ (.bool true)) [arr ga 4 n (fun j => .bool (decide (j < i + 1)))]) := Lib.hid (HL.out.set 0 (fun j => .bool (decide (j < i + 1))) rfl (show i < n * 1 by omega) (by simp) (fun j hj hne => by
        show Value.bool (decide (j < i + 1)) = Value.bool (decide (j < i))
        congr 1
        rw [decide_eq_decide]; omega))
      go_wp2
      go_roundw
      case rel => exact ⟨i + 1, by omega, by go_num, HL3⟩
      case measure => simp [intOf]; omega
    · obtain rfl : i = n := by omega
      go_wp2_with fail
      refine (lead_good (some ad1) (some ⟨ga, 0, none⟩) i cap1 i wr.heap.size f (fun j => decide (j < i)) wr HRO.out ⟨0, by omega, by simp; omega⟩ hc1 HM1.out (Nat.le_refl _) ((HR1.out.below HL.out.bel).more HL.out.bel.size) (HL.out.rd1 0 rfl)).mono ?_
      rintro e w1 ⟨v, rfl, t, p, hp, hno, hh, rfl, hbl⟩
      rw [home_when HRO.out (fun j hj => by simpa using hj) hno hp hh]
      have HL1 := Lib.hid (HL.out.keep hbl)
      have hbd := totA_bounds HRO.out
      clear hno hh hbl HL
      obtain ⟨r, hr⟩ : ∃ r, r = k % i := ⟨_, rfl⟩
      have hri : r < i := by rw [hr]; exact Nat.mod_lt _ (by omega)
      have e1 : (k : Int) % (i : Int) = (r : Nat) := by rw [hr, Int.natCast_emod]
      clear hr
      have hTA : totA (rotF f i r) i = totA f i := totA_turn hri fun j _ => rfl
      have HTA := Lib.hid hTA
      clear hTA
      generalize totA f i = T at *
      go_wp2_with (first
        | (go_at_call 8; refine (ringed_any true (some ad1) i cap1 w.heap.size f w1 (by have := HM1.out; omega) (HR1.out.below HL1.out.bel) (by rw [HC.out]; rfl)).mono ?_; rintro e w2 ⟨rfl, hs2⟩; have HL2 := Lib.hid (HL1.out.sim hs2); clear hs2)
        | fail)
      refine wp_phase (fun _ => True) [false, true, true, true, false, true, true, true, false, true, false] ?A1 (by kernel_rfl) (by decide) (by kernel_rfl) (by repeat' (first | (with_reducible apply tame_then) | (with_reducible apply tame_block) | (with_reducible apply tame_scope) | exact tame_gives | exact tame_body (fun _ _ h => ⟨_, h.1⟩))) trivial ?head ?tail
      case head =>
        intro W5 _
        simp only [pick]
        go_wp2
        exact taken
      case tail =>
        have HRA : Hid (∀ W, Below w.heap.size w W → Rd W w.heap.size (some (ad1.add r)) (i - r) (fun j => .int .i64 (f (r + j)))) := Lib.hid fun W hb _ => by
          obtain ⟨ad, e, hbl, hcl⟩ := HR1.out.below hb (by omega)
          injection e with e
          subst e
          exact ⟨_, rfl, by rw [addr_block]; exact hbl, fun j hj => by rw [addr_add]; exact hcl (r + j) (by omega)⟩
        have HFA : Hid (∀ j, j < i - r → rotF f i r (0 + j) = f (r + j)) := Lib.hid fun j hj => by
          unfold rotF
          rw [Nat.zero_add, Nat.add_comm j r, Nat.mod_eq_of_lt (by omega)]
        have HFB : Hid (∀ j, j < r → rotF f i r (i - r + j) = f j) := Lib.hid fun j hj => by
          unfold rotF
          rw [show i - r + j + r = j + i by omega, Nat.add_mod_right, Nat.mod_eq_of_lt (by omega)]
        have HL3 : Hid (Lay w (w2.drew.alloc (.cells #[] 3)) [⟨some ⟨w2.heap.size, 0, none⟩, 3, 1, 0, 0, fun j => .int .i64 (rotF f i r j)⟩, arr ga 4 i (fun j => .bool (decide (j < i)))]) := Lib.hid (HL2.out.drew.new #[] 3 1 0 _ w2.heap.size rfl rfl (by unfold maxLen; omega) (fun j hj => by omega))
        clear HL1
        simp only [pick, List.map_cons, List.map_nil, Bool.not_true, Bool.not_false]; refine chain_step ?_
        go_wp2
        refine holds trivial ?_
        refine chain_step ?_
        refine wpList_ap1 rfl (.tmp 44) (.tmp 47) _ rfl 3 iI _ 8 Try.underlying22 hiI hzI0 hzI1 hzI2 rfl w.heap.size rfl (HL3.out.own 0 _ rfl) rfl (HRA.out _ HL3.out.bel) (fun _ _ => rfl) (fun j => .int .i64 (rotF f i r j)) (fun _ _ => rfl) (fun j hj => by rw [HFA.out j hj]) (i - r) (by omega) (by unfold maxLen; omega) (by omega) HL3.out.size ?_
        intro A4 cap4 w4 ho hg ha
        have HL4 := Lib.hid (HL3.out.app 0 rfl ho hg ha)
        clear ho hg ha HL3 HFA HRA
        refine holds trivial ?_
        refine chain_step ?_
        refine wpList_ap1 rfl (.tmp 48) (.tmp 51) _ rfl 3 iI _ 8 Try.underlying22 hiI hzI0 hzI1 hzI2 rfl w.heap.size rfl (HL4.out.own 0 _ rfl) rfl ((HR1.out.below HL4.out.bel).less (show r ≤ i by omega)) (fun _ _ => rfl) (fun j => .int .i64 (rotF f i r j)) (fun _ _ => rfl) (fun j hj => by rw [HFB.out j hj]) i (by omega) (by unfold maxLen; omega) (by omega) HL4.out.size ?_
        intro A5 cap5 w5 ho hg ha
        have HL5 := Lib.hid (HL4.out.app 0 rfl ho hg ha)
        clear ho hg ha HL4 HFB
        have hle := (HL5.out.own 0 _ rfl).le
        refine holds trivial ?_
        refine chain_step ?_
        go_wp2_with fail
        refine (lead_good A5 (some ⟨ga, 0, none⟩) i cap5 i w5.heap.size (rotF f i r) (fun j => decide (j < i)) w5 (rot_ok HRO.out hri) ⟨0, by omega, by simp; omega⟩ hle.1 hle.2 (Nat.le_refl _) (HL5.out.rd1 0 rfl) (HL5.out.rd1 1 rfl)).mono ?_
        rintro e w6 ⟨v, rfl, t2, p2, hp2, hno, hh, rfl, hbl⟩
        rw [home_when (rot_ok HRO.out hri) (fun j hj => by simpa using hj) hno hp2 hh, HTA.out]
        have HB6 := Lib.hid (HL5.out.bel.trans (hbl.mono HL5.out.bel.size))
        clear hno hh hbl HL5 hle HTA
        go_wp2
        refine holds trivial ?_
        obtain ⟨hb1, hb2⟩ := hbd
        rcases (show i = 1 ∨ i = 2 ∨ i = 3 ∨ i = 4 ∨ i = 5 ∨ i = 6 ∨ i = 7 ∨ i = 8 ∨ i = 9 ∨ i = 10 ∨ i = 11 ∨ i = 12 by omega) with h | h | h | h | h | h | h | h | h | h | h | h
        all_goals
          subst h
          simp only [Nat.reduceMul, Nat.reduceAdd] at hb1 hb2
          refine chain_end ?_; simp only [List.length_cons, List.length_nil, Nat.zero_add, Nat.reduceAdd, List.drop_succ_cons, List.drop_zero]; go_wp2; refine headed ?_; go_wp2_with fail
          go_ret
          exact ⟨rfl, HB6.out⟩
set_option maxRecDepth 100000 in
set_option maxHeartbeats 3200000 in
theorem ringMany_bad (A1 : Option Addr) (n cap1 : Nat) (k : Int) (f : Nat → Int) (w : World) (hc1 : n ≤ cap1) (hm1 : cap1 * 8 ≤ 140737488351232) (hr1 : Rd w w.heap.size A1 n (fun j => .int .i64 (f j))) (hok : ringCode f n ≠ 0) :
    Calls Try.prog 6 #[.slice A1 n cap1, .int .u8 k] w fun e w' => e = .returned (.bool true) ∧ Below w.heap.size w w' := by
  obtain ⟨iB, hiB, hzB0, hzB1, hzB2⟩ := info_parts infoBoolB
  have HR1 := Lib.hid hr1
  have HOK := Lib.hid hok
  have HRR := Lib.hid (show (ringCode f n == 0) = false from beq_eq_false_iff_ne.2 hok)
  clear hr1 hok
  go_enter Try.func6, Try.ntmps6
  go_wp2_with (at_make; refine wpList_mk1 rfl (.tmp 17) (.tmp 17) _ rfl 4 iB _ 1 Try.underlying30 hiB hzB0 hzB1 hzB2 rfl .i64 .i64 n rfl rfl (by omega) (by unfold maxLen; omega) w.heap.size _ rfl (Nat.le_refl _) ?_
               intro w2 ho2 he2
               have HL2 : Hid (Lay w w2 [arr w.heap.size 4 n (fun j => .bool (decide (j < 0)))]) := Lib.hid (by rw [he2]; exact (Lay.nil w).make (.bool false) rfl n (by unfold maxLen; omega) _ _ (fun j _ => by simp) _ rfl)
               clear ho2 he2)
  generalize w.heap.size = ga at HL2 ⊢
  go_loopw [7] (fun iv wr => ∃ i : Nat, i ≤ n ∧ iv = .int .i64 (i : Nat) ∧ Hid (Lay w wr [arr ga 4 n (fun j => .bool (decide (j < i)))])) (fun iv _ => n - (intOf iv).toNat)
  case atStart => exact ⟨0, by omega, rfl, HL2⟩
  case round =>
    clear HL2
    obtain ⟨i, hi, rfl, HL⟩ := hrel
    by_cases hlt : i < n
    · have c0 := HL.out.cell1 0 rfl hlt
      have f0 := HL.out.frz 0 rfl (by omega) i
      have HL3 : Hid (Lay w (wr.setCell ⟨ga, i, none⟩ (.bool true)) [arr ga 4 n (fun j => .bool (decide (j < i + 1)))]) := Lib.hid (HL.out.set 0 (fun j => .bool (decide (j < i + 1))) rfl (show i < n * 1 by omega) (by simp) (fun j hj hne => by
        show Value.bool (decide (j < i + 1)) = Value.bool (decide (j < i))
        congr 1
        rw [decide_eq_decide]; omega))
      go_wp2
      go_roundw
      case rel => exact ⟨i + 1, by omega, by go_num, HL3⟩
      case measure => simp [intOf]; omega
    · obtain rfl : i = n := by omega
      go_wp2_with fail
      refine (lead_bad A1 (some ⟨ga, 0, none⟩) i i cap1 i wr.heap.size f (fun j => decide (j < i)) wr hc1 (by unfold maxLen; omega) (Nat.le_refl _) (by unfold maxLen; omega) ((HR1.out.below HL.out.bel).more HL.out.bel.size) (HL.out.rd1 0 rfl) (fun h => HOK.out h.1)).mono ?_
      rintro e w1 ⟨c, hc, rfl, rfl⟩
      have ec : (c != 0) = true := bne_iff_ne.2 hc
      go_wp2_with (first
        | (go_at_call 8; refine (ringed_any false A1 i cap1 w.heap.size f wr (by unfold maxLen; omega) (HR1.out.below HL.out.bel) HRR.out).mono ?_; rintro e w2 ⟨rfl, hs2⟩; have HL2 := Lib.hid (HL.out.sim hs2); clear hs2)
        | fail)
      go_ret
      exact ⟨rfl, HL2.out.bel⟩
theorem ringMany_all (A1 : Option Addr) (n cap1 : Nat) (f : Nat → Int) (k : Int) (w : World) (hm : n ≤ cap1 ∧ cap1 * 8 ≤ 140737488351232) (_ : ∀ j, j < n → (Lit.int .i64 (f j)).wf = true) (hr1 : Rd w w.heap.size A1 n (fun j => .int .i64 (f j))) (hk : (Lit.int .u8 k).wf = true) :
    Calls Try.prog 6 #[.slice A1 n cap1, .int .u8 k] w fun e w' => e = .returned (.bool true) ∧ Below w.heap.size w w' := by
  by_cases h : ringCode f n = 0
  · obtain ⟨k, rfl, hk2⟩ := u8_nat hk
    exact ringMany_good A1 n cap1 k f w hm.1 (by unfold maxLen; omega) hk2 hr1 (ringCode_zero.1 h)
  · exact ringMany_bad A1 n cap1 k f w hm.1 hm.2 hr1 h
end Go.Proofs.Ytelenomccmnkfaa
