/- The law EchoDone, walked. -/
import Derived.Test.YtcmbbioipbdonaaEcJoin
import Derived.Deep.QuietTactic
import Derived.BigQuiet
set_option linter.unusedVariables false
set_option linter.unusedSimpArgs false
namespace Go.Proofs.Ytcmbbioipbdonaa
open Go.RowKit

theorem bit_quiet (b : Bool) (a : Nat) (i : Int) (w : World) (n : Nat) (ha : a < 4294967296) (hb : bitB a i = b) :
    Calls Try.prog 10 #[.int .u32 a, .int .i64 i] (w.drewN n) fun e w'' => e = .returned (.bool b) ∧ ∃ m, w'' = w.drewN m :=
  Calls.quiet_of_same ((bit_is b a i (w.drewN n) ha hb).mono fun e w' ⟨h1, h2⟩ => ⟨h1, h2.symm⟩)
set_option maxRecDepth 100000 in
set_option maxHeartbeats 3200000 in
theorem echoDone_good (n st : Nat) (A AO : Option Addr) (m cap mo co : Nat) (p q : Nat → Nat) (o : Nat → Int) (w : World) (hm : m ≤ cap ∧ cap ≤ maxLen) (hmo : mo ≤ 60) (hr : Rd w w.heap.size A (m * 2) (recF2 (fun i => (p i : Nat)) (fun i => (q i : Nat)))) (hro : Rd w w.heap.size AO mo (fun j => .int .i64 (o j))) (h1 : 1 ≤ n) (hst : st < n) (hlk : LkP n m p q) :
    Calls Try.prog 4 #[.int .i64 (n : Nat), .slice A m cap, .int .i64 (st : Nat), .slice AO mo co] w fun e w' => e = .returned (.bool true) ∧ Below w.heap.size w w' := by
  obtain ⟨rc, dep, hEI⟩ := EI.all hlk hst o mo
  have HT := Lib.hid (hEI.doneI hlk (near_all o (ec1 p q m st) mo))
  clear hEI
  have HR := Lib.hid hr; clear hr
  have HRO := Lib.hid hro; clear hro
  have HM := Lib.hid hm; clear hm
  have HK := Lib.hid hlk
  have HOK := Lib.hid (lkOk_nat hlk h1 hst hmo)
  have h6 := hlk.h6
  have hm15 := hlk.hm
  have HJL := Lib.hid (jnN_lt (p := p) (q := q) (S := 2 ^ st) (m := m) (Nat.lt_of_lt_of_le (Nat.pow_lt_pow_right (by omega) (show st < 6 by omega)) (by decide)) (fun j hj => by have := hlk.at_ j hj; omega) n)
  clear hlk
  go_enter Try.func4, Try.ntmps4
  go_wp2_with fail
  refine (play_good n st A AO m cap mo co _ p q o w HM.out hmo (Nat.le_refl _) HR.out HRO.out h1 hst HK.out).mono ?_
  rintro e w4 ⟨v, rfl, AC, cC, gf, cf, rfl, hL4⟩
  obtain ⟨F, hF⟩ : ∃ F, F = upd (ecE (ec1 p q m st) o mo).frm st (-1) := ⟨_, rfl⟩
  rw [← hF] at hL4 HT
  clear hF
  generalize decide ((ecE (ec1 p q m st) o mo).wait st = 0) = bd at HT ⊢
  generalize (ecE (ec1 p q m st) o mo).sent = sn at HT ⊢
  have HL := Lib.hid ((hL4.newB [.slice AC mo cC, .slice (some ⟨gf, 0, none⟩) n cf, .bool bd, .int .i64 (sn : Nat)] 26 4 rfl _ rfl).perm (L' := [blk w4.heap.size 26 4 (ofL [.slice AC mo cC, .slice (some ⟨gf, 0, none⟩) n cf, .bool bd, .int .i64 (sn : Nat)]), ⟨some ⟨gf, 0, none⟩, 3, 1, n, cf, fun i => .int .i64 (F i)⟩]) [0, 2] (by decide) rfl)
  clear hL4
  go_wp2_with fail
  refine at_lay (F := fun W' => Calls _ _ _ W' _) HL.out ?_
  intro W hW
  have HW := Lib.hid hW
  clear hW HL
  generalize w4.heap.size = bo at HW ⊢
  refine (linked_yes (n : Nat) (st : Nat) A m cap mo _ _ W HM.out ((HR.out.below HW.out.bel).more HW.out.size) HOK.out).mono ?_
  rintro e w5 ⟨v, rfl, rfl, hb⟩
  have HX := Lib.hid (HW.out.keep hb)
  clear hb HW
  have c1 := HX.out.cellB 0 rfl 1 (by omega)
  simp only [ofL_1] at c1
  go_wp2_with fail
  clear c1
  refine (joined_any n st A m cap _ p q w5 hm15 h6 hst HK.out.at_ HX.out.size (HR.out.below HX.out.bel)).mono ?_
  rintro e w6 ⟨v, rfl, rfl, hb⟩
  have HY := Lib.hid (HX.out.keep hb)
  clear hb HX
  have hS := HJL.out
  generalize jnN p q m (2 ^ st) n = S at HT hS ⊢
  have HS : Hid (S < 4294967296) := Lib.hid (by omega)
  clear hS HJL
  go_wp2
  go_loopw [12, 48] (fun z i wr => ∃ k : Nat, k ≤ m ∧ i = .int .i64 (k : Nat) ∧ z = .int .i64 (ownL p S k : Nat) ∧ ownL p S k ≤ k ∧ Hid (Lay w wr [blk bo 26 4 (ofL [.slice AC mo cC, .slice (some ⟨gf, 0, none⟩) n cf, .bool bd, .int .i64 (sn : Nat)]), ⟨some ⟨gf, 0, none⟩, 3, 1, n, cf, fun i => .int .i64 (F i)⟩])) (fun _ i _ => m - (intOf i).toNat)
  case atStart => exact ⟨0, by omega, rfl, rfl, Nat.le_refl _, HY⟩
  case round =>
    clear HY
    obtain ⟨k, hk, rfl, rfl, hok, HX⟩ := hrel
    by_cases hkm : k < m
    · obtain ⟨ad, rfl, hbl, m0, m1⟩ := (HR.out.below HX.out.bel).rec2 hkm
      have hsz := HX.out.size
      have hbl2 : (ad.add (k * 2)).block < wr.heap.size := by rw [addr_block]; omega
      have hst2 : ownL p S (k + 1) = ownL p S k + if S.testBit (p k) then 1 else 0 := rfl
      have hbx := bitB_nat S (p k)
      generalize p k = x at m0 hst2 hbx
      cases hx : S.testBit x
      · rw [hx] at hbx hst2
        have HBX := Lib.hid hbx
        have HST := Lib.hid hst2
        clear hbx hx hst2
        go_wp2_with (first | (go_at_call 10; refine (bit_is false S (x : Nat) _ HS.out HBX.out).mono ?_; rintro e w3 ⟨rfl, rfl⟩) | fail)
        go_roundw
        case rel => exact ⟨k + 1, by omega, by go_num, by rw [HST.out]; rfl, by rw [HST.out]; simp; omega, HX.out.alloc _⟩
        case measure => simp [intOf]; omega
      · rw [hx] at hbx hst2
        have HBX := Lib.hid hbx
        have HST := Lib.hid hst2
        clear hbx hx hst2
        go_wp2_with (first | (go_at_call 10; refine (bit_is true S (x : Nat) _ HS.out HBX.out).mono ?_; rintro e w3 ⟨rfl, rfl⟩) | fail)
        go_roundw
        case rel => exact ⟨k + 1, by omega, by go_num, by rw [HST.out]; go_num, by rw [HST.out]; simp; omega, HX.out.alloc _⟩
        case measure => simp [intOf]; omega
    · obtain rfl : m = k := by omega
      have hle := HT.out.le
      have hown := HT.out.own
      have heq := HT.out.eq
      have HBT := Lib.hid HT.out.bit
      generalize ownL p S m = ow at *
      clear HT
      have c2 := HX.out.cellB 0 rfl 2 (by omega)
      have c3 := HX.out.cellB 0 rfl 3 (by omega)
      simp only [ofL_2, ofL_3] at c2 c3
      cases bd
      · have hown := hown rfl
        clear heq
        go_wp2
        go_ret
        exact ⟨by first | rfl | exact ret_bool (by simp; omega), HX.out.bel⟩
      · have heq := heq rfl
        have HQ := Lib.hid heq
        have HBB := Lib.hid (HBT.out rfl)
        clear hown HBT heq
        go_wp2
        clear c2 c3
        go_loopw [15] (fun i wr => ∃ k : Nat, k ≤ n ∧ i = .int .i64 (k : Nat) ∧ Hid (Lay w wr [blk bo 26 4 (ofL [.slice AC mo cC, .slice (some ⟨gf, 0, none⟩) n cf, .bool true, .int .i64 (sn : Nat)]), ⟨some ⟨gf, 0, none⟩, 3, 1, n, cf, fun i => .int .i64 (F i)⟩])) (fun i _ => n - (intOf i).toNat)
        case atStart => exact ⟨0, by omega, rfl, HX⟩
        case round =>
          clear HX
          obtain ⟨k, hk, rfl, HX⟩ := hrel
          have c1 := HX.out.cellB 0 rfl 1 (by omega)
          have c3 := HX.out.cellB 0 rfl 3 (by omega)
          simp only [ofL_1, ofL_3] at c1 c3
          by_cases hkn : k < n
          · have rk := HX.out.cell1 1 rfl (j := k) hkn
            by_cases hks : k = st
            · subst hks
              go_wp2
              go_quiet (fail)
              go_wp2
              go_roundw
              case rel => exact ⟨k + 1, by omega, by go_num, HX.out.sim ⟨rfl, rfl, rfl, rfl⟩⟩
              case measure => simp [intOf]; omega
            · have hks1 : ((k : Int) == (st : Int)) = false := by rw [beq_eq_false_iff_ne]; omega
              have hks2 : (k == st) = false := by rw [beq_eq_false_iff_ne]; omega
              have hbk := HBB.out k hkn hks
              have hbx := bitB_nat S k
              have hks3 : ((k : Int) != (st : Int)) = true := by rw [bne, hks1]; rfl
              have hks4 : (k != st) = true := by rw [bne, hks2]; rfl
              clear hks
              generalize F k = x at rk hbk
              cases hx : S.testBit k
              · rw [hx] at hbx hbk
                have hneg : ¬ 0 ≤ x := fun h => by have := hbk.2 h; cases this
                have hdec : decide (0 ≤ x) = false := decide_eq_false hneg
                have HBX := Lib.hid hbx
                clear hbx hx hbk
                go_wp2
                go_quiet ((go_at_call 10; (with_reducible exact bit_quiet _ _ _ _ _ HS.out HBX.out)))
                go_wp2
                go_roundw
                case rel => exact ⟨k + 1, by omega, by go_num, HX.out.sim ⟨rfl, rfl, rfl, rfl⟩⟩
                case measure => simp [intOf]; omega
              · rw [hx] at hbx hbk
                have hneg : 0 ≤ x := hbk.1 rfl
                have hdec : decide (0 ≤ x) = true := decide_eq_true hneg
                have HBX := Lib.hid hbx
                clear hbx hx hbk
                go_wp2
                go_quiet ((go_at_call 10; (with_reducible exact bit_quiet _ _ _ _ _ HS.out HBX.out)))
                go_wp2
                go_roundw
                case rel => exact ⟨k + 1, by omega, by go_num, HX.out.sim ⟨rfl, rfl, rfl, rfl⟩⟩
                case measure => simp [intOf]; omega
          · obtain rfl : n = k := by omega
            have heq := HQ.out
            go_wp2
            go_ret
            exact ⟨by first | rfl | exact ret_bool (by simp; omega), HX.out.bel⟩
set_option maxRecDepth 100000 in
set_option maxHeartbeats 1600000 in
theorem echoDone_bad (n st : Int) (A AO : Option Addr) (m cap mo co : Nat) (p q : Nat → Int) (w : World) (hm : m ≤ cap ∧ cap ≤ maxLen) (hmo : mo ≤ maxLen) (hr : Rd w w.heap.size A (m * 2) (recF2 p q)) (hno : ¬ LkOk n m p q st mo) :
    Calls Try.prog 4 #[.int .i64 n, .slice A m cap, .int .i64 st, .slice AO mo co] w fun e w' => e = .returned (.bool true) ∧ Below w.heap.size w w' := by
  have HR := Lib.hid hr; clear hr
  have HM := Lib.hid hm; clear hm
  have HN := Lib.hid hno; clear hno
  have HMO := Lib.hid hmo
  unfold maxLen at hmo
  go_enter Try.func4, Try.ntmps4
  go_wp2_with fail
  refine (play_bad n st A AO m cap mo co _ p q w HM.out HMO.out (Nat.le_refl _) HR.out HN.out).mono ?_
  rintro e w4 ⟨v, rfl, ⟨c, rfl, hc⟩, hb⟩
  have HB := Lib.hid (hb.alloc hb.size (.cells #[.slice none 0 0, .slice none 0 0, .bool false, .int .i64 0] 26))
  clear hb
  go_wp2_with fail
  refine (linked_no n st A m cap mo _ _ _ HM.out HMO.out ((HR.out.below HB.out).more HB.out.size) HN.out).mono ?_
  rintro e w5 ⟨v, rfl, rfl, hb⟩
  have HX := Lib.hid (HB.out.trans (hb.mono HB.out.size))
  clear hb
  go_wp2
  go_ret
  exact ⟨ret_bool (show (c != 0) = true by rw [bne, hc]; rfl), HX.out⟩
theorem echoDone_all (n : Int) (A : Option Addr) (m cap : Nat) (p q : Nat → Int) (st : Int) (AO : Option Addr) (mo co : Nat) (o : Nat → Int) (w : World) (_ : (Lit.int .i64 n).wf = true) (hm : m ≤ cap ∧ cap ≤ maxLen) (hr : Rd w w.heap.size A (m * 2) (recF2 p q)) (_ : (Lit.int .i64 st).wf = true) (hmo : mo ≤ co ∧ co ≤ maxLen) (_ : ∀ j, j < mo → (Lit.int .i64 (o j)).wf = true) (hro : Rd w w.heap.size AO mo (fun j => .int .i64 (o j))) :
    Calls Try.prog 4 #[.int .i64 n, .slice A m cap, .int .i64 st, .slice AO mo co] w fun e w' => e = .returned (.bool true) ∧ Below w.heap.size w w' := by
  by_cases h : LkOk n m p q st mo
  · obtain ⟨n', st', p', q', rfl, rfl, h1, h2, h3, h4, h5⟩ := lk_nat h
    exact echoDone_good n' st' A AO m cap mo co p' q' o w hm h5 (rd_nat hr h2) hro h3 h4 h1
  · exact echoDone_bad n st A AO m cap mo co p q w hm (by omega) hr h
end Go.Proofs.Ytcmbbioipbdonaa
