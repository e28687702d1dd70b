/- The law CopiesGo, walked. -/
import Derived.Test.YtoakgoigamigjaaCopiesMost
import Derived.Test.YtoakgoigamigjaaCoGo
import Derived.Test.YtoakgoigamigjaaBit
set_option linter.unusedVariables false
set_option linter.unusedSimpArgs false
namespace Go.Proofs.Ytoakgoigamigjaa
open Go.RowKit

set_option maxRecDepth 100000 in
set_option maxHeartbeats 6400000 in
theorem copiesGo_go (n fa v : Nat) (w : World) (hn1 : 1 ≤ n) (hn : n ≤ 6) (hfa : fa < 4294967296) (hv : v < 256) :
    Calls Try.prog 5 #[.int .i64 n, .int .u32 fa, .int .u8 v] w fun e w' => e = .returned (.bool true) ∧ Below w.heap.size w w' := by
  have HFA := Lib.hid hfa; clear hfa
  go_enter Try.func5, Try.ntmps5
  go_wp2
  go_loopw [9, 10, 11] (fun l c i wr => ∃ (j q k : Nat) (A' : Option Addr) (cap' : Nat) (M' : Mv) (F : Nat), i = .int .i64 (j : Nat) ∧ c = .int .i64 (k : Nat) ∧ l = .slice A' q cap' ∧ j ≤ n ∧ q ≤ j ∧ k ≤ j ∧ Hid (Lay w wr [mvs A' q cap' M']) ∧ Hid (Fld F (coE n M' q)) ∧ Hid (F < 2 ^ j ∧ pop F = k ∧ 2 * k < n)) (fun _ _ i _ => n - (intOf i).toNat)
  case atStart => exact ⟨0, 0, 0, none, 0, Z0, 0, rfl, rfl, rfl, by omega, by omega, by omega, (Lay.nil w).lnil _ 4 (mvF Z0), Lib.hid rfl, Lib.hid ⟨by decide, pop_zero, by omega⟩⟩
  case round =>
    obtain ⟨j, q, k, A1, cap1, M1, F, rfl, rfl, rfl, hj, hq, hk, HL, HG, HF⟩ := hrel
    have hz := HL.out.size
    by_cases hjn : j < n
    · cases hb : fa.testBit j
      · have HB := Lib.hid ((bitB_nat fa j).trans hb)
        clear hb
        go_wp2_with (first | (go_at_call 9; refine (bit_is _ _ _ _ HFA.out HB.out).mono ?_; rintro e w' ⟨rfl, rfl⟩) | fail)
        go_roundw
        case rel => exact ⟨j + 1, q, k, A1, cap1, M1, F, by go_num, rfl, rfl, by omega, by omega, by omega, HL, HG, Lib.hid ⟨Nat.lt_of_lt_of_le HF.out.1 (Nat.pow_le_pow_right (by omega) (by omega)), HF.out.2⟩⟩
        case measure => simp [intOf]; omega
      · have HB := Lib.hid ((bitB_nat fa j).trans hb)
        clear hb
        by_cases hk2 : 2 * (k + 1) < n
        · go_wp2_with (first
              | (go_at_call 9; refine (bit_is _ _ _ _ HFA.out HB.out).mono ?_; rintro e w' ⟨rfl, rfl⟩)
              | (at_builtin; refine wpList_apMv rfl (.tmp 49) (.tmp 52) rfl w.heap.size rfl wr.heap.size _ _ _ _ rfl rfl (HL.out.own 0 _ rfl) rfl (by omega) HL.out.size ?_; intro A2 c2 w2 ho2 hg2 ha2
                 have HL2 := Lib.hid ((HL.out.alloc _).app 0 rfl ho2 hg2 ha2)
                 clear ho2 hg2 ha2)
              | fail)
          have HG2 : Hid (Fld (F ||| 2 ^ j) (coE n (M1.push q 3 0 j 0) (q + 1))) := by
            show Fld _ _
            rw [coE_push]
            exact fld_fail hjn HF.out.1 HG.out
          have hp := fld_pop (i := j) (by omega) HF.out.1
          go_roundw
          case rel => exact ⟨j + 1, q + 1, k + 1, A2, c2, _, F ||| 2 ^ j, by go_num, by go_num, rfl, by omega, by omega, by omega, HL2, HG2, Lib.hid ⟨hp.1, by rw [hp.2, HF.out.2.1], hk2⟩⟩
          case measure => simp [intOf]; omega
        · go_wp2_with (first | (go_at_call 9; refine (bit_is _ _ _ _ HFA.out HB.out).mono ?_; rintro e w' ⟨rfl, rfl⟩) | fail)
          go_roundw
          case rel => exact ⟨j + 1, q, k, A1, cap1, M1, F, by go_num, rfl, rfl, by omega, by omega, by omega, HL, HG, Lib.hid ⟨Nat.lt_of_lt_of_le HF.out.1 (Nat.pow_le_pow_right (by omega) (by omega)), HF.out.2⟩⟩
          case measure => simp [intOf]; omega
    · obtain rfl : j = n := by omega
      have HF2 : Hid (2 * pop F < j) := by show 2 * pop F < j; rw [HF.out.2.1]; exact HF.out.2.2
      have HF1 := Lib.hid HF.out.1
      have HR : Hid (Rest j F v 0 (coE j M1 q)) := fld_rest HG.out
      clear HG HF
      go_upto_region 13 with (fail)
      have HL2 : Hid (Lay w (wr.alloc (.cells #[.int .i64 (v : Nat), .int .i64 (-1)] 3)) [mvs A1 q cap1 M1, blk wr.heap.size 3 2 (ofL [.int .i64 (v : Nat), .int .i64 (-1)])]) := (HL.out.newB [.int .i64 (v : Nat), .int .i64 (-1)] 3 2 rfl _ rfl).perm [1, 0] (by decide) rfl
      clear HL hz
      generalize wr.heap.size = gv at HL2 ⊢
      go_loopw [9, 58] (fun l i wr => ∃ (r q : Nat) (A' : Option Addr) (cap' : Nat) (M' : Mv), i = .int .i64 (r : Nat) ∧ l = .slice A' q cap' ∧ r ≤ 2 ∧ q ≤ 6 + r * 19 ∧ Hid (Lay w wr [mvs A' q cap' M', blk gv 3 2 (ofL [.int .i64 (v : Nat), .int .i64 (-1)])]) ∧ Hid (Rest j F v r (coE j M' q))) (fun _ i _ => 2 - (intOf i).toNat)
      case atStart => exact ⟨0, q, A1, cap1, M1, rfl, rfl, by omega, by omega, HL2, HR⟩
      case round =>
        clear HL2 HR
        obtain ⟨r, q, A1, cap1, M1, rfl, rfl, hr2, hq, HL, HR⟩ := hrel
        have hz := HL.out.size
        by_cases hrN : r < 2
        · obtain ⟨u, hu, b0⟩ : ∃ u : Int, (u = if r = 0 then (v : Int) else -1) ∧ wr.cell? ⟨gv, r, none⟩ = some (.int .i64 u) := by
            have hb := HL.out.cellB 1 rfl r (by omega)
            rcases (by omega : r = 0 ∨ r = 1) with rfl | rfl
            · exact ⟨v, rfl, hb⟩
            · exact ⟨-1, rfl, hb⟩
          have HU := Lib.hid hu
          clear hu
          go_wp2_with (at_builtin; refine wpList_apMv rfl (.tmp 62) (.tmp 65) rfl w.heap.size rfl wr.heap.size _ _ _ _ rfl rfl (HL.out.own 0 _ rfl) rfl (by omega) HL.out.size ?_; intro A2 c2 w2 ho2 hg2 ha2
                       have HL2 := Lib.hid ((HL.out.alloc _).app 0 rfl ho2 hg2 ha2)
                       clear ho2 hg2 ha2)
          have HG2 : Hid (Inn j F v r 0 0 (coE j (M1.push q 1 0 0 u) (q + 1))) := by
            show Inn _ _ _ _ _ _ _
            rw [coE_push]
            exact inn_open (by omega) hrN HU.out HR.out
          clear HL HR hz b0
          go_loopw [9, 14] (fun l i wr => ∃ (p q2 : Nat) (A' : Option Addr) (cap' : Nat) (M' : Mv), i = .int .i64 (p : Nat) ∧ l = .slice A' q2 cap' ∧ p ≤ 2 ∧ q2 ≤ q + 1 + p * 6 ∧ Hid (Lay w wr [mvs A' q2 cap' M', blk gv 3 2 (ofL [.int .i64 (v : Nat), .int .i64 (-1)])]) ∧ Hid (Inn j F v r p 0 (coE j M' q2))) (fun _ i _ => 2 - (intOf i).toNat)
          case atStart => exact ⟨0, q + 1, A2, c2, _, rfl, rfl, by omega, by omega, HL2, HG2⟩
          case round =>
            clear HL2 HG2
            obtain ⟨p, q2, A1, cap1, M1, rfl, rfl, hp2, hq2, HL, HG⟩ := hrel
            by_cases hpN : p < 2
            · go_wp2
              go_loopw [9, 15] (fun l i wr => ∃ (t q3 : Nat) (A' : Option Addr) (cap' : Nat) (M' : Mv), i = .int .i64 (t : Nat) ∧ l = .slice A' q3 cap' ∧ t ≤ j ∧ q3 ≤ q2 + t ∧ Hid (Lay w wr [mvs A' q3 cap' M', blk gv 3 2 (ofL [.int .i64 (v : Nat), .int .i64 (-1)])]) ∧ Hid (Inn j F v r p t (coE j M' q3))) (fun _ i _ => j - (intOf i).toNat)
              case atStart => exact ⟨0, q2, A1, cap1, M1, rfl, rfl, by omega, by omega, HL, HG⟩
              case round =>
                clear HL HG
                obtain ⟨t, q3, A1, cap1, M1, rfl, rfl, ht, hq3, HL, HG⟩ := hrel
                have hz := HL.out.size
                by_cases htn : t < j
                · go_wp2_with (at_builtin; refine wpList_apMv rfl (.tmp 76) (.tmp 79) rfl w.heap.size rfl wr.heap.size _ _ _ _ rfl rfl (HL.out.own 0 _ rfl) rfl (by omega) HL.out.size ?_; intro A2 c2 w2 ho2 hg2 ha2
                               have HL2 := Lib.hid ((HL.out.alloc _).app 0 rfl ho2 hg2 ha2)
                               clear ho2 hg2 ha2)
                  have HG2 : Hid (Inn j F v r p (t + 1) (coE j (M1.push q3 2 0 t 0) (q3 + 1))) := by
                    show Inn _ _ _ _ _ _ _
                    rw [coE_push]
                    exact inn_reach (by omega) hrN htn HG.out
                  go_roundw
                  case rel => exact ⟨t + 1, by omega, q3 + 1, A2, c2, ⟨rfl, rfl, rfl⟩, by omega, by omega, _, HL2, HG2⟩
                  case measure => simp [intOf]; omega
                · obtain rfl : t = j := by omega
                  have HG2 := Lib.hid (inn_end (by omega) HF1.out HF2.out HG.out)
                  go_wp2
                  go_roundw
                  case rel => exact ⟨p + 1, q3, A1, cap1, M1, by go_num, rfl, by omega, by omega, HL, HG2⟩
                  case measure => simp [intOf]; omega
            · obtain rfl : p = 2 := by omega
              go_wp2
              go_loopw [9, 16] (fun l i wr => ∃ (t q3 : Nat) (A' : Option Addr) (cap' : Nat) (M' : Mv), i = .int .i64 (t : Nat) ∧ l = .slice A' q3 cap' ∧ t ≤ j ∧ q3 ≤ q2 + t ∧ Hid (Lay w wr [mvs A' q3 cap' M', blk gv 3 2 (ofL [.int .i64 (v : Nat), .int .i64 (-1)])]) ∧ Hid (Inn j F v r 2 t (coE j M' q3))) (fun _ i _ => j - (intOf i).toNat)
              case atStart => exact ⟨0, q2, A1, cap1, M1, rfl, rfl, by omega, by omega, HL, HG⟩
              case round =>
                clear HL HG
                obtain ⟨t, q3, A1, cap1, M1, rfl, rfl, ht, hq3, HL, HG⟩ := hrel
                have hz := HL.out.size
                by_cases htn : t < j
                · go_wp2_with (at_builtin; refine wpList_apMv rfl (.tmp 86) (.tmp 89) rfl w.heap.size rfl wr.heap.size _ _ _ _ rfl rfl (HL.out.own 0 _ rfl) rfl (by omega) HL.out.size ?_; intro A2 c2 w2 ho2 hg2 ha2
                               have HL2 := Lib.hid ((HL.out.alloc _).app 0 rfl ho2 hg2 ha2)
                               clear ho2 hg2 ha2)
                  have HG2 : Hid (Inn j F v r 2 (t + 1) (coE j (M1.push q3 2 0 t 0) (q3 + 1))) := by
                    show Inn _ _ _ _ _ _ _
                    rw [coE_push]
                    exact inn_reach (by omega) hrN htn HG.out
                  go_roundw
                  case rel => exact ⟨t + 1, by omega, q3 + 1, A2, c2, ⟨rfl, rfl, rfl⟩, by omega, by omega, _, HL2, HG2⟩
                  case measure => simp [intOf]; omega
                · obtain rfl : t = j := by omega
                  have HG2 := Lib.hid (inn_rest HG.out)
                  go_wp2
                  go_roundw
                  case rel => exact ⟨r + 1, q3, A1, cap1, M1, by go_num, rfl, by omega, by omega, HL, HG2⟩
                  case measure => simp [intOf]; omega
        · obtain rfl : r = 2 := by omega
          go_wp2_with fail
          refine (co_good j q cap1 _ A1 M1 wr hn1 hn (by omega) (Nat.le_refl _) (HL.out.own 0 _ rfl).rd).mono ?_
          rintro e w4 ⟨v4, rfl, g, gl, b, AO, cO, AC, cC, AS, cS, AV, cV, rfl, hL4⟩
          have HL4 := Lib.hid (HL.out.join hL4)
          clear hL4
          obtain ⟨x1, x2, x3, x4, hops⟩ : ∃ b e b' e', (coE j M1 q).ops = [⟨0, b, e, true, v⟩, ⟨0, b', e', false, v⟩] := HR.out.ops
          obtain ⟨gO, rfl, -⟩ := (HL4.out.own 2 _ rfl).pos (by show 0 < (coE _ _ _).ops.length; rw [hops]; exact Nat.zero_lt_succ _)
          obtain ⟨_, _, _, o3, o4⟩ := co_op 2 HL4.out rfl (q := 0) (by rw [hops]; exact Nat.zero_lt_succ _) (o := ⟨0, x1, x2, true, v⟩) (by rw [hops]; rfl)
          obtain ⟨_, _, _, p3, p4⟩ := co_op 2 HL4.out rfl (q := 1) (by rw [hops]; exact Nat.lt_succ_self 1) (o := ⟨0, x3, x4, false, v⟩) (by rw [hops]; rfl)
          have hlen : (coE j M1 q).ops.length = 2 := by rw [hops]; rfl
          rw [hlen]
          clear hops HR HL hlen
          have hgO := (HL4.out.at_ 2 rfl).2
          simp only [Nat.zero_mul, Nat.one_mul, Nat.zero_add, Nat.reduceAdd] at o3 o4 p3 p4
          go_wp2
          go_ret
          exact ⟨ret_bool (by simp; first | done | omega), HL4.out.bel.alloc HL4.out.size _⟩
theorem copiesGo_all (n : Int) (fa v : Int) (w : World) (_ : (Lit.int .i64 n).wf = true) (hfa : (Lit.int .u32 fa).wf = true) (hk : (Lit.int .u8 v).wf = true) :
    Calls Try.prog 5 #[.int .i64 n, .int .u32 fa, .int .u8 v] w fun e w' => e = .returned (.bool true) ∧ Below w.heap.size w w' := by
  obtain ⟨v, rfl, hv⟩ := u8_nat hk
  obtain ⟨fa, rfl, hf⟩ := u32_nat hfa
  by_cases h : n < 1 ∨ 6 < n
  · have HB : Hid (playedB n (0 : Nat) = false) := by
      show playedB n (0 : Nat) = false
      cases hb : playedB n (0 : Nat)
      · rfl
      · have := playedB_iff.1 hb; omega
    go_enter Try.func5, Try.ntmps5
    rcases h with h | h
    · go_wp2_with fail
      refine (co_bad' n 0 0 none w (by unfold maxLen; omega) HB.out).mono ?_
      rintro e w1 ⟨rfl, hb1⟩
      have HB1 := Lib.hid hb1; clear hb1
      go_wp2
      go_ret
      exact ⟨rfl, HB1.out.alloc HB1.out.size _⟩
    · go_wp2_with fail
      refine (co_bad' n 0 0 none w (by unfold maxLen; omega) HB.out).mono ?_
      rintro e w1 ⟨rfl, hb1⟩
      have HB1 := Lib.hid hb1; clear hb1
      go_wp2
      go_ret
      exact ⟨rfl, HB1.out.alloc HB1.out.size _⟩
  · obtain ⟨n, rfl⟩ := Int.eq_ofNat_of_zero_le (show 0 ≤ n by omega)
    exact copiesGo_go n fa v w (by omega) (by omega) hf hv
end Go.Proofs.Ytoakgoigamigjaa
