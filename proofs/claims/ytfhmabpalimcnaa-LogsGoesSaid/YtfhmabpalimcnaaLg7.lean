/- The walk of logs' 'commit'. -/
import Derived.Test.YtfhmabpalimcnaaLg5
import Derived.Test.YtfhmabpalimcnaaPhase
set_option linter.unusedVariables false
set_option linter.unusedSimpArgs false
namespace Go.Proofs.Ytfhmabpalimcnaa
open Go.RowKit

theorem cast_beq {x y : Nat} {b : Bool} (h : (x == y) = b) : (((x : Nat) : Int) == ((y : Nat) : Int)) = b := by
  rw [← h, Bool.eq_iff_iff, beq_iff_eq, beq_iff_eq]; omega
theorem findL_stop {n i k : Nat} {s : LS} (h : k ≤ s.su i) : findL n i s k = none := by
  cases k with
  | zero => rfl
  | succ k => unfold findL; rw [if_pos h]
theorem findL_go {n i k : Nat} {s : LS} (h : s.su i < k + 1) (ho : okL n i s (k + 1) = false) : findL n i s (k + 1) = findL n i s k := by
  conv => lhs; unfold findL
  rw [if_neg (by omega), ho]; rfl
theorem findL_yes {n i k : Nat} {s : LS} (h : s.su i < k + 1) (ho : okL n i s (k + 1) = true) : findL n i s (k + 1) = some (k + 1) := by
  conv => lhs; unfold findL
  rw [if_neg (by omega), ho]; rfl
section
variable (gg g gl lo n : Nat) (s : LS) (A : Option Addr) (cap : Nat) (a : LA) (R : List LRow) (w0 w : World)
set_option maxRecDepth 100000 in
set_option maxHeartbeats 2000000 in
theorem commitL_any (i : Nat) (hi : i < n) (hn : n ≤ 6) (hB : LB n 100 s) (hd : LdOk n a s) (h : Lay w0 w (rowsG gg g gl lo n s A cap a R)) :
    Calls Try.prog 23 #[.pointer (some ⟨gg, 0, none⟩), .int .i64 i] w fun e w' => e = .returned (.int .i64 (commitL n i s).1) ∧ LdOk n a (commitL n i s).2 ∧ Lay w0 w' (rowsG gg g gl lo n (commitL n i s).2 A cap a R) := by
  have H := Lib.hid h; clear h
  obtain ⟨r, hr⟩ : ∃ r, r = commitL n i s := ⟨_, rfl⟩
  rw [← hr]
  unfold commitL at hr
  have HR := Lib.hid hr
  clear hr
  obtain ⟨d0, d1⟩ := lg_heads H.out
  by_cases hR : s.e.R i = 2
  case neg =>
    have HR2 := Lib.hid (HR.out.trans (if_pos hR))
    have e1 : (s.e.R i != 2) = true := by simpa using hR
    clear HR
    go_enter Try.func23, Try.ntmps23
    go_wp2_with fail
    refine (role_any g gl n s.e A cap _ w0 _ i hi _ rfl H.out).mono ?_
    rintro e w1 ⟨rfl, h1⟩
    have H1 : Hid (Lay w0 w1 (rowsG gg g gl lo n s A cap a R)) := Lib.hid h1
    clear h1 H
    go_wp2
    go_ret
    have e9 := HR2.out
    subst e9
    exact ⟨rfl, hd, H1.out⟩
  have HR2 := Lib.hid (HR.out.trans (if_neg (by simpa using hR)))
  obtain ⟨hhn, hnn⟩ := hd i (hB.ld i hR).1
  have HHN := Lib.hid (And.intro hhn hnn)
  have HHA := Lib.hid hB.ha
  have hl := hB.len i
  have hsu := hB.su i
  clear HR hhn hnn
  go_enter Try.func23, Try.ntmps23
  go_wp2_with fail
  refine (role_any g gl n s.e A cap _ w0 _ i hi 2 hR H.out).mono ?_
  rintro e w1 ⟨rfl, h1⟩
  have H1 : Hid (Lay w0 w1 (rowsG gg g gl lo n s A cap a R)) := Lib.hid h1
  clear h1 H d0 d1 hR
  obtain ⟨L, hL⟩ : ∃ L, (s.lg i).length = L := ⟨_, rfl⟩
  obtain ⟨u, hu⟩ : ∃ u, s.su i = u := ⟨_, rfl⟩
  rw [hL] at hl HR2
  rw [hu] at hsu
  have HN := Lib.hid (And.intro hL hu)
  clear hL hu hB
  obtain ⟨d0, d1⟩ := lg_heads H1.out
  obtain ⟨c0, c1, -, -⟩ := lg_cells H1.out (i := i) hi
  rw [HN.out.1] at c0
  rw [HN.out.2] at c1
  go_wp2
  clear c0 c1 d0 d1
  go_loopw [6] (fun x wr => ∃ k : Nat, k ≤ L ∧ x = .int .i64 k ∧ Hid (findL n i s L = findL n i s k) ∧ Hid (Lay w0 wr (rowsG gg g gl lo n s A cap a R))) (fun x _ => (intOf x).toNat)
  case atStart => exact ⟨L, Nat.le_refl _, rfl, Lib.hid rfl, H1⟩
  case round =>
    clear H1
    obtain ⟨k, hk, rfl, HF, HQ⟩ := hrel
    obtain ⟨d0, d1⟩ := lg_heads HQ.out
    obtain ⟨c0, c1, c2, -⟩ := lg_cells HQ.out (i := i) hi
    rw [HN.out.1] at c0
    rw [HN.out.2] at c1
    obtain ⟨bh, bn, hbh, hbn, -, -, hcell⟩ := lg_hn HQ.out hi HHN.out.1 HHN.out.2
    rw [hbh, HHN.out.1] at c2
    have HBH := Lib.hid hbh
    clear hbh hbn hcell
    by_cases hgo : u < k
    case neg =>
      have HF2 := Lib.hid (HF.out.trans (findL_stop (by rw [HN.out.2]; omega)))
      have h3 := HR2.out
      rw [HF2.out] at h3
      have HR3 := Lib.hid h3
      clear HR2 HF h3
      go_wp2
      go_ret
      have e9 := HR3.out
      subst e9
      exact ⟨rfl, hd, HQ.out⟩
    obtain ⟨k, rfl⟩ : ∃ k', k = k' + 1 := ⟨k - 1, by omega⟩
    go_wp2
    obtain ⟨w6, hw6⟩ : ∃ w6, w6 = wr := ⟨_, rfl⟩
    subst hw6
    go_loopw [7, 41] (fun x y wr => ∃ j : Nat, j ≤ n ∧ x = .int .i64 ((1 + cntL (fun p => decide (p ≠ i) && decide (k + 1 ≤ s.ha i p)) j : Nat)) ∧ y = .int .i64 j ∧ Hid (Lay w0 wr (rowsG gg g gl lo n s A cap a R))) (fun _ y _ => n - (intOf y).toNat)
    case atStart => exact ⟨0, by omega, rfl, rfl, HQ⟩
    case round =>
      clear HQ c0 c1 c2 d0 d1
      obtain ⟨j, hj, rfl, rfl, HQ⟩ := hrel
      by_cases hlt : j < n
      · obtain ⟨bh', bn', hbh', -, -, -, hcell⟩ := lg_hn HQ.out hi HHN.out.1 HHN.out.2
        obtain rfl : bh = bh' := by
          have := HBH.out.symm.trans hbh'
          injection this with this; injection this
        obtain ⟨x0, -, -, -⟩ := hcell j hlt
        clear hcell hbh'
        have hcj : cntL (fun p => decide (p ≠ i) && decide (k + 1 ≤ s.ha i p)) j ≤ j := cntL_le _ _
        have HC := Lib.hid (show cntL (fun p => decide (p ≠ i) && decide (k + 1 ≤ s.ha i p)) (j + 1) = cntL (fun p => decide (p ≠ i) && decide (k + 1 ≤ s.ha i p)) j + if (decide (j ≠ i) && decide (k + 1 ≤ s.ha i j)) then 1 else 0 from rfl)
        generalize cntL (fun p => decide (p ≠ i) && decide (k + 1 ≤ s.ha i p)) j = m at hcj HC ⊢
        generalize s.ha i j = v at x0 HC
        by_cases hji : j = i
        · have HC2 := Lib.hid (HC.out.trans (by rw [decide_eq_false (by simpa using hji), Bool.false_and] <;> rfl))
          have e1 : ((j : Int) != (i : Int)) = false := by simp; omega
          clear HC hji
          go_wp2
          go_roundw
          case rel => exact ⟨j + 1, by omega, by rw [HC2.out] <;> go_num, by go_num, HQ⟩
          case measure => first | (simp [intOf]; done) | (simp [intOf]; omega)
        · have e1 : ((j : Int) != (i : Int)) = true := by simp; omega
          by_cases hkv : k + 1 ≤ v
          · have HC2 := Lib.hid (HC.out.trans (by rw [decide_eq_true hji, decide_eq_true hkv] <;> rfl))
            clear HC hji
            go_wp2
            go_roundw
            case rel => exact ⟨j + 1, by omega, by rw [HC2.out] <;> go_num, by go_num, HQ⟩
            case measure => first | (simp [intOf]; done) | (simp [intOf]; omega)
          · have HC2 := Lib.hid (HC.out.trans (by rw [decide_eq_true hji, decide_eq_false hkv] <;> rfl))
            clear HC hji
            go_wp2
            go_roundw
            case rel => exact ⟨j + 1, by omega, by rw [HC2.out] <;> go_num, by go_num, HQ⟩
            case measure => first | (simp [intOf]; done) | (simp [intOf]; omega)
      · obtain rfl : j = n := by omega
        have hcj : cntL (fun p => decide (p ≠ i) && decide (k + 1 ≤ s.ha i p)) j ≤ j := cntL_le _ _
        have HOK := Lib.hid (show okL j i s (k + 1) = (decide (j < 2 * (1 + cntL (fun p => decide (p ≠ i) && decide (k + 1 ≤ s.ha i p)) j)) && (trm (s.lg i) k == s.e.T i)) from rfl)
        generalize cntL (fun p => decide (p ≠ i) && decide (k + 1 ≤ s.ha i p)) j = m at hcj HOK ⊢
        obtain ⟨d0, d1⟩ := lg_heads HQ.out
        obtain ⟨c0, c1, -, -⟩ := lg_cells HQ.out (i := i) hi
        rw [HN.out.1] at c0
        rw [HN.out.2] at c1
        obtain ⟨b1, hb1, -, y0, -⟩ := lg_ent HQ.out hi (k := k) (by rw [HN.out.1]; omega)
        rw [hb1] at c0
        have HB1 := Lib.hid hb1
        clear hb1
        have fz := lg_frz HQ.out (by omega) (i * 4 + 1)
        have HSS := Lib.hid (fun x => lg_suset (x := x) HQ.out ‹i < j›)
        by_cases hm : j < 2 * (1 + m)
        · obtain ⟨f, hf⟩ : ∃ f, (trm (s.lg i) k == s.e.T i) = f := ⟨_, rfl⟩
          have hok := HOK.out
          rw [decide_eq_true hm, Bool.true_and, hf] at hok
          have HOK2 := Lib.hid hok
          have hf' := cast_beq hf
          clear hok HOK hf
          obtain ⟨t0, ht0⟩ : ∃ t0, trm (s.lg i) k = t0 := ⟨_, rfl⟩
          rw [ht0] at y0 hf'
          have HT0 := Lib.hid ht0
          clear ht0
          go_wp2
          refine wp_phase (fun W => (W.cell? ⟨gg, 0, none⟩ = some (.pointer (some ⟨g, 0, none⟩)) ∧ W.cell? ⟨gg, 1, none⟩ = some (.slice (some ⟨lo, 0, none⟩) j j)) ∧ W.cell? ⟨lo, i * 4, none⟩ = some (.slice (some ⟨b1, 0, none⟩) L (a.c i)) ∧ W.cell? ⟨b1, k * 2, none⟩ = some (.int .i64 (t0 : Nat))) [true, true, true, true, true, true, true, true, true, true, true, true, true, true, true, true, true, true, true, true, true, true, true, false] ?A1 (by kernel_rfl) (by decide) (by kernel_rfl) (by repeat' (first | (with_reducible apply tame_then) | (with_reducible apply tame_block) | (with_reducible apply tame_scope) | exact tame_gives | exact tame_body (fun _ _ h => ⟨_, h.1⟩))) ⟨⟨d0, d1⟩, c0, y0⟩ ?head1 ?tail1
          case head1 =>
            intro W5 ⟨⟨s0, s1⟩, s2, s3⟩
            simp only [pick]
            go_wp2
            exact taken
          case tail1 =>
            simp only [pick, List.map_cons, List.map_nil, Bool.not_true, Bool.not_false]; refine chain_step ?_
            go_wp2_with fail
            refine (term_any g gl j s.e A cap _ w0 _ i hi HQ.out.drew).mono ?_
            rintro e w7 ⟨rfl, h7⟩
            have H7 : Hid (Lay w0 w7 (rowsG gg g gl lo j s A cap a R)) := Lib.hid h7
            clear h7 HQ HSS d0 d1 c0 c1 y0 fz
            obtain ⟨d0, d1⟩ := lg_heads H7.out
            obtain ⟨c0, c1, -, -⟩ := lg_cells H7.out (i := i) hi
            rw [HN.out.1, HB1.out] at c0
            rw [HN.out.2] at c1
            obtain ⟨b1', hb1, -, y0, -⟩ := lg_ent H7.out hi (k := k) (by rw [HN.out.1]; omega)
            obtain rfl : b1 = b1' := by
              have := HB1.out.symm.trans hb1
              injection this with this; injection this
            rw [HT0.out] at y0
            have fz := lg_frz H7.out (by omega) (i * 4 + 1)
            have HSS := Lib.hid (fun x => lg_suset (x := x) H7.out ‹i < j›)
            clear hb1
            go_wp2
            refine holds ⟨⟨d0, d1⟩, c0, y0⟩ ?_
            cases f
            · have HF2 := Lib.hid (HF.out.trans (findL_go (by rw [HN.out.2]; exact hgo) HOK2.out))
              clear HF
              refine chain_end ?_; simp only [List.length_cons, List.length_nil, Nat.zero_add, Nat.reduceAdd, List.drop_succ_cons, List.drop_zero]; go_wp2; refine headed ?_; go_wp2_with fail
              go_wp2
              go_roundw
              case rel => exact ⟨k, by omega, by go_num, HF2, H7.out.sim ⟨rfl, rfl, rfl, rfl⟩⟩
              case measure => simp [intOf]
            · have HF2 := Lib.hid (HF.out.trans (findL_yes (by rw [HN.out.2]; exact hgo) HOK2.out))
              have h3 := HR2.out
              rw [HF2.out] at h3
              have HR3 := Lib.hid h3
              clear HR2 HF h3
              refine chain_end ?_; simp only [List.length_cons, List.length_nil, Nat.zero_add, Nat.reduceAdd, List.drop_succ_cons, List.drop_zero]; go_wp2; refine headed ?_; go_wp2_with fail
              go_wp2
              go_ret
              have e9 := HR3.out
              subst e9
              exact ⟨rfl, hd, (HSS.out (k + 1)).sim ⟨rfl, rfl, rfl, rfl⟩⟩
        · have hok := HOK.out
          rw [decide_eq_false hm, Bool.false_and] at hok
          have HF2 := Lib.hid (HF.out.trans (findL_go (by rw [HN.out.2]; exact hgo) hok))
          clear hok HOK HF
          go_wp2
          refine wp_phase (fun W => (W.cell? ⟨gg, 0, none⟩ = some (.pointer (some ⟨g, 0, none⟩)) ∧ W.cell? ⟨gg, 1, none⟩ = some (.slice (some ⟨lo, 0, none⟩) j j))) [true, true, true, true, true, true, true, true, true, true, true, true, true, true, true, true, true, true, true, true, true, true, true, false] ?A2 (by kernel_rfl) (by decide) (by kernel_rfl) (by repeat' (first | (with_reducible apply tame_then) | (with_reducible apply tame_block) | (with_reducible apply tame_scope) | exact tame_gives | exact tame_body (fun _ _ h => ⟨_, h.1⟩))) ⟨d0, d1⟩ ?head2 ?tail2
          case head2 =>
            intro W5 ⟨s0, s1⟩
            simp only [pick]
            go_wp2
            exact taken
          case tail2 =>
            simp only [pick, List.map_cons, List.map_nil, Bool.not_true, Bool.not_false]; refine chain_step ?_
            go_wp2
            refine holds ⟨d0, d1⟩ ?_
            refine chain_end ?_; simp only [List.length_cons, List.length_nil, Nat.zero_add, Nat.reduceAdd, List.drop_succ_cons, List.drop_zero]; go_wp2; refine headed ?_; go_wp2_with fail
            go_wp2
            go_roundw
            case rel => exact ⟨k, by omega, by go_num, HF2, HQ.out.sim ⟨rfl, rfl, rfl, rfl⟩⟩
            case measure => simp [intOf]
end
end Go.Proofs.Ytfhmabpalimcnaa
