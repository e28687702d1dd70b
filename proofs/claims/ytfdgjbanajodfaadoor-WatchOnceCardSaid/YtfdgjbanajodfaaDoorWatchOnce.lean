/- The law WatchOnce, walked. -/
import Derived.Test.YtfdgjbanajodfaaDoorWaLaw
import Derived.Test.YtfdgjbanajodfaaDoorInside
set_option linter.unusedVariables false
set_option linter.unusedSimpArgs false
namespace Go.Proofs.YtfdgjbanajodfaaDoor
open Go.RowKit

theorem miss5 {N : List (Nat × Str)} {gk nk x : Nat} {np dp : Str} (hx : N[gk]? = some (nk, np)) (h5 : ¬ np = dp) (h : N[gk]? = some (x, dp)) : False := by
  rw [hx] at h
  injection h with h
  exact h5 (congrArg Prod.snd h)
theorem miss4 {N : List (Nat × Str)} {gk nk : Nat} {np dp : Str} {kv dk : Int} (hx : N[gk]? = some (nk, np)) (h4 : ¬ (nk : Int) = kv) (hkd : kv = dk) (h1 : 1 ≤ dk) (h : N[gk]? = some (dk.toNat, dp)) : False := by
  rw [hx] at h
  injection h with h
  have h3 : nk = dk.toNat := congrArg Prod.fst h
  omega
theorem kindV (dk : Int) : ∃ kv : Int, ((1 ≤ dk ∧ dk ≤ 3) → kv = dk) ∧ (¬ (1 ≤ dk ∧ dk ≤ 3) → kv = 0) :=
  if h : 1 ≤ dk ∧ dk ≤ 3 then ⟨dk, fun _ => rfl, fun h2 => absurd h h2⟩ else ⟨0, fun h2 => absurd h2 h, fun _ => rfl⟩
set_option maxRecDepth 100000 in
set_option maxHeartbeats 3200000 in
theorem watchOnce_good (m cap : Nat) (A : Option Addr) (X : Nat → AskX) (who : Int) (w : World) (hm : m ≤ 60) (hD : ∀ i, i < m → DeedL (X i).deed) (hr : Rd w w.heap.size A (m * 6) (akF X)) :
    Calls Tryd.prog 3 #[.slice A m cap, .int .i64 who] w fun e w' => e = .returned (.bool true) ∧ Below w.heap.size w w' := by
  have HR := Lib.hid hr
  have HP := Lib.hid (wplay_law m cap w.heap.size A X w hm (Nat.le_refl _) hD hr)
  have HNT := Lib.hid (fun i => (wst_ok X m hD).nt i)
  have e0 : ((m : Int) != (m : Int)) = false := by simp
  clear hr hD
  go_enter Tryd.func3, Tryd.ntmps3
  go_upto_region 6 with (first
    | (go_at_call 9; refine HP.out.mono ?_; rintro e w1 ⟨AC, cC, NA, NC, gn, MA, MC, rfl, hb1, hW1⟩; have HB1 := Lib.hid hb1; have HWP := Lib.hid hW1; clear hb1 hW1)
    | fail)
  clear HP e0
  by_cases hw : 0 ≤ who ∧ who < 6
  · obtain ⟨wn, rfl⟩ : ∃ wn : Nat, who = wn := ⟨who.toNat, by omega⟩
    have hw6 : wn < 6 := by omega
    have hin : (decide (0 ≤ (wn : Int)) && decide ((wn : Int) < 6)) = true := by simp; omega
    have HIN := Lib.hid hin
    clear hw hin
    go_upto_region 8 with (first
      | (go_at_call 10; refine (inside1 true 6 wn w1 3 w1.heap.size rfl HIN.out).mono ?_; rintro e w2 ⟨rfl, hw2⟩; subst w2)
      | fail)
    have HB2 : Hid (Below w.heap.size w (w1.alloc (.cells #[.int .i64 (wn : Nat)] 3))) := Lib.hid (HB1.out.alloc HB1.out.size _)
    have HW2 := Lib.hid (HWP.out.to ((Below.refl w1.heap.size w1).alloc (Nat.le_refl _) (.cells #[.int .i64 (wn : Nat)] 3)))
    have HR2 := Lib.hid (HR.out.below HB2.out)
    have HSZ := Lib.hid HB2.out.size
    clear HB1 HWP HR HIN
    generalize w1.alloc (.cells #[.int .i64 (wn : Nat)] 3) = W2 at HB2 HW2 HR2 HSZ ⊢
    go_wp2
    go_loopw [8, 46] (fun s i wr => ∃ k : Nat, k ≤ m ∧ i = .int .i64 (k : Nat) ∧ s = .int .i64 (setN X wn k : Nat) ∧ Hid (Below W2.heap.size W2 wr)) (fun _ i _ => m - (intOf i).toNat)
    case atStart => exact ⟨0, by omega, rfl, rfl, Lib.hid (Below.refl _ _)⟩
    case round =>
      obtain ⟨k, hk, rfl, rfl, HQ⟩ := hrel
      have hsl := setN_le X wn k
      by_cases hlt : k < m
      · have HST := Lib.hid (show setN X wn (k + 1) = if (X k).who = wn ∧ (X k).watch = true ∧ (wans X k).code = 0 ∧ 4 ≤ (X k).deed.kind then setN X wn k + 1 else setN X wn k from rfl)
        obtain ⟨ad, rfl, hbl, m0, m1, m2, m3, m4, m5⟩ := (HR2.out.below (HQ.out.mono HSZ.out)).recA hlt
        clear hbl
        go_upto_region 12 with (fail)
        refine at_lay (F := fun W' => Code.wp _ _ _ _ W') ((Lay.nil wr).newB (cellsA (X k)) 32 6 rfl _ rfl) ?_
        intro W hW
        have HBW : Hid (Below W2.heap.size W2 W) := Lib.hid (HQ.out.trans (hW.bel.mono HQ.out.size))
        obtain ⟨ad2, rfl, -, c0, -, -, -⟩ := (HW2.out.pl.to HBW.out).rec4 hlt
        clear m0 m1 m2 m3 m4 m5 HQ
        generalize wr.heap.size = t10 at hW ⊢
        have x0 := hW.cellB 0 rfl 0 (by omega)
        have x1 := hW.cellB 0 rfl 1 (by omega)
        have x2 := hW.cellB 0 rfl 2 (by omega)
        simp only [cellsA, cellsD, List.cons_append, List.nil_append, ofL_0, ofL_1, ofL_2] at x0 x1 x2
        clear hW
        generalize (X k).who = yw at HST x0
        generalize (X k).watch = yb at HST x1
        generalize (X k).deed.kind = dk at HST x2
        generalize (wans X k).code = co at HST c0
        by_cases h1 : yw = wn
        · have b1 : (yw == (wn : Int)) = true := by simp [h1]
          cases yb
          · have HSN := Lib.hid (HST.out.trans (if_neg (fun h => absurd h.2.1 Bool.false_ne_true)))
            clear HST
            go_wp2
            go_roundw
            case rel => exact ⟨k + 1, by omega, by go_num, by rw [HSN.out], HBW⟩
            case measure => simp [intOf]; omega
          · by_cases h3 : co = 0
            · have b3 : (co == 0) = true := by simp [h3]
              by_cases h4 : 4 ≤ dk
              · have HSN := Lib.hid (HST.out.trans (if_pos ⟨h1, rfl, h3, h4⟩))
                clear HST h1 h3
                go_wp2
                go_roundw
                case rel => exact ⟨k + 1, by omega, by go_num, by rw [HSN.out]; go_num, HBW⟩
                case measure => simp [intOf]; omega
              · clear h3
                have HSN := Lib.hid (HST.out.trans (if_neg (fun h => h4 h.2.2.2)))
                clear HST
                go_wp2
                go_roundw
                case rel => exact ⟨k + 1, by omega, by go_num, by rw [HSN.out], HBW⟩
                case measure => simp [intOf]; omega
            · have b3 : (co == 0) = false := by simp [h3]
              have HSN := Lib.hid (HST.out.trans (if_neg (fun h => h3 h.2.2.1)))
              clear HST
              go_wp2
              go_roundw
              case rel => exact ⟨k + 1, by omega, by go_num, by rw [HSN.out], HBW⟩
              case measure => simp [intOf]; omega
        · have b1 : (yw == (wn : Int)) = false := by simp [h1]
          have HSN := Lib.hid (HST.out.trans (if_neg (fun h => h1 h.1)))
          clear HST
          go_wp2
          go_roundw
          case rel => exact ⟨k + 1, by omega, by go_num, by rw [HSN.out], HBW⟩
          case measure => simp [intOf]; omega
      · obtain rfl : m = k := by omega
        obtain ⟨w6, rfl⟩ : ∃ w6, w6 = wr := ⟨_, rfl⟩
        have HLAW := Lib.hid (once_law X wn (by omega) m)
        have hnl := HNT.out wn
        obtain ⟨N, hN⟩ : ∃ N, (wst X m).nt wn = N := ⟨_, rfl⟩
        have HNN := Lib.hid hN
        rw [hN] at hnl
        have hgl := gr_le X N
        have HGL := Lib.hid hgl
        clear hN hgl
        go_wp2
        go_loopw [11, 78] (fun s i wr => ∃ k : Nat, k ≤ m ∧ i = .int .i64 (k : Nat) ∧ s = .int .i64 (grW X N k : Nat) ∧ Hid (Below W2.heap.size W2 wr)) (fun _ i _ => m - (intOf i).toNat)
        case atStart => exact ⟨0, by omega, rfl, rfl, HQ⟩
        case round =>
          clear HQ
          obtain ⟨k, hk, rfl, rfl, HQ⟩ := hrel
          have hgk := HGL.out k
          by_cases hlt : k < m
          · have HGR := Lib.hid (show grW X N (k + 1) = if (wans X k).code = 0 ∧ (1 ≤ (X k).deed.kind ∧ (X k).deed.kind ≤ 3) ∧ N[grW X N k]? = some ((X k).deed.kind.toNat, (X k).deed.path) then grW X N k + 1 else grW X N k by
              show (if hitW X N (grW X N k) k then _ else _) = _
              by_cases hh : hitW X N (grW X N k) k
              · rw [if_pos hh]; exact (if_pos hh).symm
              · rw [if_neg hh]; exact (if_neg hh).symm)
            obtain ⟨ad, rfl, hbl, m0, m1, m2, m3, m4, m5⟩ := (HR2.out.below (HQ.out.mono HSZ.out)).recA hlt
            clear hbl
            go_upto_region 19 with (fail)
            refine at_lay (F := fun W' => Code.wp _ _ _ _ W') ((Lay.nil wr).newB (cellsA (X k)) 32 6 rfl _ rfl) ?_
            intro W hW
            have HBW : Hid (Below W2.heap.size W2 W) := Lib.hid (HQ.out.trans (hW.bel.mono HQ.out.size))
            have HWW := Lib.hid (HW2.out.to HBW.out)
            obtain ⟨ad2, rfl, -, c0, -, -, -⟩ := HWW.out.pl.rec4 hlt
            have g0 := (HWW.out.at_ hw6).2
            rw [HNN.out] at g0
            clear m0 m1 m2 m3 m4 m5 HQ
            generalize wr.heap.size = t13 at hW ⊢
            have x2 := hW.cellB 0 rfl 2 (by omega)
            have x3 := hW.cellB 0 rfl 3 (by omega)
            simp only [cellsA, cellsD, List.cons_append, List.nil_append, ofL_2, ofL_3] at x2 x3
            clear hW
            generalize (X k).deed.kind = dk at HGR x2
            generalize (X k).deed.path = dp at HGR x3
            generalize (wans X k).code = co at HGR c0
            generalize grW X N k = gk at *
            obtain ⟨kv, hk1, hk2⟩ := kindV dk
            have HK1 := Lib.hid hk1
            have HK2 := Lib.hid hk2
            clear hk1 hk2
            go_upto_block 4 with fail
            go_cut [14, 78] from 78 to 139 (fun t i wx => i = .int .i64 (k : Nat) ∧ t = .int .i64 kv ∧ wx = W)
            case first =>
              by_cases h13 : 1 ≤ dk ∧ dk ≤ 3
              · obtain rfl := HK1.out h13
                rcases (by omega : kv = 1 ∨ kv = 2 ∨ kv = 3) with rfl | rfl | rfl
                · go_wp2
                  go_meet
                  exact ⟨rfl, rfl, rfl⟩
                · go_wp2
                  go_meet
                  exact ⟨rfl, rfl, rfl⟩
                · go_wp2
                  go_meet
                  exact ⟨rfl, rfl, rfl⟩
              · obtain rfl := HK2.out h13
                have b1 : (dk == 1) = false := by simp; omega
                have b2 : (dk == 2) = false := by simp; omega
                have b3 : (dk == 3) = false := by simp; omega
                clear h13
                go_wp2
                go_meet
                exact ⟨rfl, rfl, rfl⟩
            case rest =>
              obtain ⟨rfl, rfl, hwx⟩ := hcut
              subst wc
              by_cases h1 : co = 0
              · have b1 : (co == 0) = true := by simp [h1]
                by_cases h13 : 1 ≤ dk ∧ dk ≤ 3
                · have hkd := HK1.out h13
                  have hkp : 0 < kv := by omega
                  by_cases hl : gk < N.length
                  · obtain ⟨nk, np, hx⟩ : ∃ nk np, N[gk]? = some (nk, np) := ⟨_, _, List.getElem?_eq_getElem hl⟩
                    obtain ⟨ad3, hma, -, n0, n1⟩ := HWW.out.note hw6 (k := gk) (x := (nk, np)) (by rw [HNN.out]; exact hx)
                    rw [hma] at g0
                    dsimp only at n0 n1
                    have HX := Lib.hid hx
                    have HKD := Lib.hid hkd
                    clear hx hma hkd
                    by_cases h4 : (nk : Int) = kv
                    · have b4 : ((nk : Int) == kv) = true := by simp [h4]
                      have H4 := Lib.hid h4
                      clear h4
                      by_cases h5 : np = dp
                      · have b5 : ((bs np).toList == (bs dp).toList) = true := by simp [h5]
                        have HGN := Lib.hid (HGR.out.trans (if_pos ⟨h1, h13, by rw [HX.out, h5, show dk.toNat = nk by have := H4.out; have := HKD.out; omega]⟩))
                        clear HGR h5 h1
                        go_wp2
                        refine wp_text_all (by kernel_rfl) (by kernel_rfl) (by kernel_rfl) (by repeat' (first | (with_reducible apply tame_then) | (with_reducible apply tame_block) | (with_reducible apply tame_scope) | exact tame_gives | exact tame_body (fun _ _ h => ⟨_, h.1⟩))) ?_
                        go_wp2
                        refine headed ?_
                        go_wp2
                        go_roundw
                        case rel => exact ⟨k + 1, by omega, by go_num, by rw [HGN.out]; go_num, Lib.hid (below_sim HBW.out ⟨rfl, rfl, rfl, rfl⟩)⟩
                        case measure => simp [intOf]; omega
                      · have b5 : ((bs np).toList == (bs dp).toList) = false := beq_eq_false_iff_ne.2 (by rw [bs_toList, bs_toList]; exact h5)
                        have H5 := Lib.hid h5
                        clear h5 h1
                        have HGN := Lib.hid (HGR.out.trans (if_neg (fun h => miss5 HX.out H5.out h.2.2)))
                        clear HGR
                        go_wp2
                        refine wp_text_all (by kernel_rfl) (by kernel_rfl) (by kernel_rfl) (by repeat' (first | (with_reducible apply tame_then) | (with_reducible apply tame_block) | (with_reducible apply tame_scope) | exact tame_gives | exact tame_body (fun _ _ h => ⟨_, h.1⟩))) ?_
                        go_wp2
                        refine headed ?_
                        go_wp2
                        go_roundw
                        case rel => exact ⟨k + 1, by omega, by go_num, by rw [HGN.out], Lib.hid (below_sim HBW.out ⟨rfl, rfl, rfl, rfl⟩)⟩
                        case measure => simp [intOf]; omega
                    · have b4 : ((nk : Int) == kv) = false := beq_eq_false_iff_ne.2 h4
                      have H4 := Lib.hid h4
                      clear h4 h1
                      have HGN := Lib.hid (HGR.out.trans (if_neg (fun h => miss4 HX.out H4.out HKD.out h13.1 h.2.2)))
                      clear HGR
                      go_wp2
                      refine wp_text_all (by kernel_rfl) (by kernel_rfl) (by kernel_rfl) (by repeat' (first | (with_reducible apply tame_then) | (with_reducible apply tame_block) | (with_reducible apply tame_scope) | exact tame_gives | exact tame_body (fun _ _ h => ⟨_, h.1⟩))) ?_
                      go_wp2
                      refine headed ?_
                      go_wp2
                      go_roundw
                      case rel => exact ⟨k + 1, by omega, by go_num, by rw [HGN.out], Lib.hid (below_sim HBW.out ⟨rfl, rfl, rfl, rfl⟩)⟩
                      case measure => simp [intOf]; omega
                  · clear h1 hkd
                    have HGN := Lib.hid (HGR.out.trans (if_neg (fun h => hl (List.getElem?_eq_some_iff.1 h.2.2).1)))
                    clear HGR
                    go_wp2
                    refine wp_text_all (by kernel_rfl) (by kernel_rfl) (by kernel_rfl) (by repeat' (first | (with_reducible apply tame_then) | (with_reducible apply tame_block) | (with_reducible apply tame_scope) | exact tame_gives | exact tame_body (fun _ _ h => ⟨_, h.1⟩))) ?_
                    go_wp2
                    refine headed ?_
                    go_wp2
                    go_roundw
                    case rel => exact ⟨k + 1, by omega, by go_num, by rw [HGN.out], Lib.hid (below_sim HBW.out ⟨rfl, rfl, rfl, rfl⟩)⟩
                    case measure => simp [intOf]; omega
                · have hk0 := HK2.out h13
                  obtain rfl : kv = 0 := hk0
                  clear h1
                  have HGN := Lib.hid (HGR.out.trans (if_neg (fun h => h13 h.2.1)))
                  clear HGR
                  go_wp2
                  refine wp_text_all (by kernel_rfl) (by kernel_rfl) (by kernel_rfl) (by repeat' (first | (with_reducible apply tame_then) | (with_reducible apply tame_block) | (with_reducible apply tame_scope) | exact tame_gives | exact tame_body (fun _ _ h => ⟨_, h.1⟩))) ?_
                  go_wp2
                  refine headed ?_
                  go_wp2
                  go_roundw
                  case rel => exact ⟨k + 1, by omega, by go_num, by rw [HGN.out], Lib.hid (below_sim HBW.out ⟨rfl, rfl, rfl, rfl⟩)⟩
                  case measure => simp [intOf]; omega
              · have b1 : (co == 0) = false := by simp [h1]
                have HGN := Lib.hid (HGR.out.trans (if_neg (fun h => h1 h.1)))
                clear HGR
                go_wp2
                refine wp_text_all (by kernel_rfl) (by kernel_rfl) (by kernel_rfl) (by repeat' (first | (with_reducible apply tame_then) | (with_reducible apply tame_block) | (with_reducible apply tame_scope) | exact tame_gives | exact tame_body (fun _ _ h => ⟨_, h.1⟩))) ?_
                go_wp2
                refine headed ?_
                go_wp2
                go_roundw
                case rel => exact ⟨k + 1, by omega, by go_num, by rw [HGN.out], Lib.hid (below_sim HBW.out ⟨rfl, rfl, rfl, rfl⟩)⟩
                case measure => simp [intOf]; omega
          · obtain rfl : m = k := by omega
            have g0 := ((HW2.out.to HQ.out).at_ hw6).2
            rw [HNN.out] at g0
            have hlw := HLAW.out
            rw [Int.toNat_natCast, HNN.out] at hlw
            obtain ⟨hl1, hl2⟩ := hlw
            rw [hl1] at *
            have hsl := setN_le X wn m
            clear hl1
            generalize setN X wn m = sn at *
            generalize N.length = nl at *
            have b1 : ((nl : Int) == (nl : Int)) = true := by simp
            go_wp2
            go_ret
            exact ⟨rfl, HB2.out.trans (HQ.out.mono HSZ.out)⟩
  · have hin : (decide (0 ≤ who) && decide (who < 6)) = false := by
      rw [Bool.eq_false_iff]; intro h; simp at h; exact hw h
    have HIN := Lib.hid hin
    clear hw hin
    go_wp2_with (first
      | (go_at_call 10; refine (inside1 false 6 who w1 3 w1.heap.size rfl HIN.out).mono ?_; rintro e w2 ⟨rfl, hw2⟩; subst w2)
      | fail)
    go_ret
    exact ⟨rfl, HB1.out.alloc HB1.out.size _⟩
set_option maxRecDepth 100000 in
set_option maxHeartbeats 800000 in
theorem watchOnce_bad (m cap : Nat) (A : Option Addr) (who : Int) (w : World) (hm : m ≤ maxLen) (hb : 60 < m) :
    Calls Tryd.prog 3 #[.slice A m cap, .int .i64 who] w fun e w' => e = .returned (.bool true) ∧ Below w.heap.size w w' := by
  have HM := Lib.hid hm
  unfold maxLen at hm
  go_enter Tryd.func3, Tryd.ntmps3
  go_wp2_with (first
    | (go_at_call 9; refine (wplay_bad m cap A w HM.out hb).mono ?_; rintro e w1 ⟨rfl, hw1⟩; subst w1)
    | fail)
  go_ret
  exact ⟨rfl, Below.refl _ _⟩
theorem watchOnce_all (A : Option Addr) (m cap : Nat) (X : Nat → AskX) (who : Int) (w : World) (hm : m ≤ cap ∧ cap * 64 ≤ 140737488351232) (hD : ∀ i, i < m → DeedL (X i).deed) (hr : Rd w w.heap.size A (m * 6) (akF X)) :
    Calls Tryd.prog 3 #[.slice A m cap, .int .i64 who] w fun e w' => e = .returned (.bool true) ∧ Below w.heap.size w w' := by
  by_cases h : m ≤ 60
  · exact watchOnce_good m cap A X who w h hD hr
  · exact watchOnce_bad m cap A who w (by unfold maxLen; omega) (by omega)
end Go.Proofs.YtfdgjbanajodfaaDoor
