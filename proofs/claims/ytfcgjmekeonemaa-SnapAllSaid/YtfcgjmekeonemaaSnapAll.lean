/- The law SnapAll, walked. -/
import Derived.Test.YtfcgjmekeonemaaSnAllM
set_option linter.unusedVariables false
set_option linter.unusedSimpArgs false
namespace Go.Proofs.Ytfcgjmekeonemaa
open Go.RowKit Go.Maps Go.MapKept

set_option maxRecDepth 100000 in
set_option maxHeartbeats 1600000 in
theorem snapAll_good (n m cap : Nat) (A : Option Addr) (M : Mv) (w : World) (hr : Rd w w.heap.size A (m * 4) (mvF M)) (h1 : 1 ≤ n) (h6 : n ≤ 6) (hm6 : m ≤ 60) :
    Calls Try.prog 5 #[.int .i64 n, .slice A m cap] w fun e w' => e = .returned (.bool true) ∧ Below w.heap.size w w' := by
  have HR := Lib.hid hr; clear hr
  have HB : Hid (playedB n m = true) := Lib.hid (playedB_iff.2 ⟨by omega, by omega, by omega⟩)
  have HD : Hid (snDone n (snE n M m) = true → sumS (rowN n (snE n M m)) n = n * 100) := Lib.hid (all_there (snE_J n M m) h6 (snE_diag n M m))
  have HBN := Lib.hid (snE_B h6 M m)
  have HKS : Hid (∀ i, i < n → 0 ≤ (snE n M m).kept i ∧ (snE n M m).kept i ≤ 600) := Lib.hid fun i hi => kept_small (snE_J n M m) (snE_kz n M m) h6 hi
  have HOWN : Hid (∀ i, (snE n M m).wayR (i, i) = 0) := Lib.hid (snE_J n M m).own
  go_enter Try.func5, Try.ntmps5
  go_wp2_with fail
  refine (sn_good n w m cap _ A M h1 h6 hm6 (Nat.le_refl _) HR.out).mono ?_
  rintro e w1 ⟨v, rfl, g, gh, gr, gk, gw, bm, bc, br, f, AC, cC, rfl, hL⟩
  have HL := Lib.hid ((hL.newB [.slice AC m cC, .bool (snDone n (snE n M m)), .slice (some ⟨gk, 0, none⟩) n n, .slice (some ⟨gw, 0, none⟩) n n] 37 4 rfl _ rfl).rot5); clear hL
  go_wp2_with (go_at_call 9; refine (bool_is (played_any n m _) HB.out).mono ?_; rintro e w3 ⟨rfl, rfl⟩; clear HB)
  generalize snDone n (snE n M m) = d at HL HD ⊢
  refine at_layQ (F := fun W' => Code.wp _ _ _ _ W') HL.out ?_
  intro W hW
  have HW : Hid (LayN g gh gr gk gw bm bc n (.slice AC m cC) (.bool d) [blkS w1.heap.size [.slice AC m cC, .bool d, .slice (some ⟨gk, 0, none⟩) n n, .slice (some ⟨gw, 0, none⟩) n n], lstE AC m cC (snC n M), blkS br [.slice AC m cC, .bool d, .slice (some ⟨gk, 0, none⟩) n n, .slice (some ⟨gw, 0, none⟩) n n]] w f (snE n M m) W) := Lib.hid hW
  clear hW HL HR
  generalize snE n M m = s at *
  generalize w1.heap.size = b at HW ⊢
  have b0 : W.cell? ⟨b, 0, none⟩ = some (.slice AC m cC) := HW.out.lay.cellB 5 rfl 0 (by omega)
  have b1 : W.cell? ⟨b, 1, none⟩ = some (.bool d) := HW.out.lay.cellB 5 rfl 1 (by omega)
  have b2 : W.cell? ⟨b, 2, none⟩ = some (.slice (some ⟨gk, 0, none⟩) n n) := HW.out.lay.cellB 5 rfl 2 (by omega)
  have b3 : W.cell? ⟨b, 3, none⟩ = some (.slice (some ⟨gw, 0, none⟩) n n) := HW.out.lay.cellB 5 rfl 3 (by omega)
  have HBL := Lib.hid HW.out.lay.bel
  go_wp2
  go_loopw [7, 8] (fun sm iv wr => ∃ i : Nat, i ≤ n ∧ iv = .int .i64 i ∧ sm = .int .i64 (sumS (rowN n s) i) ∧ wr = W) (fun _ iv _ => n - (intOf iv).toNat)
  case atStart => exact ⟨0, by omega, rfl, rfl, rfl⟩
  case round =>
    obtain ⟨i, hi, rfl, rfl, rfl⟩ := hrel
    obtain ⟨t1, t2⟩ := tot_small HBN.out HKS.out h6 hi
    by_cases hlt : i < n
    · obtain ⟨⟨q1, q2⟩, HQS⟩ := row_small HBN.out HKS.out h6 hlt
      have HQS := Lib.hid HQS
      obtain ⟨k1, k2⟩ := HKS.out i hlt
      have c1 : wr.cell? ⟨gk, i, none⟩ = some (.int .i64 (s.kept i)) := HW.out.lay.cell1 3 rfl hlt
      have c2 : wr.cell? ⟨gw, i, none⟩ = some (f (.inr i)) := HW.out.lay.cell1 4 rfl hlt
      obtain ⟨bb, off, cp, hf, l1, l2, hc⟩ := sn_row HW.out hlt
      rw [hf] at c2
      have c3 := hc i hlt
      rw [HOWN.out i] at c3
      have HC := Lib.hid hc
      have HROW : Hid (sumS (rowN n s) (i + 1) = sumS (rowN n s) i + s.kept i + sumS (fun j => s.wayR (i, j)) n) := Lib.hid (by rw [sumS, rowN]; omega)
      generalize sumS (rowN n s) i = tt at t1 t2 HROW ⊢
      have HWR : Hid (∀ q, q < n → 0 ≤ s.wayR (i, q) ∧ s.wayR (i, q) ≤ 600) := Lib.hid fun q hq => HBN.out.wr (i, q) hlt hq
      clear hf hc
      go_wp2
      go_loopw [7, 93] (fun sm qv wr2 => ∃ q : Nat, q ≤ n ∧ qv = .int .i64 q ∧ sm = .int .i64 (tt + s.kept i + sumS (fun j => s.wayR (i, j)) q) ∧ wr2 = wr) (fun _ qv _ => n - (intOf qv).toNat)
      case atStart => exact ⟨0, by omega, rfl, by simp [sumS], rfl⟩
      case round =>
        obtain ⟨q, hq, rfl, rfl, rfl⟩ := hrel
        obtain ⟨x1, x2⟩ := HQS.out q hq
        by_cases hqn : q < n
        · have c4 := HC.out q hqn
          obtain ⟨y1, y2⟩ := HWR.out q hqn
          have HN : Hid (sumS (fun j => s.wayR (i, j)) (q + 1) = sumS (fun j => s.wayR (i, j)) q + s.wayR (i, q)) := Lib.hid rfl
          generalize sumS (fun j => s.wayR (i, j)) q = xx at x1 x2 HN ⊢
          go_wp2
          go_roundw
          case rel => exact ⟨q + 1, by omega, by go_num, by rw [HN.out]; congr 1; omega, by first | rfl | trivial⟩
          case measure => simp [intOf]; omega
        · obtain rfl : q = n := by omega
          go_wp2
          go_roundw
          case rel => exact ⟨i + 1, by omega, by go_num, by rw [HROW.out], by first | rfl | trivial⟩
          case measure => simp [intOf]; omega
    · obtain rfl : i = n := by omega
      cases d
      · clear HD
        go_wp2
        go_ret
        exact ⟨rfl, HBL.out⟩
      · have hd := HD.out rfl
        rw [hd]
        clear HD hd t1 t2
        go_wp2
        go_ret
        exact ⟨rfl, HBL.out⟩
theorem snapAll_bad (n : Int) (m cap : Nat) (A : Option Addr) (w : World) (hm : m ≤ maxLen) (hb : playedB n m = false) :
    Calls Try.prog 5 #[.int .i64 n, .slice A m cap] w fun e w' => e = .returned (.bool true) ∧ Below w.heap.size w w' := by
  have HB := Lib.hid hb; clear hb
  have HM := Lib.hid hm
  go_enter Try.func5, Try.ntmps5
  go_wp2_with fail
  refine (sn_bad n m cap A w HM.out HB.out).mono ?_
  rintro e w1 ⟨rfl, hb1⟩
  have HB1 := Lib.hid (hb1.alloc hb1.size (.cells #[.slice none 0 0, .bool false, .slice none 0 0, .slice none 0 0] 37)); clear hb1
  unfold maxLen at hm
  go_wp2_with (go_at_call 9; refine (bool_is (played_any n m _) HB.out).mono ?_; rintro e w3 ⟨rfl, rfl⟩; clear HB)
  go_ret
  exact ⟨rfl, HB1.out⟩
theorem snapAll_all (n : Int) (A : Option Addr) (m cap : Nat) (M : Mv) (w : World) (_ : (Lit.int .i64 n).wf = true) (hmc : m ≤ cap ∧ cap ≤ maxLen) (hr : Rd w w.heap.size A (m * 4) (mvF M)) :
    Calls Try.prog 5 #[.int .i64 n, .slice A m cap] w fun e w' => e = .returned (.bool true) ∧ Below w.heap.size w w' := by
  cases hb : playedB n m
  · exact snapAll_bad n m cap A w (Nat.le_trans hmc.1 hmc.2) hb
  · obtain ⟨h1, h2, h3⟩ := playedB_iff.1 hb
    obtain ⟨n, rfl⟩ := Int.eq_ofNat_of_zero_le (show 0 ≤ n by omega)
    exact snapAll_good n m cap A M w hr (by omega) (by omega) (by omega)
end Go.Proofs.Ytfcgjmekeonemaa
