/- The law CommitOne, walked. -/
import Derived.Test.YtifbjnlbohigkaaCom3
import Derived.Test.YtifbjnlbohigkaaComLaw
import Derived.Test.YtifbjnlbohigkaaPlayed
import Derived.Test.YtifbjnlbohigkaaInside
set_option linter.unusedVariables false
set_option linter.unusedSimpArgs false
namespace Go.Proofs.Ytifbjnlbohigkaa
open Go.RowKit

theorem com_bad' (n : Int) (m cap : Nat) (A : Option Addr) (w : World) (hm : m ≤ maxLen) (hb : playedB n m = false) :
    Calls Try.prog 7 #[.int .i64 n, .slice A m cap] w fun e w' => e = .returned (.tuple #[.agg #[.slice none 0 0, .slice none 0 0], .int .i64 1]) ∧ Below w.heap.size w w' :=
  com_bad n m cap A w hm fun h => by rw [playedB_iff.2 h] at hb; cases hb
theorem said_step (n : Nat) (M : Mv) (q p : Nat) : saidB n M (q + 1) p = (saidB n M q p || (M.k q == 1 && M.v q == 1 && cmC n M q == 0 && (decide (0 ≤ M.f q) && decide (M.f q < n)) && M.f q == p)) := rfl
/-- The row of who has said yes. -/
abbrev rowsO (b2 b n : Nat) (Y : Nat → Bool) (A : Option Addr) (m cap gs : Nat) (R : List LRow) : List LRow :=
  arr b2 4 n (fun p => .bool (Y p)) :: blk b 26 2 (ofL [.slice A m cap, .slice (some ⟨gs, 0, none⟩) n n]) :: R

set_option maxRecDepth 100000 in
set_option maxHeartbeats 3200000 in
theorem commitOne_good (n m cap : Nat) (A : Option Addr) (M : Mv) (w : World) (hr : Rd w w.heap.size A (m * 4) (mvF M)) (h1 : 1 ≤ n) (h6 : n ≤ 6) (hm6 : m ≤ 60) :
    Calls Try.prog 3 #[.int .i64 n, .slice A m cap] w fun e w' => e = .returned (.bool true) ∧ Below w.heap.size w w' := by
  have HR := Lib.hid hr; clear hr
  have HB : Hid (playedB n m = true) := playedB_iff.2 ⟨by omega, by omega, by omega⟩
  obtain ⟨iB, hiB, hzB0, hzB1, hzB2⟩ := info_parts infoBoolC
  go_enter Try.func3, Try.ntmps3
  go_wp2_with fail
  refine (com_good n m cap _ A M w h1 h6 hm6 (Nat.le_refl _) HR.out).mono ?_
  rintro e w1 ⟨v, rfl, g, gs, gg, gy, A1, c1, rfl, hL⟩
  have HL := Lib.hid hL; clear hL
  go_upto_region 6 with (go_at_call 8; refine (bool_is (played_any n m _) HB.out).mono ?_; rintro e w3 ⟨rfl, rfl⟩)
  have HL1 := Lib.hid (HL.out.newB [.slice A1 m c1, .slice (some ⟨gs, 0, none⟩) n n] 26 2 rfl _ rfl)
  clear HL
  refine at_lay (F := fun W' => Code.wp _ _ _ _ W') HL1.out ?_
  intro W hW
  have HW := Lib.hid hW
  clear hW HL1
  generalize w1.heap.size = b at HW ⊢
  go_wp2_with (at_make; refine wpList_mk1 rfl (.tmp 42) (.tmp 42) _ rfl 4 iB _ 1 Try.underlying31 hiB hzB0 hzB1 hzB2 rfl .i64 .i64 n rfl rfl (by omega) (by unfold maxLen; omega) w.heap.size _ rfl HW.out.size ?_; intro w2 ho2 he2
               have HL2 : Hid (Lay w w2 (rowsO W.heap.size b n (saidB n M 0) A1 m c1 gs (rowsP g n gs gg gy (cmE n M m) A1 m c1 w.heap.size (cmC n M) (.slice A1 m c1) (.slice (some ⟨gs, 0, none⟩) n n)))) := by
                 rw [he2]
                 exact HW.out.make (.bool false) rfl n (by unfold maxLen; omega) _ _ (fun _ _ => rfl) _ rfl
               clear ho2 he2)
  clear HW
  generalize W.heap.size = b2 at HL2 ⊢
  go_loopw [46] (fun i wr => ∃ q : Nat, q ≤ m ∧ i = .int .i64 q ∧ Hid (Lay w wr (rowsO b2 b n (saidB n M q) A1 m c1 gs (rowsP g n gs gg gy (cmE n M m) A1 m c1 w.heap.size (cmC n M) (.slice A1 m c1) (.slice (some ⟨gs, 0, none⟩) n n))))) (fun i _ => m - (intOf i).toNat)
  case atStart => exact ⟨0, by omega, rfl, HL2⟩
  case round =>
    clear HL2
    obtain ⟨q, hq, rfl, HQ⟩ := hrel
    by_cases hlt : q < m
    · obtain ⟨ad, rfl, hbl, m0, m1, m2, m3⟩ := (HR.out.below HQ.out.bel).rec4 hlt
      clear hbl
      obtain ⟨gc, rfl, -, -, -, -⟩ := (HQ.out.own 6 _ rfl).pos1 (by show 0 < m; omega)
      have c0 := HQ.out.cellB 1 rfl 0 (by omega)
      simp only [ofL_0] at c0
      have cc := HQ.out.cell1 6 rfl (j := q) hlt
      have hbz := (HQ.out.at_ 1 rfl).2
      have hcz := (HQ.out.at_ 6 rfl).2
      have HST := Lib.hid (said_step n M q)
      have keep : ∀ (o : Obj) {b' : Bool}, b' = false → (∀ p, (M.k q == 1 && M.v q == 1 && cmC n M q == 0 && (decide (0 ≤ M.f q) && decide (M.f q < n)) && M.f q == (p : Nat)) = b') → Lay w (wr.alloc o) (rowsO b2 b n (saidB n M (q + 1)) (some ⟨gc, 0, none⟩) m c1 gs (rowsP g n gs gg gy (cmE n M m) (some ⟨gc, 0, none⟩) m c1 w.heap.size (cmC n M) (.slice (some ⟨gc, 0, none⟩) m c1) (.slice (some ⟨gs, 0, none⟩) n n))) := by
        intro o b' hb' h
        exact (HQ.out.alloc o).congr 0 _ rfl (fun p _ => by
          show Value.bool (saidB n M q p) = .bool (saidB n M (q + 1) p)
          rw [HST.out p, h p, hb', Bool.or_false])
      have KEEP := Lib.hid keep
      clear keep
      by_cases hk : M.k q = 1
      · by_cases hv : M.v q = 1
        · by_cases hc : cmC n M q = 0
          · rw [hk] at m0
            rw [hv] at m3
            rw [hc] at cc
            cases hin : (decide (0 ≤ M.f q) && decide (M.f q < (n : Int)))
            · have HIN := Lib.hid hin
              have HFA := Lib.hid (fun p : Nat => (by rw [hin]; simp : (M.k q == 1 && M.v q == 1 && cmC n M q == 0 && (decide (0 ≤ M.f q) && decide (M.f q < n)) && M.f q == (p : Nat)) = false))
              clear hin hk hv hc
              go_wp2_with (go_at_call 9; refine (inside1 false n (M.f q) _ _ _ (by simp) HIN.out).mono ?_; rintro e w8 ⟨rfl, rfl⟩)
              go_roundw
              case rel => exact ⟨q + 1, by omega, by go_num, (KEEP.out _ rfl HFA.out).alloc _⟩
              case measure => simp [intOf]; omega
            · have HIN := Lib.hid hin
              have hf : 0 ≤ M.f q ∧ M.f q < n := by simpa using hin
              obtain ⟨f, hfe⟩ := Int.eq_ofNat_of_zero_le hf.1
              have hfn : f < n := by omega
              have hsaid : ∀ p, saidB n M (q + 1) p = upd (saidB n M q) f true p := by
                intro p
                rw [HST.out p, hk, hv, hc, hin, hfe, upd_apply]
                by_cases e : p = f
                · subst e; simp
                · rw [if_neg e]
                  have : ((f : Int) == (p : Int)) = false := by rw [beq_eq_false_iff_ne]; omega
                  simp [this]
              have HSA := Lib.hid hsaid
              rw [hfe] at m1 HIN
              have fb := HQ.out.frz 0 rfl (by omega) f
              have ry := HQ.out.cell1 0 rfl (j := f) hfn
              have hb2 := (HQ.out.at_ 0 rfl).2
              clear hin hk hv hc hf hfe hsaid
              go_wp2_with (go_at_call 9; refine (inside1 true n f _ _ _ (by simp) HIN.out).mono ?_; rintro e w8 ⟨rfl, rfl⟩)
              go_roundw
              case rel => exact ⟨q + 1, by omega, by go_num, (((HQ.out.upd 0 (mk := fun b => .bool b) true rfl hfn).alloc _).alloc _).congr 0 _ rfl (fun p _ => by
                  show Value.bool (upd (saidB n M q) f true p) = .bool (saidB n M (q + 1) p)
                  rw [HSA.out p])⟩
              case measure => simp [intOf]; omega
          · have e1 : (cmC n M q == 0) = false := by simpa using hc
            have HFA := Lib.hid (fun p : Nat => (by rw [e1]; simp : (M.k q == 1 && M.v q == 1 && cmC n M q == 0 && (decide (0 ≤ M.f q) && decide (M.f q < n)) && M.f q == (p : Nat)) = false))
            rw [hk] at m0
            rw [hv] at m3
            clear hk hv hc
            go_wp2
            go_roundw
            case rel => exact ⟨q + 1, by omega, by go_num, KEEP.out _ rfl HFA.out⟩
            case measure => simp [intOf]; omega
        · have e1 : (M.v q == 1) = false := by simpa using hv
          have HFA := Lib.hid (fun p : Nat => (by rw [e1]; simp : (M.k q == 1 && M.v q == 1 && cmC n M q == 0 && (decide (0 ≤ M.f q) && decide (M.f q < n)) && M.f q == (p : Nat)) = false))
          rw [hk] at m0
          clear hk hv
          go_wp2
          go_roundw
          case rel => exact ⟨q + 1, by omega, by go_num, KEEP.out _ rfl HFA.out⟩
          case measure => simp [intOf]; omega
      · have e1 : (M.k q == 1) = false := by simpa using hk
        have HFA := Lib.hid (fun p : Nat => (by rw [e1]; simp : (M.k q == 1 && M.v q == 1 && cmC n M q == 0 && (decide (0 ≤ M.f q) && decide (M.f q < n)) && M.f q == (p : Nat)) = false))
        clear hk
        go_wp2
        go_roundw
        case rel => exact ⟨q + 1, by omega, by go_num, KEEP.out _ rfl HFA.out⟩
        case measure => simp [intOf]; omega
    · obtain rfl : q = m := by omega
      have c1' := HQ.out.cellB 1 rfl 1 (by omega)
      simp only [ofL_1] at c1'
      have HLAW := Lib.hid (fun i j (hi : i < n) (hj : j < n) h => com_one (M := M) (q := q) hi hj h)
      have HRI := Lib.hid (fun i (hi : i < n) => HQ.out.cell1 3 rfl (j := i) hi)
      have HRY := Lib.hid (fun i (hi : i < n) => HQ.out.cell1 0 rfl (j := i) hi)
      go_wp2
      go_loop [10] (fun i => ∃ a : Nat, a ≤ n ∧ i = .int .i64 a) (fun i => n - (intOf i).toNat)
      case atStart => exact ⟨0, by omega, rfl⟩
      case round =>
        obtain ⟨a, ha, rfl⟩ := hrel
        by_cases han : a < n
        · go_wp2
          go_loop [11] (fun i => ∃ c : Nat, c ≤ n ∧ i = .int .i64 c) (fun i => n - (intOf i).toNat)
          case atStart => exact ⟨0, by omega, rfl⟩
          case round =>
            obtain ⟨c, hc, rfl⟩ := hrel
            by_cases hcn : c < n
            · have r1 := HRI.out a han
              have r2 := HRI.out c hcn
              have r3 := HRY.out c hcn
              by_cases h2 : (cmE n M q).st a = 2
              · obtain ⟨h3, h4⟩ := HLAW.out a c han hcn h2
                rw [h2] at r1
                have e3 : ((cmE n M q).st c == 3) = false := by simpa using h3
                by_cases hc0 : 0 < c
                · rw [h4 hc0] at r3
                  clear h2 h3 h4
                  go_wp2
                  go_round
                  case rel => exact ⟨c + 1, by omega, by go_num⟩
                  case measure => simp [intOf]; omega
                · obtain rfl : c = 0 := by omega
                  clear h2 h3 h4
                  go_wp2
                  go_round
                  case rel => exact ⟨0 + 1, by omega, by go_num⟩
                  case measure => simp [intOf]; omega
              · have e2 : ((cmE n M q).st a == 2) = false := by simpa using h2
                clear h2
                go_wp2
                go_round
                case rel => exact ⟨c + 1, by omega, by go_num⟩
                case measure => simp [intOf]; omega
            · obtain rfl : c = n := by omega
              go_wp2
              go_round
              case rel => exact ⟨a + 1, by omega, by go_num⟩
              case measure => simp [intOf]; omega
        · go_wp2
          go_ret
          exact ⟨rfl, HQ.out.bel⟩
theorem commitOne_bad (n : Int) (m cap : Nat) (A : Option Addr) (w : World) (hm : m ≤ maxLen) (hb : playedB n m = false) :
    Calls Try.prog 3 #[.int .i64 n, .slice A m cap] w fun e w' => e = .returned (.bool true) ∧ Below w.heap.size w w' := by
  have HB := Lib.hid hb; clear hb
  have HM := Lib.hid hm; clear hm
  go_enter Try.func3, Try.ntmps3
  go_wp2_with fail
  refine (com_bad' n m cap A w HM.out HB.out).mono ?_
  rintro e w1 ⟨rfl, hb1⟩
  have HB1 := Lib.hid hb1; clear hb1
  go_wp2_with (go_at_call 8; refine (bool_is (played_any n m _) HB.out).mono ?_; rintro e w3 ⟨rfl, rfl⟩)
  go_ret
  exact ⟨rfl, HB1.out.alloc HB1.out.size _⟩
theorem commitOne_all (n : Int) (A : Option Addr) (m cap : Nat) (M : Mv) (w : World) (_ : (Lit.int .i64 n).wf = true) (hmc : m ≤ cap ∧ cap ≤ maxLen) (hr : Rd w w.heap.size A (m * 4) (mvF M)) :
    Calls Try.prog 3 #[.int .i64 n, .slice A m cap] w fun e w' => e = .returned (.bool true) ∧ Below w.heap.size w w' := by
  cases hb : playedB n m
  · exact commitOne_bad n m cap A w (by omega) hb
  · obtain ⟨h1, h2, h3⟩ := playedB_iff.1 hb
    obtain ⟨k, rfl⟩ := Int.eq_ofNat_of_zero_le (show 0 ≤ n by omega)
    exact commitOne_good k m cap A M w hr (by omega) (by omega) (by omega)
end Go.Proofs.Ytifbjnlbohigkaa
