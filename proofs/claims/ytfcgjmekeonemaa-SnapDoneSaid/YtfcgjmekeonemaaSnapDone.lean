/- The law SnapDone, walked. -/
import Derived.Test.YtfcgjmekeonemaaSnDoneM
set_option linter.unusedVariables false
set_option linter.unusedSimpArgs false
namespace Go.Proofs.Ytfcgjmekeonemaa
open Go.RowKit Go.Maps Go.MapKept

abbrev Z0 : Mv := ⟨fun _ => 0, fun _ => 0, fun _ => 0, fun _ => 0⟩
abbrev mvs (A : Option Addr) (q cap : Nat) (M : Mv) : LRow := ⟨A, 41, 4, q, cap, mvF M⟩
theorem all_closed {n : Nat} {s : SN} (h : MidN n 5 n 0 s) : ∀ a b, a < n → b < n → a ≠ b → s.closed (a, b) = true := fun a b ha hb hab =>
  h.c0 (by omega) (a, b) ha hb hab (.inl ha) (.inr (by omega))
/-- Behind k rounds. -/
def RndN (n k : Nat) (s : SN) : Prop := MidN n k 0 0 s ∧ (6 ≤ k → ∀ a b, a < n → b < n → a ≠ b → s.closed (a, b) = true)
theorem RndN.next {n k : Nat} {s : SN} (hk : k < 6) (h : MidN n k n 0 s) : RndN n (k + 1) s := ⟨h.round, fun h6 => by
  obtain rfl : k = 5 := by omega
  exact all_closed h⟩
set_option maxRecDepth 100000 in
set_option maxHeartbeats 3200000 in
theorem snapDone_good (n m cap : Nat) (A : Option Addr) (M : Mv) (w : World) (hr : Rd w w.heap.size A (m * 4) (mvF M)) (hn1 : 1 ≤ n) (hn : n ≤ 3) (hm : m ≤ 4) :
    Calls Try.prog 6 #[.int .i64 n, .slice A m cap] w fun e w' => e = .returned (.bool true) ∧ Below w.heap.size w w' := by
  have HR := Lib.hid hr; clear hr
  go_enter Try.func6, Try.ntmps6
  go_wp2_with (first
    | (at_builtin; refine wpList_apMvs rfl (.tmp 18) (.tmp 19) rfl w.heap.size rfl (Own.empty _ _ _ _ (mvF Z0) _ (by simp) (by simp)) rfl (HR.out.alloc (Nat.le_refl _) _) m (Nat.zero_add m) (by unfold maxLen; omega) (by omega) (by simp) ?_; intro A3 c3 w3 ho3 hg3 ha3
       have HL3 : Hid (Lay w w3 [mvs A3 m c3 (Z0.app 0 M)]) := (((Lay.nil w).new #[] 41 4 0 (mvF Z0) _ rfl rfl (by unfold maxLen; omega) (fun j hj => absurd hj (by omega))).app 0 rfl ho3 hg3 ha3)
       clear ho3 hg3 ha3)
    | (at_builtin; refine wpList_apMv rfl (.tmp 20) (.tmp 22) rfl w.heap.size rfl w3.heap.size _ _ _ _ rfl rfl (HL3.out.own 0 _ rfl) rfl (by omega) HL3.out.size ?_; intro A4 c4 w4 ho4 hg4 ha4
       have HL4 := Lib.hid ((HL3.out.alloc _).app 0 rfl ho4 hg4 ha4)
       clear ho4 hg4 ha4)
    | fail)
  have HG4 : Hid (RndN n 0 (snE n ((Z0.app 0 M).push m 3 0 0 0) (m + 1))) := by
    show RndN _ _ _
    rw [snE_push]
    exact ⟨mid_start hn1 hm _, fun h => absurd h (by omega)⟩
  go_loopw [5, 6] (fun l i wr => ∃ (k q : Nat) (A' : Option Addr) (cap' : Nat) (M' : Mv), k ≤ 6 ∧ q ≤ 5 + k * 9 ∧ i = .int .i64 (k : Nat) ∧ l = .slice A' q cap' ∧ Hid (Lay w wr [mvs A' q cap' M']) ∧ Hid (RndN n k (snE n M' q))) (fun _ i _ => 6 - (intOf i).toNat)
  case atStart => exact ⟨0, m + 1, A4, c4, _, by omega, by omega, rfl, rfl, HL4, HG4⟩
  case round =>
    clear HL3 HL4 HG4
    obtain ⟨k, q, A1, cap1, M1, hk, hq, rfl, rfl, HL, HG⟩ := hrel
    by_cases hkN : k < 6
    · have HG2 : Hid (MidN n k 0 0 (snE n M1 q)) := Lib.hid HG.out.1
      clear HG
      go_wp2
      go_loopw [5, 7] (fun l iv wr => ∃ (i q2 : Nat) (A' : Option Addr) (cap' : Nat) (M' : Mv), i ≤ n ∧ q2 ≤ q + i * 3 ∧ iv = .int .i64 (i : Nat) ∧ l = .slice A' q2 cap' ∧ Hid (Lay w wr [mvs A' q2 cap' M']) ∧ Hid (MidN n k i 0 (snE n M' q2))) (fun _ iv _ => n - (intOf iv).toNat)
      case atStart => exact ⟨0, q, A1, cap1, M1, by omega, by omega, rfl, rfl, HL, HG2⟩
      case round =>
        clear HL HG2
        obtain ⟨i, q2, A2, cap2, M2, hi, hq2, rfl, rfl, HL, HG⟩ := hrel
        by_cases hin : i < n
        · go_wp2
          go_loopw [5, 8] (fun l jv wr => ∃ (j q3 : Nat) (A' : Option Addr) (cap' : Nat) (M' : Mv), j ≤ n ∧ q3 ≤ q2 + j ∧ jv = .int .i64 (j : Nat) ∧ l = .slice A' q3 cap' ∧ Hid (Lay w wr [mvs A' q3 cap' M']) ∧ Hid (MidN n k i j (snE n M' q3))) (fun _ jv _ => n - (intOf jv).toNat)
          case atStart => exact ⟨0, q2, A2, cap2, M2, by omega, by omega, rfl, rfl, HL, HG⟩
          case round =>
            clear HL HG
            obtain ⟨j, q3, A3, cap3, M3, hj, hq3, rfl, rfl, HL, HG⟩ := hrel
            have hz := HL.out.size
            by_cases hjn : j < n
            · by_cases hij : i = j
              · subst hij
                go_wp2
                go_roundw
                case rel => exact ⟨i + 1, q3, A3, cap3, M3, by omega, by omega, by go_num, rfl, HL, Lib.hid HG.out.skip⟩
                case measure => simp [intOf]; omega
              · have e1 : ((i : Int) != (j : Int)) = true := by rw [bne_iff_ne]; omega
                have e2 : (i != j) = true := by simpa using hij
                go_wp2_with (at_builtin; refine wpList_apMv rfl (.tmp 41) (.tmp 45) rfl w.heap.size rfl wr.heap.size _ _ _ _ rfl rfl (HL.out.own 0 _ rfl) rfl (by omega) HL.out.size ?_; intro A5 c5 w5 ho5 hg5 ha5
                             have HL5 := Lib.hid ((HL.out.alloc _).app 0 rfl ho5 hg5 ha5)
                             clear ho5 hg5 ha5)
                have HG5 : Hid (MidN n k i (j + 1) (snE n (M3.push q3 2 i j 0) (q3 + 1))) := by
                  show MidN _ _ _ _ _
                  rw [snE_push]
                  exact HG.out.take hin hjn hij
                go_roundw
                case rel => exact ⟨j + 1, by omega, q3 + 1, by omega, by go_num, A5, c5, ⟨rfl, rfl, rfl⟩, _, HL5, HG5⟩
                case measure => simp [intOf]; omega
            · obtain rfl : j = n := by omega
              go_wp2
              go_roundw
              case rel => exact ⟨i + 1, q3, A3, cap3, M3, by omega, by omega, by go_num, rfl, HL, Lib.hid HG.out.line⟩
              case measure => simp [intOf]; omega
        · obtain rfl : i = n := by omega
          go_wp2
          go_roundw
          case rel => exact ⟨k + 1, q2, A2, cap2, M2, by omega, by omega, by go_num, rfl, HL, Lib.hid (RndN.next hkN HG.out)⟩
          case measure => simp [intOf]; omega
    · obtain rfl : k = 6 := by omega
      have HD := Lib.hid (HG.out.1.fin (HG.out.2 (by omega)) (by omega))
      go_wp2_with fail
      refine (sn_short n q cap1 _ A1 M1 wr hn1 (by omega) (by omega) (Nat.le_refl _) (HL.out.own 0 _ rfl).rd).mono ?_
      rintro e w4 ⟨v, rfl, AC, cC, gk, gw, rfl, hL4⟩
      rw [HD.out]
      have HL4 := Lib.hid (HL.out.join hL4)
      clear hL4 HL HG
      go_wp2
      go_ret
      exact ⟨rfl, HL4.out.bel.alloc HL4.out.size _⟩
set_option maxRecDepth 100000 in
set_option maxHeartbeats 3200000 in
theorem snapDone_low (n : Int) (m cap : Nat) (A : Option Addr) (M : Mv) (w : World) (hr : Rd w w.heap.size A (m * 4) (mvF M)) (hn : n < 1) (hm : m ≤ 4) :
    Calls Try.prog 6 #[.int .i64 n, .slice A m cap] w fun e w' => e = .returned (.bool true) ∧ Below w.heap.size w w' := by
  have HR := Lib.hid hr; clear hr
  have hn0 : ¬ (0 : Int) < n := by omega
  go_enter Try.func6, Try.ntmps6
  go_wp2_with (first
    | (at_builtin; refine wpList_apMvs rfl (.tmp 18) (.tmp 19) rfl w.heap.size rfl (Own.empty _ _ _ _ (mvF Z0) _ (by simp) (by simp)) rfl (HR.out.alloc (Nat.le_refl _) _) m (Nat.zero_add m) (by unfold maxLen; omega) (by omega) (by simp) ?_; intro A3 c3 w3 ho3 hg3 ha3
       have HL3 : Hid (Lay w w3 [mvs A3 m c3 (Z0.app 0 M)]) := (((Lay.nil w).new #[] 41 4 0 (mvF Z0) _ rfl rfl (by unfold maxLen; omega) (fun j hj => absurd hj (by omega))).app 0 rfl ho3 hg3 ha3)
       clear ho3 hg3 ha3)
    | (at_builtin; refine wpList_apMv rfl (.tmp 20) (.tmp 22) rfl w.heap.size rfl w3.heap.size _ _ _ _ rfl rfl (HL3.out.own 0 _ rfl) rfl (by omega) HL3.out.size ?_; intro A4 c4 w4 ho4 hg4 ha4
       have HL4 := Lib.hid ((HL3.out.alloc _).app 0 rfl ho4 hg4 ha4)
       clear ho4 hg4 ha4)
    | fail)
  go_loopw [5, 6] (fun l i wr => ∃ k : Nat, k ≤ 6 ∧ i = .int .i64 (k : Nat) ∧ l = .slice A4 (m + 1) c4 ∧ wr = w4) (fun _ i _ => 6 - (intOf i).toNat)
  case atStart => exact ⟨0, by omega, rfl, rfl, rfl⟩
  case round =>
    obtain ⟨k, hk, rfl, rfl, rfl⟩ := hrel
    by_cases hkN : k < 6
    · go_wp2
      go_loopw [5, 7] (fun l i wr2 => i = .int .i64 0 ∧ l = .slice A4 (m + 1) c4 ∧ wr2 = wr) (fun _ _ _ => 0)
      case atStart => exact ⟨rfl, rfl, rfl⟩
      case round =>
        obtain ⟨rfl, rfl, rfl⟩ := hrel
        go_wp2
        go_roundw
        case rel => exact ⟨k + 1, by omega, by go_num, by simp⟩
        case measure => simp [intOf]; omega
    · obtain rfl : k = 6 := by omega
      have HP : Hid (playedB n ((m + 1 : Nat) : Int) = false) := Lib.hid (by
        cases h : playedB n ((m + 1 : Nat) : Int) with
        | false => rfl
        | true => have := (playedB_iff.1 h).1; omega)
      go_wp2_with fail
      refine (sn_bad n (m + 1) c4 A4 _ (by unfold maxLen; omega) HP.out).mono ?_
      rintro e w5 ⟨rfl, hb⟩
      have HB := Lib.hid (HL4.out.bel.trans (hb.mono HL4.out.size))
      clear hb
      go_wp2
      go_ret
      exact ⟨rfl, HB.out.alloc HB.out.size _⟩
theorem snapDone_big (n : Int) (m cap : Nat) (A : Option Addr) (w : World) (hm : m ≤ maxLen) (h : 3 < n ∨ 4 < m) :
    Calls Try.prog 6 #[.int .i64 n, .slice A m cap] w fun e w' => e = .returned (.bool true) ∧ Below w.heap.size w w' := by
  unfold maxLen at hm
  go_enter Try.func6, Try.ntmps6
  go_upto_region 3 with (fail)
  all_goals first
    | (exfalso; omega)
    | (go_wp2; go_ret; exact ⟨rfl, Below.refl _ _⟩)
    | (go_ret; exact ⟨rfl, Below.refl _ _⟩)
theorem snapDone_all (n : Int) (A : Option Addr) (m cap : Nat) (M : Mv) (w : World) (_ : (Lit.int .i64 n).wf = true) (hmc : m ≤ cap ∧ cap ≤ maxLen) (hr : Rd w w.heap.size A (m * 4) (mvF M)) :
    Calls Try.prog 6 #[.int .i64 n, .slice A m cap] w fun e w' => e = .returned (.bool true) ∧ Below w.heap.size w w' := by
  by_cases h : 3 < n ∨ 4 < m
  · exact snapDone_big n m cap A w (by omega) h
  · by_cases hn : n < 1
    · exact snapDone_low n m cap A M w hr hn (by omega)
    · obtain ⟨n, rfl⟩ := Int.eq_ofNat_of_zero_le (show 0 ≤ n by omega)
      exact snapDone_good n m cap A M w hr (by omega) (by omega) (by omega)
end Go.Proofs.Ytfcgjmekeonemaa
