/- The law TurnGoes, walked. -/
import Derived.Test.YtihkbkbbllmliaaTuGoes
set_option linter.unusedVariables false
set_option linter.unusedSimpArgs false
namespace Go.Proofs.Ytihkbkbbllmliaa
open Go.RowKit Go.Maps Go.MapKept

set_option maxRecDepth 100000 in
set_option maxHeartbeats 3200000 in
theorem turnGoes_good (n m cap : Nat) (A : Option Addr) (M : Mv) (w : World) (hr : Rd w w.heap.size A (m * 4) (mvF M)) (hn1 : 1 ≤ n) (hn : n ≤ 3) (hm : m ≤ 8) :
    Calls Try.prog 4 #[.int .i64 n, .slice A m cap] w fun e w' => e = .returned (.bool true) ∧ Below w.heap.size w w' := by
  have HR := Lib.hid hr; clear hr
  go_enter Try.func4, Try.ntmps4
  go_wp2_with (first
    | (at_builtin; refine wpList_apMvs rfl (.tmp 15) (.tmp 16) rfl w.heap.size rfl (Own.empty _ _ _ _ (mvF Z0) _ (by simp) (by simp)) rfl (HR.out.alloc (Nat.le_refl _) _) m (Nat.zero_add m) (by unfold maxLen; omega) (by omega) (by simp) ?_; intro A3 c3 w3 ho3 hg3 ha3
       have HL3 : Hid (Lay w w3 [mvs A3 m c3 (Z0.app 0 M)]) := (((Lay.nil w).new #[] 35 4 0 (mvF Z0) _ rfl rfl (by unfold maxLen; omega) (fun j hj => absurd hj (by omega))).app 0 rfl ho3 hg3 ha3)
       clear ho3 hg3 ha3)
    | fail)
  refine (drain_any n w3 hn).mono ?_
  rintro e w4 ⟨v, rfl, A4, q, c4, N, rfl, hL4, hD, hq48⟩
  have HL4 := Lib.hid (HL3.out.join hL4)
  have HD := Lib.hid hD
  clear hL4 hD HL3
  go_wp2_with (first
    | (at_builtin; refine wpList_apMvs rfl (.tmp 17) (.tmp 19) rfl w.heap.size rfl (HL4.out.own 1 _ rfl) rfl (HL4.out.rd 0 rfl) (m + q) rfl (by unfold maxLen; omega) (by omega) HL4.out.size ?_; intro A5 c5 w5 ho5 hg5 ha5
       have HL5 := Lib.hid (HL4.out.app 1 rfl ho5 hg5 ha5)
       clear ho5 hg5 ha5)
    | fail)
  have HB : Hid (playedB n ((m + q : Nat) : Int) = true) := Lib.hid (playedB_iff.2 ⟨by omega, by omega, by omega⟩)
  have hmid := drain_run HD.out (Z0.app 0 M) m
  have hw0 := hmid.way0
  have hgo : wantT (tuE n ((Z0.app 0 M).app m N) (m + q)) n = 0 ∨ (wantT (tuE n ((Z0.app 0 M).app m N) (m + q)) n ≠ 0 ∧ inT (tuE n ((Z0.app 0 M).app m N) (m + q)) n ≠ 0) := by
    by_cases h : wantT (tuE n ((Z0.app 0 M).app m N) (m + q)) n = 0
    · exact .inl h
    · exact .inr ⟨h, hmid.goes h⟩
  clear HD hmid
  refine (tu_good n w5 (m + q) c5 _ A5 ((Z0.app 0 M).app m N) hn1 (by omega) (by omega) (Nat.le_refl _) (HL5.out.rd 1 rfl)).mono ?_
  rintro e w6 ⟨v, rfl, AC, cC, rfl, hL⟩
  rw [hw0]
  have HL6 := Lib.hid (HL5.out.bel.trans (hL.bel.mono HL5.out.size))
  clear hL HL5 HL4
  generalize wantT (tuE n ((Z0.app 0 M).app m N) (m + q)) n = b at hgo ⊢
  generalize inT (tuE n ((Z0.app 0 M).app m N) (m + q)) n = a at hgo ⊢
  rcases hgo with rfl | ⟨h1, h2⟩
  · go_wp2_with (go_at_call 10; refine (bool_is (played_any n ((m + q : Nat) : Int) _) HB.out).mono ?_; rintro e w3 ⟨rfl, rfl⟩)
    go_ret
    exact ⟨rfl, HL6.out.alloc HL6.out.size _⟩
  · have e1 : ((b : Int) == 0) = false := by rw [beq_eq_false_iff_ne]; omega
    have e2 : ((a : Int) != 0) = true := by rw [bne_iff_ne]; omega
    go_wp2_with (go_at_call 10; refine (bool_is (played_any n ((m + q : Nat) : Int) _) HB.out).mono ?_; rintro e w3 ⟨rfl, rfl⟩)
    go_ret
    exact ⟨rfl, HL6.out.alloc HL6.out.size _⟩
theorem tu_low (n : Int) (q : Nat) (hn : n < 1) : playedB n (q : Int) = false := by
  cases h : playedB n (q : Int) with
  | false => rfl
  | true => have := (playedB_iff.1 h).1; omega
set_option maxRecDepth 100000 in
set_option maxHeartbeats 3200000 in
theorem turnGoes_zero (m cap : Nat) (A : Option Addr) (M : Mv) (w : World) (hr : Rd w w.heap.size A (m * 4) (mvF M)) (hm : m ≤ 8) :
    Calls Try.prog 4 #[.int .i64 0, .slice A m cap] w fun e w' => e = .returned (.bool true) ∧ Below w.heap.size w w' := by
  have HR := Lib.hid hr; clear hr
  go_enter Try.func4, Try.ntmps4
  go_wp2_with (first
    | (at_builtin; refine wpList_apMvs rfl (.tmp 15) (.tmp 16) rfl w.heap.size rfl (Own.empty _ _ _ _ (mvF Z0) _ (by simp) (by simp)) rfl (HR.out.alloc (Nat.le_refl _) _) m (Nat.zero_add m) (by unfold maxLen; omega) (by omega) (by simp) ?_; intro A3 c3 w3 ho3 hg3 ha3
       have HL3 : Hid (Lay w w3 [mvs A3 m c3 (Z0.app 0 M)]) := (((Lay.nil w).new #[] 35 4 0 (mvF Z0) _ rfl rfl (by unfold maxLen; omega) (fun j hj => absurd hj (by omega))).app 0 rfl ho3 hg3 ha3)
       clear ho3 hg3 ha3)
    | fail)
  refine (drain_any 0 w3 (by omega)).mono ?_
  rintro e w4 ⟨v, rfl, A4, q, c4, N, rfl, hL4, hD, hq48⟩
  have HL4 := Lib.hid (HL3.out.join hL4)
  clear hL4 hD HL3
  go_wp2_with (first
    | (at_builtin; refine wpList_apMvs rfl (.tmp 17) (.tmp 19) rfl w.heap.size rfl (HL4.out.own 1 _ rfl) rfl (HL4.out.rd 0 rfl) (m + q) rfl (by unfold maxLen; omega) (by omega) HL4.out.size ?_; intro A5 c5 w5 ho5 hg5 ha5
       have HL5 := Lib.hid (HL4.out.app 1 rfl ho5 hg5 ha5)
       clear ho5 hg5 ha5)
    | fail)
  have HB := Lib.hid (tu_low 0 (m + q) (by omega))
  refine (tu_bad 0 (m + q) c5 A5 w5 (by unfold maxLen; omega) HB.out).mono ?_
  rintro e w6 ⟨rfl, hb⟩
  have HL6 := Lib.hid (HL5.out.bel.trans (hb.mono HL5.out.size))
  clear hb HL5 HL4
  go_wp2_with (go_at_call 10; refine (bool_is (played_any 0 ((m + q : Nat) : Int) _) HB.out).mono ?_; rintro e w3 ⟨rfl, rfl⟩)
  go_ret
  exact ⟨rfl, HL6.out.alloc HL6.out.size _⟩
set_option maxRecDepth 100000 in
set_option maxHeartbeats 3200000 in
theorem turnGoes_neg (n : Int) (m cap : Nat) (A : Option Addr) (M : Mv) (w : World) (hr : Rd w w.heap.size A (m * 4) (mvF M)) (hn : n < 0) (hm : m ≤ 8) :
    Calls Try.prog 4 #[.int .i64 n, .slice A m cap] w fun e w' => e = .returned (.bool true) ∧ Below w.heap.size w w' := by
  have HR := Lib.hid hr; clear hr
  go_enter Try.func4, Try.ntmps4
  go_wp2_with (first
    | (at_builtin; refine wpList_apMvs rfl (.tmp 15) (.tmp 16) rfl w.heap.size rfl (Own.empty _ _ _ _ (mvF Z0) _ (by simp) (by simp)) rfl (HR.out.alloc (Nat.le_refl _) _) m (Nat.zero_add m) (by unfold maxLen; omega) (by omega) (by simp) ?_; intro A3 c3 w3 ho3 hg3 ha3
       have HL3 : Hid (Lay w w3 [mvs A3 m c3 (Z0.app 0 M)]) := (((Lay.nil w).new #[] 35 4 0 (mvF Z0) _ rfl rfl (by unfold maxLen; omega) (fun j hj => absurd hj (by omega))).app 0 rfl ho3 hg3 ha3)
       clear ho3 hg3 ha3)
    | fail)
  refine (drain_neg n w3 hn).mono ?_
  rintro e w4 ⟨rfl, rfl⟩
  go_wp2_with (first
    | (at_builtin; refine wpList_apMvs rfl (.tmp 17) (.tmp 19) rfl w.heap.size rfl (HL3.out.own 0 _ rfl) rfl (m := 0) (N := Z0) (show Rd _ 0 none (0 * 4) (mvF Z0) from Rd.zero _ _ _ _) m rfl (by unfold maxLen; omega) (by omega) HL3.out.size ?_; intro A5 c5 w5 ho5 hg5 ha5
       have HL5 := Lib.hid (HL3.out.app 0 rfl ho5 hg5 ha5)
       clear ho5 hg5 ha5)
    | fail)
  have HB := Lib.hid (tu_low n m (by omega))
  refine (tu_bad n m c5 A5 w5 (by unfold maxLen; omega) HB.out).mono ?_
  rintro e w6 ⟨rfl, hb⟩
  have HL6 := Lib.hid (HL5.out.bel.trans (hb.mono HL5.out.size))
  clear hb HL5 HL3
  go_wp2_with (go_at_call 10; refine (bool_is (played_any n m _) HB.out).mono ?_; rintro e w3 ⟨rfl, rfl⟩)
  go_ret
  exact ⟨rfl, HL6.out.alloc HL6.out.size _⟩
theorem turnGoes_big (n : Int) (m cap : Nat) (A : Option Addr) (w : World) (hm : m ≤ maxLen) (h : 3 < n ∨ 8 < m) :
    Calls Try.prog 4 #[.int .i64 n, .slice A m cap] w fun e w' => e = .returned (.bool true) ∧ Below w.heap.size w w' := by
  unfold maxLen at hm
  go_enter Try.func4, Try.ntmps4
  go_upto_region 3 with (fail)
  all_goals first
    | (exfalso; omega)
    | (go_wp2; go_ret; exact ⟨rfl, Below.refl _ _⟩)
    | (go_ret; exact ⟨rfl, Below.refl _ _⟩)
theorem turnGoes_all (n : Int) (A : Option Addr) (m cap : Nat) (M : Mv) (w : World) (_ : (Lit.int .i64 n).wf = true) (hmc : m ≤ cap ∧ cap ≤ maxLen) (hr : Rd w w.heap.size A (m * 4) (mvF M)) :
    Calls Try.prog 4 #[.int .i64 n, .slice A m cap] w fun e w' => e = .returned (.bool true) ∧ Below w.heap.size w w' := by
  by_cases h : 3 < n ∨ 8 < m
  · exact turnGoes_big n m cap A w (by omega) h
  · by_cases hn : n < 0
    · exact turnGoes_neg n m cap A M w hr hn (by omega)
    · obtain ⟨n, rfl⟩ := Int.eq_ofNat_of_zero_le (show 0 ≤ n by omega)
      rcases Nat.eq_zero_or_pos n with h0 | h0
      · subst h0
        exact turnGoes_zero m cap A M w hr (by omega)
      · exact turnGoes_good n m cap A M w hr h0 (by omega) (by omega)
end Go.Proofs.Ytihkbkbbllmliaa
