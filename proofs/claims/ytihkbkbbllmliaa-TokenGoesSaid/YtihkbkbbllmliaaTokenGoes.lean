/- The law TokenGoes, walked. -/
import Derived.Test.YtihkbkbbllmliaaTkGoes
set_option linter.unusedVariables false
set_option linter.unusedSimpArgs false
namespace Go.Proofs.Ytihkbkbbllmliaa
open Go.RowKit Go.Maps Go.MapKept

theorem bool_no {b : Bool} (h : b = true → False) : b = false := by
  cases b
  · rfl
  · exact (h rfl).elim
set_option maxRecDepth 100000 in
set_option maxHeartbeats 3200000 in
theorem tokenGoes_good (n m cap cap1 : Nat) (A A1 : Option Addr) (u : Nat → Int) (M : Mv) (w : World) (hru : Rd w w.heap.size A1 n (fun j => .int .i64 (u j))) (hr : Rd w w.heap.size A (m * 4) (mvF M)) (hn1 : 1 ≤ n) (hn : n ≤ 3) (hm : m ≤ 8) (ht : TreeOk n u) :
    Calls Try.prog 7 #[.slice A1 n cap1, .slice A m cap] w fun e w' => e = .returned (.bool true) ∧ Below w.heap.size w w' := by
  have HR := Lib.hid hr; clear hr
  have HRU := Lib.hid hru; clear hru
  have HT := Lib.hid ht
  obtain ⟨r, hrt, -⟩ := ht.root
  have HRT := Lib.hid hrt
  clear ht hrt
  go_enter Try.func7, Try.ntmps7
  go_wp2_with (first
    | (at_builtin; refine wpList_apMvs rfl (.tmp 16) (.tmp 17) rfl w.heap.size rfl (Own.empty _ _ _ _ (mvF Z0) _ (by simp) (by simp)) rfl (HR.out.alloc (Nat.le_refl _) _) m (Nat.zero_add m) (by unfold maxLen; omega) (by omega) (by simp) ?_; intro A3 c3 w3 ho3 hg3 ha3
       have HL3 : Hid (Lay w w3 [mvs A3 m c3 (Z0.app 0 M)]) := (((Lay.nil w).new #[] 35 4 0 (mvF Z0) _ rfl rfl (by unfold maxLen; omega) (fun j hj => absurd hj (by omega))).app 0 rfl ho3 hg3 ha3)
       clear ho3 hg3 ha3)
    | fail)
  refine (drain_any n w3 hn).mono ?_
  rintro e w4 ⟨v, rfl, A4, q, c4, N, rfl, hL4, hD, hq48⟩
  have HL4 := Lib.hid (HL3.out.join hL4)
  have HD := Lib.hid hD
  clear hL4 hD HL3
  go_wp2_with (first
    | (at_builtin; refine wpList_apMvs rfl (.tmp 18) (.tmp 21) rfl w.heap.size rfl (HL4.out.own 1 _ rfl) rfl (HL4.out.rd 0 rfl) (m + q) rfl (by unfold maxLen; omega) (by omega) HL4.out.size ?_; intro A5 c5 w5 ho5 hg5 ha5
       have HL5 := Lib.hid (HL4.out.app 1 rfl ho5 hg5 ha5)
       clear ho5 hg5 ha5)
    | fail)
  have HB : Hid (playedB n ((m + q : Nat) : Int) = true ∧ TreeOk n u) := Lib.hid ⟨playedB_iff.2 ⟨by omega, by omega, by omega⟩, HT.out⟩
  have hmid := drain_runK HD.out hn HT.out HRT.out (Z0.app 0 M) m
  have hw0 := hmid.way0
  have hgo : wantK (tkE n (vN u) r ((Z0.app 0 M).app m N) (m + q)) n = 0 ∨ (wantK (tkE n (vN u) r ((Z0.app 0 M).app m N) (m + q)) n ≠ 0 ∧ inK (tkE n (vN u) r ((Z0.app 0 M).app m N) (m + q)) n ≠ 0) := by
    by_cases h : wantK (tkE n (vN u) r ((Z0.app 0 M).app m N) (m + q)) n = 0
    · exact .inl h
    · exact .inr ⟨h, hmid.goes h⟩
  clear HD hmid
  refine (tk_good n w5 (m + q) c5 cap1 _ r A5 A1 u ((Z0.app 0 M).app m N) hn1 (by omega) (by omega) (Nat.le_refl _) ((HRU.out.below HL5.out.bel).more HL5.out.size) HT.out HRT.out (HL5.out.rd 1 rfl)).mono ?_
  rintro e w6 ⟨v, rfl, AC, cC, rfl, hL⟩
  rw [hw0]
  have HL6 := Lib.hid (HL5.out.bel.trans (hL.bel.mono HL5.out.size))
  clear hL HL5 HL4
  generalize wantK (tkE n (vN u) r ((Z0.app 0 M).app m N) (m + q)) n = b at hgo ⊢
  generalize inK (tkE n (vN u) r ((Z0.app 0 M).app m N) (m + q)) n = a at hgo ⊢
  rcases hgo with rfl | ⟨h1, h2⟩
  · go_wp2_with (go_at_call 14; refine (treed_any A1 n cap1 w.heap.size (m + q) u _ (by unfold maxLen; omega) (HRU.out.below (HL6.out.alloc HL6.out.size _))).mono ?_; rintro e w3 ⟨b3, rfl, hb3, rfl⟩; obtain rfl := hb3.2 HB.out; clear hb3 HB)
    go_ret
    exact ⟨rfl, HL6.out.alloc HL6.out.size _⟩
  · have e1 : ((b : Int) == 0) = false := by rw [beq_eq_false_iff_ne]; omega
    have e2 : ((a : Int) != 0) = true := by rw [bne_iff_ne]; omega
    go_wp2_with (go_at_call 14; refine (treed_any A1 n cap1 w.heap.size (m + q) u _ (by unfold maxLen; omega) (HRU.out.below (HL6.out.alloc HL6.out.size _))).mono ?_; rintro e w3 ⟨b3, rfl, hb3, rfl⟩; obtain rfl := hb3.2 HB.out; clear hb3 HB)
    go_ret
    exact ⟨rfl, HL6.out.alloc HL6.out.size _⟩
set_option maxRecDepth 100000 in
set_option maxHeartbeats 3200000 in
theorem tokenGoes_bad (n m cap cap1 : Nat) (A A1 : Option Addr) (u : Nat → Int) (M : Mv) (w : World) (hru : Rd w w.heap.size A1 n (fun j => .int .i64 (u j))) (hr : Rd w w.heap.size A (m * 4) (mvF M)) (hn : n ≤ 3) (hm : m ≤ 8) (ht : ¬ (1 ≤ n ∧ TreeOk n u)) :
    Calls Try.prog 7 #[.slice A1 n cap1, .slice A m cap] w fun e w' => e = .returned (.bool true) ∧ Below w.heap.size w w' := by
  have HR := Lib.hid hr; clear hr
  have HRU := Lib.hid hru; clear hru
  have HT := Lib.hid ht; clear ht
  go_enter Try.func7, Try.ntmps7
  go_wp2_with (first
    | (at_builtin; refine wpList_apMvs rfl (.tmp 16) (.tmp 17) rfl w.heap.size rfl (Own.empty _ _ _ _ (mvF Z0) _ (by simp) (by simp)) rfl (HR.out.alloc (Nat.le_refl _) _) m (Nat.zero_add m) (by unfold maxLen; omega) (by omega) (by simp) ?_; intro A3 c3 w3 ho3 hg3 ha3
       have HL3 : Hid (Lay w w3 [mvs A3 m c3 (Z0.app 0 M)]) := (((Lay.nil w).new #[] 35 4 0 (mvF Z0) _ rfl rfl (by unfold maxLen; omega) (fun j hj => absurd hj (by omega))).app 0 rfl ho3 hg3 ha3)
       clear ho3 hg3 ha3)
    | fail)
  refine (drain_any n w3 hn).mono ?_
  rintro e w4 ⟨v, rfl, A4, q, c4, N, rfl, hL4, hD, hq48⟩
  have HL4 := Lib.hid (HL3.out.join hL4)
  have HD := Lib.hid hD
  clear hL4 hD HL3
  go_wp2_with (first
    | (at_builtin; refine wpList_apMvs rfl (.tmp 18) (.tmp 21) rfl w.heap.size rfl (HL4.out.own 1 _ rfl) rfl (HL4.out.rd 0 rfl) (m + q) rfl (by unfold maxLen; omega) (by omega) HL4.out.size ?_; intro A5 c5 w5 ho5 hg5 ha5
       have HL5 := Lib.hid (HL4.out.app 1 rfl ho5 hg5 ha5)
       clear ho5 hg5 ha5)
    | fail)
  have HB : Hid (¬ (playedB n ((m + q : Nat) : Int) = true ∧ TreeOk n u)) := Lib.hid fun h => HT.out ⟨by have := (playedB_iff.1 h.1).1; omega, h.2⟩
  clear HD HT
  refine (tk_bad n (m + q) c5 cap1 A5 A1 u w5 (by unfold maxLen; omega) (by unfold maxLen; omega) ((HRU.out.below HL5.out.bel).more HL5.out.size) HB.out).mono ?_
  rintro e w6 ⟨c, hc, rfl, hb⟩
  have e1 : (c != 0) = true := by rw [bne_iff_ne]; exact hc
  have HL6 := Lib.hid (HL5.out.bel.trans (hb.mono HL5.out.size))
  clear hb HL5 HL4
  go_wp2_with (go_at_call 14; refine (treed_any A1 n cap1 w.heap.size (m + q) u _ (by unfold maxLen; omega) (HRU.out.below (HL6.out.alloc HL6.out.size _))).mono ?_; rintro e w3 ⟨b3, rfl, hb3, rfl⟩; obtain rfl : b3 = false := bool_no fun h => HB.out (hb3.1 h); clear hb3 HB)
  go_ret
  exact ⟨rfl, HL6.out.alloc HL6.out.size _⟩
theorem tokenGoes_big (n m cap cap1 : Nat) (A A1 : Option Addr) (w : World) (hn : n ≤ maxLen) (hm : m ≤ maxLen) (h : 3 < n ∨ 8 < m) :
    Calls Try.prog 7 #[.slice A1 n cap1, .slice A m cap] w fun e w' => e = .returned (.bool true) ∧ Below w.heap.size w w' := by
  unfold maxLen at hm hn
  go_enter Try.func7, Try.ntmps7
  go_upto_region 3 with (fail)
  all_goals first
    | (exfalso; omega)
    | (go_wp2; go_ret; exact ⟨rfl, Below.refl _ _⟩)
    | (go_ret; exact ⟨rfl, Below.refl _ _⟩)
theorem tokenGoes_all (A1 : Option Addr) (n cap1 : Nat) (u : Nat → Int) (A : Option Addr) (m cap : Nat) (M : Mv) (w : World) (hnc : n ≤ cap1 ∧ cap1 ≤ maxLen) (_ : ∀ i, i < n → (Lit.int .i64 (u i)).wf = true) (hru : Rd w w.heap.size A1 n (fun j => .int .i64 (u j))) (hmc : m ≤ cap ∧ cap ≤ maxLen) (hr : Rd w w.heap.size A (m * 4) (mvF M)) :
    Calls Try.prog 7 #[.slice A1 n cap1, .slice A m cap] w fun e w' => e = .returned (.bool true) ∧ Below w.heap.size w w' := by
  by_cases h : 3 < n ∨ 8 < m
  · exact tokenGoes_big n m cap cap1 A A1 w (by omega) (by omega) h
  · by_cases ht : 1 ≤ n ∧ TreeOk n u
    · exact tokenGoes_good n m cap cap1 A A1 u M w hru hr ht.1 (by omega) (by omega) ht.2
    · exact tokenGoes_bad n m cap cap1 A A1 u M w hru hr (by omega) (by omega) ht
end Go.Proofs.Ytihkbkbbllmliaa
