/- The walk of elect's 'do'. -/
import Derived.Test.YtlfffanadoldpaaEl2
set_option linter.unusedVariables false
set_option linter.unusedSimpArgs false
namespace Go.Proofs.Ytlfffanadoldpaa
open Go.RowKit

theorem cl_is (b : Bool) (i : Int) (n q g gl : Nat) (w : World) (hN : w.cell? ⟨q, 0, none⟩ = some (.pointer (some ⟨g, 0, none⟩))) (h : w.cell? ⟨g, 0, none⟩ = some (.slice (some ⟨gl, 0, none⟩) n n)) (hb : (decide (0 ≤ i) && decide (i < (n : Int))) = b) :
    Calls Try.prog 12 #[.int .i64 i, .pointer (some ⟨q, 0, none⟩)] w fun e w' => e = .returned (.bool (!b)) ∧ w = w' := by
  subst hb
  by_cases h0 : i < 0
  · go_enter Try.func12, Try.ntmps12
    go_wp2
    go_ret
    exact ⟨ret_bool (by simp [show ¬ 0 ≤ i by omega]), rfl⟩
  · have h0' : 0 ≤ i := by omega
    clear h0
    go_enter Try.func12, Try.ntmps12
    go_wp2
    go_ret
    exact ⟨ret_bool (by rw [Bool.eq_iff_iff]; simp; first | done | omega), rfl⟩
section
variable (g gl n : Nat) (s : ES) (A : Option Addr) (cap : Nat) (R : List LRow) (w0 w : World)
theorem do_kind (k f t v : Int) (hk : k ≠ 1 ∧ k ≠ 2 ∧ k ≠ 3 ∧ k ≠ 6) (h : Lay w0 w (rowsE g gl n s A cap R)) :
    Calls Try.prog 10 #[.pointer (some ⟨g, 0, none⟩), .agg #[.int .i64 k, .int .i64 f, .int .i64 t, .int .i64 v]] w fun e w' => e = .returned (.int .i64 6) ∧ Lay w0 w' (rowsE g gl n s A cap R) := by
  have H := Lib.hid h; clear h
  have e1 : (k == 2) = false := by simpa using hk.2.1
  have e2 : (k == 3) = false := by simpa using hk.2.2.1
  have e3 : (k != 1) = true := by simpa using hk.1
  have e4 : (k != 6) = true := by simpa using hk.2.2.2
  clear hk
  go_enter Try.func10, Try.ntmps10
  go_wp2
  go_ret
  exact ⟨rfl, (H.out.alloc _).alloc _⟩
set_option maxRecDepth 100000 in
set_option maxHeartbeats 1000000 in
theorem do_stand (f t v : Int) (hn : n ≤ 6) (hB : EI n 100 s) (h : Lay w0 w (rowsE g gl n s A cap R)) :
    Calls Try.prog 10 #[.pointer (some ⟨g, 0, none⟩), .agg #[.int .i64 1, .int .i64 f, .int .i64 t, .int .i64 v]] w fun e w' => e = .returned (.int .i64 (elStep n 1 f t s).1) ∧ ∃ A' cap', Lay w0 w' (rowsE g gl n (elStep n 1 f t s).2 A' cap' R) := by
  obtain ⟨r, hr⟩ : ∃ r, r = elStep n 1 f t s := ⟨_, rfl⟩
  rw [← hr]
  rw [el_stand] at hr
  have HR := Lib.hid hr
  clear hr
  obtain ⟨b, hb⟩ : ∃ b, (decide (0 ≤ f) && decide (f < (n : Int))) = b := ⟨_, rfl⟩
  have hr := HR.out
  rw [hb] at hr
  have HR := Lib.hid hr
  clear hr
  have HB := Lib.hid hb
  have H := Lib.hid h; clear h
  have c0 := (el_heads H.out).1
  have hl := (H.out.at_ 0 rfl).2
  go_enter Try.func10, Try.ntmps10
  go_wp2_with fail
  clear c0
  refine at_world (F := fun W' => Calls _ _ _ W' _) (fun W => Lay w0 W (rowsE g gl n s A cap R) ∧ W.cell? ⟨w.heap.size, 0, none⟩ = some (.pointer (some ⟨g, 0, none⟩)) ∧ W.cell? ⟨w.heap.size + 1, 0, none⟩ = some (.int .i64 1) ∧ W.cell? ⟨w.heap.size + 1, 1, none⟩ = some (.int .i64 f) ∧ W.cell? ⟨w.heap.size + 1, 2, none⟩ = some (.int .i64 t) ∧ W.cell? ⟨w.heap.size + 1, 3, none⟩ = some (.int .i64 v))
    ⟨(H.out.alloc _).alloc _, by rw [World.cell?_alloc_lt _ _ _ (by simp), World.cell?_alloc_at _ _ _ _ rfl]; rfl, by rw [World.cell?_alloc_at _ _ _ _ (by simp)]; rfl, by rw [World.cell?_alloc_at _ _ _ _ (by simp)]; rfl, by rw [World.cell?_alloc_at _ _ _ _ (by simp)]; rfl, by rw [World.cell?_alloc_at _ _ _ _ (by simp)]; rfl⟩ ?_
  intro W ⟨hW, hN, m0, m1, m2, m3⟩
  generalize w.heap.size + 1 = qm at m0 m1 m2 m3 ⊢
  generalize w.heap.size = qn at hN ⊢
  have HW := Lib.hid hW
  clear hW H hl
  have c0 := (el_heads HW.out).1
  refine (cl_is _ f n qn g gl _ hN c0 HB.out).mono ?_
  rintro e w3 ⟨rfl, rfl⟩
  cases b
  · have HR := Lib.hid (HR.out.trans (if_pos (by simp)))
    go_wp2
    go_ret
    have e9 := HR.out
    subst e9
    exact ⟨rfl, A, cap, HW.out⟩
  · have HR := Lib.hid (HR.out.trans (if_neg (by simp)))
    have hff : 0 ≤ f ∧ f < n := by simpa using hb
    clear hb
    obtain ⟨i, rfl⟩ := Int.eq_ofNat_of_zero_le hff.1
    have hi : i < n := by omega
    have hr := HR.out
    rw [Int.toNat_natCast] at hr
    have HR := Lib.hid hr
    clear hr
    clear hff HB
    go_wp2_with fail
    refine (stand_any g gl n s A cap R w0 _ i hi hn (hB.T i) (by have := hB.led; omega) HW.out).mono ?_
    rintro e w3 ⟨rfl, A3, c3, h3⟩
    have H3 := Lib.hid h3; clear h3
    go_wp2
    go_ret
    have e9 := HR.out
    subst e9
    exact ⟨rfl, A3, c3, H3.out⟩
set_option maxRecDepth 100000 in
set_option maxHeartbeats 1000000 in
theorem do_crash (f t v : Int) (hn : n ≤ 6) (hB : EI n 100 s) (h : Lay w0 w (rowsE g gl n s A cap R)) :
    Calls Try.prog 10 #[.pointer (some ⟨g, 0, none⟩), .agg #[.int .i64 6, .int .i64 f, .int .i64 t, .int .i64 v]] w fun e w' => e = .returned (.int .i64 (elStep n 6 f t s).1) ∧ ∃ A' cap', Lay w0 w' (rowsE g gl n (elStep n 6 f t s).2 A' cap' R) := by
  obtain ⟨r, hr⟩ : ∃ r, r = elStep n 6 f t s := ⟨_, rfl⟩
  rw [← hr]
  rw [el_crash] at hr
  have HR := Lib.hid hr
  clear hr
  obtain ⟨b, hb⟩ : ∃ b, (decide (0 ≤ f) && decide (f < (n : Int))) = b := ⟨_, rfl⟩
  have hr := HR.out
  rw [hb] at hr
  have HR := Lib.hid hr
  clear hr
  have HB := Lib.hid hb
  have H := Lib.hid h; clear h
  have c0 := (el_heads H.out).1
  have hl := (H.out.at_ 0 rfl).2
  go_enter Try.func10, Try.ntmps10
  go_wp2_with fail
  clear c0
  refine at_world (F := fun W' => Calls _ _ _ W' _) (fun W => Lay w0 W (rowsE g gl n s A cap R) ∧ W.cell? ⟨w.heap.size, 0, none⟩ = some (.pointer (some ⟨g, 0, none⟩)) ∧ W.cell? ⟨w.heap.size + 1, 0, none⟩ = some (.int .i64 6) ∧ W.cell? ⟨w.heap.size + 1, 1, none⟩ = some (.int .i64 f) ∧ W.cell? ⟨w.heap.size + 1, 2, none⟩ = some (.int .i64 t) ∧ W.cell? ⟨w.heap.size + 1, 3, none⟩ = some (.int .i64 v))
    ⟨(H.out.alloc _).alloc _, by rw [World.cell?_alloc_lt _ _ _ (by simp), World.cell?_alloc_at _ _ _ _ rfl]; rfl, by rw [World.cell?_alloc_at _ _ _ _ (by simp)]; rfl, by rw [World.cell?_alloc_at _ _ _ _ (by simp)]; rfl, by rw [World.cell?_alloc_at _ _ _ _ (by simp)]; rfl, by rw [World.cell?_alloc_at _ _ _ _ (by simp)]; rfl⟩ ?_
  intro W ⟨hW, hN, m0, m1, m2, m3⟩
  generalize w.heap.size + 1 = qm at m0 m1 m2 m3 ⊢
  generalize w.heap.size = qn at hN ⊢
  have HW := Lib.hid hW
  clear hW H hl
  have c0 := (el_heads HW.out).1
  refine (cl_is _ f n qn g gl _ hN c0 HB.out).mono ?_
  rintro e w3 ⟨rfl, rfl⟩
  cases b
  · have HR := Lib.hid (HR.out.trans (if_pos (by simp)))
    go_wp2
    go_ret
    have e9 := HR.out
    subst e9
    exact ⟨rfl, A, cap, HW.out⟩
  · have HR := Lib.hid (HR.out.trans (if_neg (by simp)))
    have hff : 0 ≤ f ∧ f < n := by simpa using hb
    clear hb
    obtain ⟨i, rfl⟩ := Int.eq_ofNat_of_zero_le hff.1
    have hi : i < n := by omega
    have hr := HR.out
    rw [Int.toNat_natCast] at hr
    have HR := Lib.hid hr
    clear hr
    clear hff HB
    go_wp2_with fail
    refine (crash_any g gl n s A cap R w0 _ i hi HW.out).mono ?_
    rintro e w3 ⟨rfl, h3⟩
    have H3 := Lib.hid h3; clear h3
    go_wp2
    go_ret
    have e9 := HR.out
    subst e9
    exact ⟨rfl, A, cap, H3.out⟩
set_option maxRecDepth 100000 in
set_option maxHeartbeats 1000000 in
theorem do_vote (f t v : Int) (hn : n ≤ 6) (hB : EI n 100 s) (h : Lay w0 w (rowsE g gl n s A cap R)) :
    Calls Try.prog 10 #[.pointer (some ⟨g, 0, none⟩), .agg #[.int .i64 2, .int .i64 f, .int .i64 t, .int .i64 v]] w fun e w' => e = .returned (.int .i64 (elStep n 2 f t s).1) ∧ ∃ A' cap', Lay w0 w' (rowsE g gl n (elStep n 2 f t s).2 A' cap' R) := by
  obtain ⟨r, hr⟩ : ∃ r, r = elStep n 2 f t s := ⟨_, rfl⟩
  rw [← hr]
  rw [el_vote] at hr
  have HR := Lib.hid hr
  clear hr
  obtain ⟨b, hb⟩ : ∃ b, (decide (0 ≤ f) && decide (f < (n : Int))) = b := ⟨_, rfl⟩
  have hr := HR.out
  rw [hb] at hr
  have HR := Lib.hid hr
  clear hr
  have HB := Lib.hid hb
  have H := Lib.hid h; clear h
  have c0 := (el_heads H.out).1
  have hl := (H.out.at_ 0 rfl).2
  go_enter Try.func10, Try.ntmps10
  go_wp2_with fail
  clear c0
  refine at_world (F := fun W' => Calls _ _ _ W' _) (fun W => Lay w0 W (rowsE g gl n s A cap R) ∧ W.cell? ⟨w.heap.size, 0, none⟩ = some (.pointer (some ⟨g, 0, none⟩)) ∧ W.cell? ⟨w.heap.size + 1, 0, none⟩ = some (.int .i64 2) ∧ W.cell? ⟨w.heap.size + 1, 1, none⟩ = some (.int .i64 f) ∧ W.cell? ⟨w.heap.size + 1, 2, none⟩ = some (.int .i64 t) ∧ W.cell? ⟨w.heap.size + 1, 3, none⟩ = some (.int .i64 v))
    ⟨(H.out.alloc _).alloc _, by rw [World.cell?_alloc_lt _ _ _ (by simp), World.cell?_alloc_at _ _ _ _ rfl]; rfl, by rw [World.cell?_alloc_at _ _ _ _ (by simp)]; rfl, by rw [World.cell?_alloc_at _ _ _ _ (by simp)]; rfl, by rw [World.cell?_alloc_at _ _ _ _ (by simp)]; rfl, by rw [World.cell?_alloc_at _ _ _ _ (by simp)]; rfl⟩ ?_
  intro W ⟨hW, hN, m0, m1, m2, m3⟩
  generalize w.heap.size + 1 = qm at m0 m1 m2 m3 ⊢
  generalize w.heap.size = qn at hN ⊢
  have HW := Lib.hid hW
  clear hW H hl
  have c0 := (el_heads HW.out).1
  refine (cl_is _ f n qn g gl _ hN c0 HB.out).mono ?_
  rintro e w3 ⟨rfl, rfl⟩
  cases b
  · have HR := Lib.hid (HR.out.trans (if_pos (by simp)))
    go_wp2
    go_ret
    have e9 := HR.out
    subst e9
    exact ⟨rfl, A, cap, HW.out⟩
  obtain ⟨c, hc⟩ : ∃ c, (decide (0 ≤ t) && decide (t < (n : Int))) = c := ⟨_, rfl⟩
  have hr := HR.out
  rw [hc] at hr
  have HR := Lib.hid hr
  clear hr
  have HC := Lib.hid hc
  have hff : 0 ≤ f ∧ f < n := by simpa using hb
  clear hb
  go_wp2_with fail
  refine (cl_is _ t n qn g gl _ hN c0 HC.out).mono ?_
  rintro e w3 ⟨rfl, rfl⟩
  cases c
  · have HR := Lib.hid (HR.out.trans (if_pos (by simp)))
    go_wp2
    go_ret
    have e9 := HR.out
    subst e9
    exact ⟨rfl, A, cap, HW.out⟩
  have htt : 0 ≤ t ∧ t < n := by simpa using hc
  clear hc
  by_cases hft : f = t
  · subst hft
    have HR := Lib.hid (HR.out.trans (if_pos (by simp)))
    go_wp2
    go_ret
    have e9 := HR.out
    subst e9
    exact ⟨rfl, A, cap, HW.out⟩
  have e1 : (f == t) = false := by simpa using hft
  have hr := HR.out
  rw [e1] at hr
  have HR := Lib.hid hr
  clear hr
  have HR := Lib.hid (HR.out.trans (if_neg (by simp)))
  obtain ⟨i, rfl⟩ := Int.eq_ofNat_of_zero_le hff.1
  obtain ⟨j, rfl⟩ := Int.eq_ofNat_of_zero_le htt.1
  have hi : i < n := by omega
  have hj : j < n := by omega
  have hij : i ≠ j := fun h => hft (by rw [h])
  have hr := HR.out
  rw [Int.toNat_natCast, Int.toNat_natCast] at hr
  have HR := Lib.hid hr
  clear hr
  clear htt hff HB HC hft
  go_wp2_with fail
  refine (vote_any g gl n s A cap R w0 _ i j true hi hj hij hn hB HW.out).mono ?_
  rintro e w3 ⟨rfl, A3, c3, h3⟩
  have H3 := Lib.hid h3; clear h3
  go_wp2
  go_ret
  have e9 := HR.out
  subst e9
  exact ⟨rfl, A3, c3, H3.out⟩
set_option maxRecDepth 100000 in
set_option maxHeartbeats 1000000 in
theorem do_beat (f t v : Int) (hn : n ≤ 6) (hB : EI n 100 s) (h : Lay w0 w (rowsE g gl n s A cap R)) :
    Calls Try.prog 10 #[.pointer (some ⟨g, 0, none⟩), .agg #[.int .i64 3, .int .i64 f, .int .i64 t, .int .i64 v]] w fun e w' => e = .returned (.int .i64 (elStep n 3 f t s).1) ∧ ∃ A' cap', Lay w0 w' (rowsE g gl n (elStep n 3 f t s).2 A' cap' R) := by
  obtain ⟨r, hr⟩ : ∃ r, r = elStep n 3 f t s := ⟨_, rfl⟩
  rw [← hr]
  rw [el_beat] at hr
  have HR := Lib.hid hr
  clear hr
  obtain ⟨b, hb⟩ : ∃ b, (decide (0 ≤ f) && decide (f < (n : Int))) = b := ⟨_, rfl⟩
  have hr := HR.out
  rw [hb] at hr
  have HR := Lib.hid hr
  clear hr
  have HB := Lib.hid hb
  have H := Lib.hid h; clear h
  have c0 := (el_heads H.out).1
  have hl := (H.out.at_ 0 rfl).2
  go_enter Try.func10, Try.ntmps10
  go_wp2_with fail
  clear c0
  refine at_world (F := fun W' => Calls _ _ _ W' _) (fun W => Lay w0 W (rowsE g gl n s A cap R) ∧ W.cell? ⟨w.heap.size, 0, none⟩ = some (.pointer (some ⟨g, 0, none⟩)) ∧ W.cell? ⟨w.heap.size + 1, 0, none⟩ = some (.int .i64 3) ∧ W.cell? ⟨w.heap.size + 1, 1, none⟩ = some (.int .i64 f) ∧ W.cell? ⟨w.heap.size + 1, 2, none⟩ = some (.int .i64 t) ∧ W.cell? ⟨w.heap.size + 1, 3, none⟩ = some (.int .i64 v))
    ⟨(H.out.alloc _).alloc _, by rw [World.cell?_alloc_lt _ _ _ (by simp), World.cell?_alloc_at _ _ _ _ rfl]; rfl, by rw [World.cell?_alloc_at _ _ _ _ (by simp)]; rfl, by rw [World.cell?_alloc_at _ _ _ _ (by simp)]; rfl, by rw [World.cell?_alloc_at _ _ _ _ (by simp)]; rfl, by rw [World.cell?_alloc_at _ _ _ _ (by simp)]; rfl⟩ ?_
  intro W ⟨hW, hN, m0, m1, m2, m3⟩
  generalize w.heap.size + 1 = qm at m0 m1 m2 m3 ⊢
  generalize w.heap.size = qn at hN ⊢
  have HW := Lib.hid hW
  clear hW H hl
  have c0 := (el_heads HW.out).1
  refine (cl_is _ f n qn g gl _ hN c0 HB.out).mono ?_
  rintro e w3 ⟨rfl, rfl⟩
  cases b
  · have HR := Lib.hid (HR.out.trans (if_pos (by simp)))
    go_wp2
    go_ret
    have e9 := HR.out
    subst e9
    exact ⟨rfl, A, cap, HW.out⟩
  obtain ⟨c, hc⟩ : ∃ c, (decide (0 ≤ t) && decide (t < (n : Int))) = c := ⟨_, rfl⟩
  have hr := HR.out
  rw [hc] at hr
  have HR := Lib.hid hr
  clear hr
  have HC := Lib.hid hc
  have hff : 0 ≤ f ∧ f < n := by simpa using hb
  clear hb
  go_wp2_with fail
  refine (cl_is _ t n qn g gl _ hN c0 HC.out).mono ?_
  rintro e w3 ⟨rfl, rfl⟩
  cases c
  · have HR := Lib.hid (HR.out.trans (if_pos (by simp)))
    go_wp2
    go_ret
    have e9 := HR.out
    subst e9
    exact ⟨rfl, A, cap, HW.out⟩
  have htt : 0 ≤ t ∧ t < n := by simpa using hc
  clear hc
  by_cases hft : f = t
  · subst hft
    have HR := Lib.hid (HR.out.trans (if_pos (by simp)))
    go_wp2
    go_ret
    have e9 := HR.out
    subst e9
    exact ⟨rfl, A, cap, HW.out⟩
  have e1 : (f == t) = false := by simpa using hft
  have hr := HR.out
  rw [e1] at hr
  have HR := Lib.hid hr
  clear hr
  have HR := Lib.hid (HR.out.trans (if_neg (by simp)))
  obtain ⟨i, rfl⟩ := Int.eq_ofNat_of_zero_le hff.1
  obtain ⟨j, rfl⟩ := Int.eq_ofNat_of_zero_le htt.1
  have hi : i < n := by omega
  have hj : j < n := by omega
  have hij : i ≠ j := fun h => hft (by rw [h])
  have hr := HR.out
  rw [Int.toNat_natCast, Int.toNat_natCast] at hr
  have HR := Lib.hid hr
  clear hr
  clear htt hff HB HC hft
  go_wp2_with fail
  refine (beat_any g gl n s A cap R w0 _ i j hi hj hB HW.out).mono ?_
  rintro e w3 ⟨rfl, h3⟩
  have H3 := Lib.hid h3; clear h3
  go_wp2
  go_ret
  have e9 := HR.out
  subst e9
  exact ⟨rfl, A, cap, H3.out⟩
theorem do_any (k f t v : Int) (hn : n ≤ 6) (hB : EI n 100 s) (h : Lay w0 w (rowsE g gl n s A cap R)) :
    Calls Try.prog 10 #[.pointer (some ⟨g, 0, none⟩), .agg #[.int .i64 k, .int .i64 f, .int .i64 t, .int .i64 v]] w fun e w' => e = .returned (.int .i64 (elStep n k f t s).1) ∧ ∃ A' cap', Lay w0 w' (rowsE g gl n (elStep n k f t s).2 A' cap' R) := by
  by_cases hk : k ≠ 1 ∧ k ≠ 2 ∧ k ≠ 3 ∧ k ≠ 6
  · rw [show elStep n k f t s = (6, s) by unfold elStep; rw [if_pos hk]]
    exact (do_kind g gl n s A cap R w0 w k f t v hk h).mono fun e w' ⟨he, hw⟩ => ⟨he, A, cap, hw⟩
  · rcases (show k = 1 ∨ k = 2 ∨ k = 3 ∨ k = 6 by omega) with rfl | rfl | rfl | rfl
    · exact do_stand g gl n s A cap R w0 w f t v hn hB h
    · exact do_vote g gl n s A cap R w0 w f t v hn hB h
    · exact do_beat g gl n s A cap R w0 w f t v hn hB h
    · exact do_crash g gl n s A cap R w0 w f t v hn hB h
end
end Go.Proofs.Ytlfffanadoldpaa
