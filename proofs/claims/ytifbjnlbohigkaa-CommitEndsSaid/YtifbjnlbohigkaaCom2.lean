/- The walk of commit's 'do'. -/
import Derived.Test.YtifbjnlbohigkaaCom1
set_option linter.unusedVariables false
set_option linter.unusedSimpArgs false
namespace Go.Proofs.Ytifbjnlbohigkaa
open Go.RowKit

theorem cl_any (i : Int) (n q : Nat) (w : World) (h : w.cell? ⟨q, 0, none⟩ = some (.int .i64 n)) : Calls Try.prog 12 #[.int .i64 i, .pointer (some ⟨q, 0, none⟩)] w fun e w' => e = .returned (.bool (decide (0 ≤ i) && decide (i < n))) ∧ w = w' := by
  go_enter Try.func12, Try.ntmps12
  by_cases h0 : 0 ≤ i
  · go_wp2
    go_ret
    exact ⟨ret_bool (by first | (simp [h0]; done) | (simp; omega)), rfl⟩
  · go_wp2
    go_ret
    exact ⟨ret_bool (by first | (simp [h0]; done) | (simp; omega)), rfl⟩
theorem cl_other (i : Int) (n q : Nat) (w : World) (h : w.cell? ⟨q, 0, none⟩ = some (.int .i64 n)) : Calls Try.prog 13 #[.int .i64 i, .pointer (some ⟨q, 0, none⟩)] w fun e w' => e = .returned (.bool (decide (0 < i) && decide (i < n))) ∧ w = w' := by
  go_enter Try.func13, Try.ntmps13
  by_cases h0 : 0 < i
  · go_wp2
    go_ret
    exact ⟨ret_bool (by first | (simp [h0]; done) | (simp; omega)), rfl⟩
  · go_wp2
    go_ret
    exact ⟨ret_bool (by first | (simp [h0]; done) | (simp; omega)), rfl⟩
section
variable (g n gs gg gy : Nat) (s : CS) (R : List LRow) (w0 w : World)
theorem do_kind (k f t v : Int) (hk : k < 1 ∨ 6 < k) (h : Lay w0 w (rowsC g n gs gg gy s R)) :
    Calls Try.prog 10 #[.pointer (some ⟨g, 0, none⟩), .agg #[.int .i64 k, .int .i64 f, .int .i64 t, .int .i64 v]] w fun e w' => e = .returned (.int .i64 6) ∧ Lay w0 w' (rowsC g n gs gg gy s R) := by
  have H := Lib.hid h; clear h
  have c0 := H.out.cellB 0 rfl 0 (by omega)
  have c1 := H.out.cellB 0 rfl 1 (by omega)
  have c2 := H.out.cellB 0 rfl 2 (by omega)
  simp only [ofL_0, ofL_1, ofL_2] at c0 c1 c2
  have hl := (H.out.at_ 0 rfl).2
  go_enter Try.func10, Try.ntmps10
  go_wp2
  all_goals first | (go_ret; exact ⟨rfl, (H.out.alloc _).alloc _⟩) | (exfalso; omega) | skip
theorem do_vote (f t v : Int) (hn1 : 1 ≤ n) (hn : n ≤ 6) (h : Lay w0 w (rowsC g n gs gg gy s R)) :
    Calls Try.prog 10 #[.pointer (some ⟨g, 0, none⟩), .agg #[.int .i64 1, .int .i64 f, .int .i64 t, .int .i64 v]] w fun e w' => e = .returned (.int .i64 (cmStep n 1 f t v s).1) ∧ Lay w0 w' (rowsC g n gs gg gy (cmStep n 1 f t v s).2 R) := by
  obtain ⟨r, hr⟩ : ∃ r, r = cmStep n 1 f t v s := ⟨_, rfl⟩
  rw [← hr]
  rw [cm_vote] at hr
  have HR := Lib.hid hr
  clear hr
  obtain ⟨b, hb⟩ : ∃ b, (decide (0 ≤ f) && decide (f < (n : Int))) = b := ⟨_, rfl⟩
  have hr := HR.out
  rw [hb] at hr
  have HR := Lib.hid hr
  clear hr
  have HB := Lib.hid hb
  have H := Lib.hid h; clear h
  have c0 := H.out.cellB 0 rfl 0 (by omega)
  have c1 := H.out.cellB 0 rfl 1 (by omega)
  have c2 := H.out.cellB 0 rfl 2 (by omega)
  simp only [ofL_0, ofL_1, ofL_2] at c0 c1 c2
  have hl := (H.out.at_ 0 rfl).2
  go_enter Try.func10, Try.ntmps10
  go_wp2_with fail
  clear c0 c1 c2
  refine at_world (F := fun W' => Calls _ _ _ W' _) (fun W => Lay w0 W (rowsC g n gs gg gy s R) ∧ W.cell? ⟨w.heap.size + 1, 0, none⟩ = some (.int .i64 n) ∧ W.cell? ⟨w.heap.size, 0, none⟩ = some (.int .i64 1) ∧ W.cell? ⟨w.heap.size, 1, none⟩ = some (.int .i64 f) ∧ W.cell? ⟨w.heap.size, 2, none⟩ = some (.int .i64 t) ∧ W.cell? ⟨w.heap.size, 3, none⟩ = some (.int .i64 v))
    ⟨(H.out.alloc _).alloc _, by rw [World.cell?_alloc_at _ _ _ _ (by simp)]; rfl, by rw [World.cell?_alloc_lt _ _ _ (by simp), World.cell?_alloc_at _ _ _ _ rfl]; rfl, by rw [World.cell?_alloc_lt _ _ _ (by simp), World.cell?_alloc_at _ _ _ _ rfl]; rfl, by rw [World.cell?_alloc_lt _ _ _ (by simp), World.cell?_alloc_at _ _ _ _ rfl]; rfl, by rw [World.cell?_alloc_lt _ _ _ (by simp), World.cell?_alloc_at _ _ _ _ rfl]; rfl⟩ ?_
  intro W ⟨hW, hN, m0, m1, m2, m3⟩
  generalize w.heap.size + 1 = qn at hN ⊢
  generalize w.heap.size = qm at m0 m1 m2 m3 ⊢
  have HW := Lib.hid hW
  clear hW H hl
  have c0 := HW.out.cellB 0 rfl 0 (by omega)
  have c1 := HW.out.cellB 0 rfl 1 (by omega)
  have c2 := HW.out.cellB 0 rfl 2 (by omega)
  simp only [ofL_0, ofL_1, ofL_2] at c0 c1 c2
  cases b
  · clear hb
    have HR := Lib.hid (HR.out.trans (if_pos (by simp)))
    refine (bool_is (cl_any _ n _ _ hN) HB.out).mono ?_
    rintro e w3 ⟨rfl, rfl⟩
    go_wp2
    go_ret
    have e9 := HR.out
    subst e9
    exact ⟨rfl, HW.out⟩
  · refine (bool_is (cl_any _ n _ _ hN) HB.out).mono ?_
    rintro e w3 ⟨rfl, rfl⟩
    by_cases hf : f = 0
    · subst hf
      have HR := Lib.hid (HR.out.trans (if_pos (by simp)))
      go_wp2
      go_ret
      have e9 := HR.out
      subst e9
      exact ⟨rfl, HW.out⟩
    · have hff : 0 ≤ f ∧ f < n := by simpa using hb
      clear hb
      obtain ⟨i, rfl⟩ := Int.eq_ofNat_of_zero_le hff.1
      have hi : i < n := by omega
      have e0 : ((i : Int) == 0) = false := by simpa using hf
      have HR := Lib.hid (HR.out.trans (if_neg (by simpa using hf)))
      have hr := HR.out
      rw [Int.toNat_natCast] at hr
      have HR := Lib.hid hr
      clear hr
      clear hf hff HB
      have r1 := HW.out.cell1 2 rfl (j := i) hi
      cases hg : s.gone i
      · rw [hg] at r1
        have hr := HR.out
        rw [hg] at hr
        have HR := Lib.hid hr
        clear hr
        have HR := Lib.hid (HR.out.trans (if_neg (by simp)))
        clear hg
        go_wp2_with fail
        refine wp_text_all (by kernel_rfl) (by kernel_rfl) (by kernel_rfl) (by repeat' (first | (with_reducible apply tame_then) | (with_reducible apply tame_block) | (with_reducible apply tame_scope) | exact tame_gives | exact tame_body (fun _ _ h => ⟨_, h.1⟩))) ?_
        go_wp2
        refine headed ?_
        go_wp2_with fail
        go_wp2_with (go_at_call 15; refine (vote_any g n gs gg gy s R w0 _ i hi v HW.out.drew).mono ?_; rintro e w3 ⟨rfl, hq⟩; have HQ := Lib.hid hq; clear hq)
        go_ret
        have e9 := HR.out
        subst e9
        exact ⟨rfl, HQ.out⟩
      · rw [hg] at r1
        have hr := HR.out
        rw [hg] at hr
        have HR := Lib.hid hr
        clear hr
        have HR := Lib.hid (HR.out.trans (if_pos rfl))
        clear hg
        go_wp2_with fail
        refine wp_text_all (by kernel_rfl) (by kernel_rfl) (by kernel_rfl) (by repeat' (first | (with_reducible apply tame_then) | (with_reducible apply tame_block) | (with_reducible apply tame_scope) | exact tame_gives | exact tame_body (fun _ _ h => ⟨_, h.1⟩))) ?_
        go_wp2
        refine headed ?_
        go_wp2
        go_ret
        have e9 := HR.out
        subst e9
        exact ⟨rfl, HW.out.drew⟩
theorem do_tally (f t v : Int) (hn1 : 1 ≤ n) (hn : n ≤ 6) (h : Lay w0 w (rowsC g n gs gg gy s R)) :
    Calls Try.prog 10 #[.pointer (some ⟨g, 0, none⟩), .agg #[.int .i64 2, .int .i64 f, .int .i64 t, .int .i64 v]] w fun e w' => e = .returned (.int .i64 (cmStep n 2 f t v s).1) ∧ Lay w0 w' (rowsC g n gs gg gy (cmStep n 2 f t v s).2 R) := by
  obtain ⟨r, hr⟩ : ∃ r, r = cmStep n 2 f t v s := ⟨_, rfl⟩
  rw [← hr]
  rw [cm_tally hn1] at hr
  have HR := Lib.hid hr
  clear hr
  have H := Lib.hid h; clear h
  have c0 := H.out.cellB 0 rfl 0 (by omega)
  have c1 := H.out.cellB 0 rfl 1 (by omega)
  have c2 := H.out.cellB 0 rfl 2 (by omega)
  simp only [ofL_0, ofL_1, ofL_2] at c0 c1 c2
  have hl := (H.out.at_ 0 rfl).2
  go_enter Try.func10, Try.ntmps10
  go_wp2_with fail
  clear c0 c1 c2
  refine at_world (F := fun W' => Calls _ _ _ W' _) (fun W => Lay w0 W (rowsC g n gs gg gy s R) ∧ W.cell? ⟨w.heap.size + 1, 0, none⟩ = some (.int .i64 n) ∧ W.cell? ⟨w.heap.size, 0, none⟩ = some (.int .i64 2) ∧ W.cell? ⟨w.heap.size, 1, none⟩ = some (.int .i64 f) ∧ W.cell? ⟨w.heap.size, 2, none⟩ = some (.int .i64 t) ∧ W.cell? ⟨w.heap.size, 3, none⟩ = some (.int .i64 v))
    ⟨(H.out.alloc _).alloc _, by rw [World.cell?_alloc_at _ _ _ _ (by simp)]; rfl, by rw [World.cell?_alloc_lt _ _ _ (by simp), World.cell?_alloc_at _ _ _ _ rfl]; rfl, by rw [World.cell?_alloc_lt _ _ _ (by simp), World.cell?_alloc_at _ _ _ _ rfl]; rfl, by rw [World.cell?_alloc_lt _ _ _ (by simp), World.cell?_alloc_at _ _ _ _ rfl]; rfl, by rw [World.cell?_alloc_lt _ _ _ (by simp), World.cell?_alloc_at _ _ _ _ rfl]; rfl⟩ ?_
  intro W ⟨hW, hN, m0, m1, m2, m3⟩
  generalize w.heap.size + 1 = qn at hN ⊢
  generalize w.heap.size = qm at m0 m1 m2 m3 ⊢
  have HW := Lib.hid hW
  clear hW H hl
  have c0 := HW.out.cellB 0 rfl 0 (by omega)
  have c1 := HW.out.cellB 0 rfl 1 (by omega)
  have c2 := HW.out.cellB 0 rfl 2 (by omega)
  simp only [ofL_0, ofL_1, ofL_2] at c0 c1 c2
  refine (bool_is (cl_any 0 n _ _ hN) (c := true) (by simp; omega)).mono ?_
  rintro e w3 ⟨rfl, rfl⟩
  have r0 := HW.out.cell1 2 rfl (j := 0) (by omega)
  cases hg : s.gone 0
  · rw [hg] at r0
    have hr := HR.out
    rw [hg] at hr
    have HR := Lib.hid hr
    clear hr
    have HR := Lib.hid (HR.out.trans (if_neg (by simp)))
    clear hg
    go_wp2_with fail
    refine wp_text_all (by kernel_rfl) (by kernel_rfl) (by kernel_rfl) (by repeat' (first | (with_reducible apply tame_then) | (with_reducible apply tame_block) | (with_reducible apply tame_scope) | exact tame_gives | exact tame_body (fun _ _ h => ⟨_, h.1⟩))) ?_
    go_wp2
    refine headed ?_
    go_wp2_with fail
    go_wp2_with (go_at_call 16; refine (tally_any g n gs gg gy s R w0 _ hn1 hn HW.out.drew).mono ?_; rintro e w3 ⟨rfl, hq⟩; have HQ := Lib.hid hq; clear hq)
    go_ret
    have e9 := HR.out
    subst e9
    exact ⟨rfl, HQ.out⟩
  · rw [hg] at r0
    have hr := HR.out
    rw [hg] at hr
    have HR := Lib.hid hr
    clear hr
    have HR := Lib.hid (HR.out.trans (if_pos rfl))
    clear hg
    go_wp2_with fail
    refine wp_text_all (by kernel_rfl) (by kernel_rfl) (by kernel_rfl) (by repeat' (first | (with_reducible apply tame_then) | (with_reducible apply tame_block) | (with_reducible apply tame_scope) | exact tame_gives | exact tame_body (fun _ _ h => ⟨_, h.1⟩))) ?_
    go_wp2
    refine headed ?_
    go_wp2
    go_ret
    have e9 := HR.out
    subst e9
    exact ⟨rfl, HW.out.drew⟩
theorem do_tell (f t v : Int) (hn1 : 1 ≤ n) (hn : n ≤ 6) (h : Lay w0 w (rowsC g n gs gg gy s R)) :
    Calls Try.prog 10 #[.pointer (some ⟨g, 0, none⟩), .agg #[.int .i64 3, .int .i64 f, .int .i64 t, .int .i64 v]] w fun e w' => e = .returned (.int .i64 (cmStep n 3 f t v s).1) ∧ Lay w0 w' (rowsC g n gs gg gy (cmStep n 3 f t v s).2 R) := by
  obtain ⟨r, hr⟩ : ∃ r, r = cmStep n 3 f t v s := ⟨_, rfl⟩
  rw [← hr]
  rw [cm_tell hn1] at hr
  have HR := Lib.hid hr
  clear hr
  obtain ⟨b, hb⟩ : ∃ b, (decide (0 < t) && decide (t < (n : Int))) = b := ⟨_, rfl⟩
  have hr := HR.out
  rw [hb] at hr
  have HR := Lib.hid hr
  clear hr
  have HB := Lib.hid hb
  have H := Lib.hid h; clear h
  have c0 := H.out.cellB 0 rfl 0 (by omega)
  have c1 := H.out.cellB 0 rfl 1 (by omega)
  have c2 := H.out.cellB 0 rfl 2 (by omega)
  simp only [ofL_0, ofL_1, ofL_2] at c0 c1 c2
  have hl := (H.out.at_ 0 rfl).2
  go_enter Try.func10, Try.ntmps10
  go_wp2_with fail
  clear c0 c1 c2
  refine at_world (F := fun W' => Calls _ _ _ W' _) (fun W => Lay w0 W (rowsC g n gs gg gy s R) ∧ W.cell? ⟨w.heap.size + 1, 0, none⟩ = some (.int .i64 n) ∧ W.cell? ⟨w.heap.size, 0, none⟩ = some (.int .i64 3) ∧ W.cell? ⟨w.heap.size, 1, none⟩ = some (.int .i64 f) ∧ W.cell? ⟨w.heap.size, 2, none⟩ = some (.int .i64 t) ∧ W.cell? ⟨w.heap.size, 3, none⟩ = some (.int .i64 v))
    ⟨(H.out.alloc _).alloc _, by rw [World.cell?_alloc_at _ _ _ _ (by simp)]; rfl, by rw [World.cell?_alloc_lt _ _ _ (by simp), World.cell?_alloc_at _ _ _ _ rfl]; rfl, by rw [World.cell?_alloc_lt _ _ _ (by simp), World.cell?_alloc_at _ _ _ _ rfl]; rfl, by rw [World.cell?_alloc_lt _ _ _ (by simp), World.cell?_alloc_at _ _ _ _ rfl]; rfl, by rw [World.cell?_alloc_lt _ _ _ (by simp), World.cell?_alloc_at _ _ _ _ rfl]; rfl⟩ ?_
  intro W ⟨hW, hN, m0, m1, m2, m3⟩
  generalize w.heap.size + 1 = qn at hN ⊢
  generalize w.heap.size = qm at m0 m1 m2 m3 ⊢
  have HW := Lib.hid hW
  clear hW H hl
  have c0 := HW.out.cellB 0 rfl 0 (by omega)
  have c1 := HW.out.cellB 0 rfl 1 (by omega)
  have c2 := HW.out.cellB 0 rfl 2 (by omega)
  simp only [ofL_0, ofL_1, ofL_2] at c0 c1 c2
  refine (bool_is (cl_any 0 n _ _ hN) (c := true) (by simp; omega)).mono ?_
  rintro e w3 ⟨rfl, rfl⟩
  go_wp2_with fail
  refine (bool_is (cl_other t n _ _ hN) HB.out).mono ?_
  rintro e w3 ⟨rfl, rfl⟩
  cases b
  · clear hb
    have HR := Lib.hid (HR.out.trans (if_pos (by simp)))
    go_wp2
    go_ret
    have e9 := HR.out
    subst e9
    exact ⟨rfl, HW.out⟩
  · have HR := Lib.hid (HR.out.trans (if_neg (by simp)))
    have htt : 0 < t ∧ t < n := by simpa using hb
    obtain ⟨i, rfl⟩ := Int.eq_ofNat_of_zero_le (show 0 ≤ t by omega)
    have hi : i < n := by omega
    have hr := HR.out
    rw [Int.toNat_natCast] at hr
    have HR := Lib.hid hr
    clear hr
    clear hb htt HB
    have r0 := HW.out.cell1 2 rfl (j := 0) (by omega)
    have r1 := HW.out.cell1 2 rfl (j := i) hi
    cases hg0 : s.gone 0
    · rw [hg0] at r0
      have hr := HR.out
      rw [hg0] at hr
      have HR := Lib.hid hr
      clear hr
      cases hgi : s.gone i
      · rw [hgi] at r1
        have hr := HR.out
        rw [hgi] at hr
        have HR := Lib.hid hr
        clear hr
        have HR := Lib.hid (HR.out.trans (if_neg (by simp)))
        clear hg0 hgi
        go_wp2_with fail
        refine wp_text_all (by kernel_rfl) (by kernel_rfl) (by kernel_rfl) (by repeat' (first | (with_reducible apply tame_then) | (with_reducible apply tame_block) | (with_reducible apply tame_scope) | exact tame_gives | exact tame_body (fun _ _ h => ⟨_, h.1⟩))) ?_
        go_wp2
        refine headed ?_
        go_wp2_with fail
        go_wp2_with (go_at_call 17; refine (tell_any g n gs gg gy s R w0 _ i hi HW.out.drew).mono ?_; rintro e w3 ⟨rfl, hq⟩; have HQ := Lib.hid hq; clear hq)
        go_ret
        have e9 := HR.out
        subst e9
        exact ⟨rfl, HQ.out⟩
      · rw [hgi] at r1
        have hr := HR.out
        rw [hgi] at hr
        have HR := Lib.hid hr
        clear hr
        have HR := Lib.hid (HR.out.trans (if_pos (by simp)))
        clear hg0 hgi
        go_wp2_with fail
        refine wp_text_all (by kernel_rfl) (by kernel_rfl) (by kernel_rfl) (by repeat' (first | (with_reducible apply tame_then) | (with_reducible apply tame_block) | (with_reducible apply tame_scope) | exact tame_gives | exact tame_body (fun _ _ h => ⟨_, h.1⟩))) ?_
        go_wp2
        refine headed ?_
        go_wp2
        go_ret
        have e9 := HR.out
        subst e9
        exact ⟨rfl, HW.out.drew⟩
    · rw [hg0] at r0
      have hr := HR.out
      rw [hg0] at hr
      have HR := Lib.hid hr
      clear hr
      have HR := Lib.hid (HR.out.trans (if_pos (by simp)))
      clear hg0
      go_wp2_with fail
      refine wp_text_all (by kernel_rfl) (by kernel_rfl) (by kernel_rfl) (by repeat' (first | (with_reducible apply tame_then) | (with_reducible apply tame_block) | (with_reducible apply tame_scope) | exact tame_gives | exact tame_body (fun _ _ h => ⟨_, h.1⟩))) ?_
      go_wp2
      refine headed ?_
      go_wp2
      go_ret
      have e9 := HR.out
      subst e9
      exact ⟨rfl, HW.out.drew⟩
theorem do_crash (f t v : Int) (hn1 : 1 ≤ n) (hn : n ≤ 6) (h : Lay w0 w (rowsC g n gs gg gy s R)) :
    Calls Try.prog 10 #[.pointer (some ⟨g, 0, none⟩), .agg #[.int .i64 4, .int .i64 f, .int .i64 t, .int .i64 v]] w fun e w' => e = .returned (.int .i64 (cmStep n 4 f t v s).1) ∧ Lay w0 w' (rowsC g n gs gg gy (cmStep n 4 f t v s).2 R) := by
  obtain ⟨r, hr⟩ : ∃ r, r = cmStep n 4 f t v s := ⟨_, rfl⟩
  rw [← hr]
  rw [cm_crash] at hr
  have HR := Lib.hid hr
  clear hr
  obtain ⟨b, hb⟩ : ∃ b, (decide (0 ≤ f) && decide (f < (n : Int))) = b := ⟨_, rfl⟩
  have hr := HR.out
  rw [hb] at hr
  have HR := Lib.hid hr
  clear hr
  have HB := Lib.hid hb
  have H := Lib.hid h; clear h
  have c0 := H.out.cellB 0 rfl 0 (by omega)
  have c1 := H.out.cellB 0 rfl 1 (by omega)
  have c2 := H.out.cellB 0 rfl 2 (by omega)
  simp only [ofL_0, ofL_1, ofL_2] at c0 c1 c2
  have hl := (H.out.at_ 0 rfl).2
  go_enter Try.func10, Try.ntmps10
  go_wp2_with fail
  clear c0 c1 c2
  refine at_world (F := fun W' => Calls _ _ _ W' _) (fun W => Lay w0 W (rowsC g n gs gg gy s R) ∧ W.cell? ⟨w.heap.size + 1, 0, none⟩ = some (.int .i64 n) ∧ W.cell? ⟨w.heap.size, 0, none⟩ = some (.int .i64 4) ∧ W.cell? ⟨w.heap.size, 1, none⟩ = some (.int .i64 f) ∧ W.cell? ⟨w.heap.size, 2, none⟩ = some (.int .i64 t) ∧ W.cell? ⟨w.heap.size, 3, none⟩ = some (.int .i64 v))
    ⟨(H.out.alloc _).alloc _, by rw [World.cell?_alloc_at _ _ _ _ (by simp)]; rfl, by rw [World.cell?_alloc_lt _ _ _ (by simp), World.cell?_alloc_at _ _ _ _ rfl]; rfl, by rw [World.cell?_alloc_lt _ _ _ (by simp), World.cell?_alloc_at _ _ _ _ rfl]; rfl, by rw [World.cell?_alloc_lt _ _ _ (by simp), World.cell?_alloc_at _ _ _ _ rfl]; rfl, by rw [World.cell?_alloc_lt _ _ _ (by simp), World.cell?_alloc_at _ _ _ _ rfl]; rfl⟩ ?_
  intro W ⟨hW, hN, m0, m1, m2, m3⟩
  generalize w.heap.size + 1 = qn at hN ⊢
  generalize w.heap.size = qm at m0 m1 m2 m3 ⊢
  have HW := Lib.hid hW
  clear hW H hl
  have c0 := HW.out.cellB 0 rfl 0 (by omega)
  have c1 := HW.out.cellB 0 rfl 1 (by omega)
  have c2 := HW.out.cellB 0 rfl 2 (by omega)
  simp only [ofL_0, ofL_1, ofL_2] at c0 c1 c2
  refine (bool_is (cl_any _ n _ _ hN) HB.out).mono ?_
  rintro e w3 ⟨rfl, rfl⟩
  cases b
  · clear hb
    have HR := Lib.hid (HR.out.trans (if_pos (by simp)))
    go_wp2
    go_ret
    have e9 := HR.out
    subst e9
    exact ⟨rfl, HW.out⟩
  · have HR := Lib.hid (HR.out.trans (if_neg (by simp)))
    have hff : 0 ≤ f ∧ f < n := by simpa using hb
    obtain ⟨i, rfl⟩ := Int.eq_ofNat_of_zero_le hff.1
    have hi : i < n := by omega
    have hr := HR.out
    rw [Int.toNat_natCast] at hr
    have HR := Lib.hid hr
    clear hr
    clear hb hff HB
    have r1 := HW.out.cell1 2 rfl (j := i) hi
    have f1 := HW.out.frz 2 rfl (by omega) i
    have hr := HR.out
    unfold crashS at hr
    have HR := Lib.hid hr
    clear hr
    cases hg : s.gone i
    · rw [hg] at r1
      have hr := HR.out
      rw [hg] at hr
      have HR := Lib.hid hr
      clear hr
      have HR := Lib.hid (HR.out.trans (if_neg (by simp)))
      clear hg
      go_wp2
      go_ret
      have e9 := HR.out
      subst e9
      exact ⟨rfl, HW.out.upd 2 (mk := fun b => .bool b) true rfl hi⟩
    · rw [hg] at r1
      have hr := HR.out
      rw [hg] at hr
      have HR := Lib.hid hr
      clear hr
      have HR := Lib.hid (HR.out.trans (if_pos rfl))
      clear hg
      go_wp2
      go_ret
      have e9 := HR.out
      subst e9
      exact ⟨rfl, HW.out⟩
theorem do_back (f t v : Int) (hn1 : 1 ≤ n) (hn : n ≤ 6) (h : Lay w0 w (rowsC g n gs gg gy s R)) :
    Calls Try.prog 10 #[.pointer (some ⟨g, 0, none⟩), .agg #[.int .i64 5, .int .i64 f, .int .i64 t, .int .i64 v]] w fun e w' => e = .returned (.int .i64 (cmStep n 5 f t v s).1) ∧ Lay w0 w' (rowsC g n gs gg gy (cmStep n 5 f t v s).2 R) := by
  obtain ⟨r, hr⟩ : ∃ r, r = cmStep n 5 f t v s := ⟨_, rfl⟩
  rw [← hr]
  rw [cm_back] at hr
  have HR := Lib.hid hr
  clear hr
  obtain ⟨b, hb⟩ : ∃ b, (decide (0 ≤ f) && decide (f < (n : Int))) = b := ⟨_, rfl⟩
  have hr := HR.out
  rw [hb] at hr
  have HR := Lib.hid hr
  clear hr
  have HB := Lib.hid hb
  have H := Lib.hid h; clear h
  have c0 := H.out.cellB 0 rfl 0 (by omega)
  have c1 := H.out.cellB 0 rfl 1 (by omega)
  have c2 := H.out.cellB 0 rfl 2 (by omega)
  simp only [ofL_0, ofL_1, ofL_2] at c0 c1 c2
  have hl := (H.out.at_ 0 rfl).2
  go_enter Try.func10, Try.ntmps10
  go_wp2_with fail
  clear c0 c1 c2
  refine at_world (F := fun W' => Calls _ _ _ W' _) (fun W => Lay w0 W (rowsC g n gs gg gy s R) ∧ W.cell? ⟨w.heap.size + 1, 0, none⟩ = some (.int .i64 n) ∧ W.cell? ⟨w.heap.size, 0, none⟩ = some (.int .i64 5) ∧ W.cell? ⟨w.heap.size, 1, none⟩ = some (.int .i64 f) ∧ W.cell? ⟨w.heap.size, 2, none⟩ = some (.int .i64 t) ∧ W.cell? ⟨w.heap.size, 3, none⟩ = some (.int .i64 v))
    ⟨(H.out.alloc _).alloc _, by rw [World.cell?_alloc_at _ _ _ _ (by simp)]; rfl, by rw [World.cell?_alloc_lt _ _ _ (by simp), World.cell?_alloc_at _ _ _ _ rfl]; rfl, by rw [World.cell?_alloc_lt _ _ _ (by simp), World.cell?_alloc_at _ _ _ _ rfl]; rfl, by rw [World.cell?_alloc_lt _ _ _ (by simp), World.cell?_alloc_at _ _ _ _ rfl]; rfl, by rw [World.cell?_alloc_lt _ _ _ (by simp), World.cell?_alloc_at _ _ _ _ rfl]; rfl⟩ ?_
  intro W ⟨hW, hN, m0, m1, m2, m3⟩
  generalize w.heap.size + 1 = qn at hN ⊢
  generalize w.heap.size = qm at m0 m1 m2 m3 ⊢
  have HW := Lib.hid hW
  clear hW H hl
  have c0 := HW.out.cellB 0 rfl 0 (by omega)
  have c1 := HW.out.cellB 0 rfl 1 (by omega)
  have c2 := HW.out.cellB 0 rfl 2 (by omega)
  simp only [ofL_0, ofL_1, ofL_2] at c0 c1 c2
  refine (bool_is (cl_any _ n _ _ hN) HB.out).mono ?_
  rintro e w3 ⟨rfl, rfl⟩
  cases b
  · clear hb
    have HR := Lib.hid (HR.out.trans (if_pos (by simp)))
    go_wp2
    go_ret
    have e9 := HR.out
    subst e9
    exact ⟨rfl, HW.out⟩
  · have HR := Lib.hid (HR.out.trans (if_neg (by simp)))
    have hff : 0 ≤ f ∧ f < n := by simpa using hb
    obtain ⟨i, rfl⟩ := Int.eq_ofNat_of_zero_le hff.1
    have hi : i < n := by omega
    have hr := HR.out
    rw [Int.toNat_natCast] at hr
    have HR := Lib.hid hr
    clear hr
    clear hb hff HB
    go_wp2_with (go_at_call 14; refine (back_any g n gs gg gy s R w0 _ i hi HW.out).mono ?_; rintro e w3 ⟨rfl, hq⟩; have HQ := Lib.hid hq; clear hq)
    go_ret
    have e9 := HR.out
    subst e9
    exact ⟨rfl, HQ.out⟩
theorem do_ask (f t v : Int) (hn1 : 1 ≤ n) (hn : n ≤ 6) (h : Lay w0 w (rowsC g n gs gg gy s R)) :
    Calls Try.prog 10 #[.pointer (some ⟨g, 0, none⟩), .agg #[.int .i64 6, .int .i64 f, .int .i64 t, .int .i64 v]] w fun e w' => e = .returned (.int .i64 (cmStep n 6 f t v s).1) ∧ Lay w0 w' (rowsC g n gs gg gy (cmStep n 6 f t v s).2 R) := by
  obtain ⟨r, hr⟩ : ∃ r, r = cmStep n 6 f t v s := ⟨_, rfl⟩
  rw [← hr]
  rw [cm_ask] at hr
  have HR := Lib.hid hr
  clear hr
  obtain ⟨b, hb⟩ : ∃ b, (decide (0 ≤ f) && decide (f < (n : Int))) = b := ⟨_, rfl⟩
  have hr := HR.out
  rw [hb] at hr
  have HR := Lib.hid hr
  clear hr
  have HB := Lib.hid hb
  have H := Lib.hid h; clear h
  have c0 := H.out.cellB 0 rfl 0 (by omega)
  have c1 := H.out.cellB 0 rfl 1 (by omega)
  have c2 := H.out.cellB 0 rfl 2 (by omega)
  simp only [ofL_0, ofL_1, ofL_2] at c0 c1 c2
  have hl := (H.out.at_ 0 rfl).2
  go_enter Try.func10, Try.ntmps10
  go_wp2_with fail
  clear c0 c1 c2
  refine at_world (F := fun W' => Calls _ _ _ W' _) (fun W => Lay w0 W (rowsC g n gs gg gy s R) ∧ W.cell? ⟨w.heap.size + 1, 0, none⟩ = some (.int .i64 n) ∧ W.cell? ⟨w.heap.size, 0, none⟩ = some (.int .i64 6) ∧ W.cell? ⟨w.heap.size, 1, none⟩ = some (.int .i64 f) ∧ W.cell? ⟨w.heap.size, 2, none⟩ = some (.int .i64 t) ∧ W.cell? ⟨w.heap.size, 3, none⟩ = some (.int .i64 v))
    ⟨(H.out.alloc _).alloc _, by rw [World.cell?_alloc_at _ _ _ _ (by simp)]; rfl, by rw [World.cell?_alloc_lt _ _ _ (by simp), World.cell?_alloc_at _ _ _ _ rfl]; rfl, by rw [World.cell?_alloc_lt _ _ _ (by simp), World.cell?_alloc_at _ _ _ _ rfl]; rfl, by rw [World.cell?_alloc_lt _ _ _ (by simp), World.cell?_alloc_at _ _ _ _ rfl]; rfl, by rw [World.cell?_alloc_lt _ _ _ (by simp), World.cell?_alloc_at _ _ _ _ rfl]; rfl⟩ ?_
  intro W ⟨hW, hN, m0, m1, m2, m3⟩
  generalize w.heap.size + 1 = qn at hN ⊢
  generalize w.heap.size = qm at m0 m1 m2 m3 ⊢
  have HW := Lib.hid hW
  clear hW H hl
  have c0 := HW.out.cellB 0 rfl 0 (by omega)
  have c1 := HW.out.cellB 0 rfl 1 (by omega)
  have c2 := HW.out.cellB 0 rfl 2 (by omega)
  simp only [ofL_0, ofL_1, ofL_2] at c0 c1 c2
  refine (bool_is (cl_any _ n _ _ hN) HB.out).mono ?_
  rintro e w3 ⟨rfl, rfl⟩
  cases b
  · clear hb
    have HR := Lib.hid (HR.out.trans (if_pos (by simp)))
    go_wp2
    go_ret
    have e9 := HR.out
    subst e9
    exact ⟨rfl, HW.out⟩
  by_cases hf : f = 0
  · subst hf
    have HR := Lib.hid (HR.out.trans (if_pos (by simp)))
    go_wp2
    go_ret
    have e9 := HR.out
    subst e9
    exact ⟨rfl, HW.out⟩
  have e0 : (f == 0) = false := by simpa using hf
  have hff : 0 ≤ f ∧ f < n := by simpa using hb
  have hr := HR.out
  rw [e0] at hr
  have HR := Lib.hid hr
  clear hr
  obtain ⟨c, hc⟩ : ∃ c, (decide (0 < t) && decide (t < (n : Int))) = c := ⟨_, rfl⟩
  have hr := HR.out
  rw [hc] at hr
  have HR := Lib.hid hr
  clear hr
  have HC := Lib.hid hc
  clear hb
  go_wp2_with fail
  refine (bool_is (cl_other t n _ _ hN) HC.out).mono ?_
  rintro e w3 ⟨rfl, rfl⟩
  cases c
  · clear hc
    have HR := Lib.hid (HR.out.trans (if_pos (by simp)))
    go_wp2
    go_ret
    have e9 := HR.out
    subst e9
    exact ⟨rfl, HW.out⟩
  have htt : 0 < t ∧ t < n := by simpa using hc
  clear hc
  by_cases hft : f = t
  · subst hft
    have HR := Lib.hid (HR.out.trans (if_pos (by simp)))
    go_wp2
    go_ret
    have e9 := HR.out
    subst e9
    exact ⟨rfl, HW.out⟩
  have e1 : (f == t) = false := by simpa using hft
  have hr := HR.out
  rw [e1] at hr
  have HR := Lib.hid hr
  clear hr
  have HR := Lib.hid (HR.out.trans (if_neg (by simp)))
  obtain ⟨i, rfl⟩ := Int.eq_ofNat_of_zero_le hff.1
  obtain ⟨j, rfl⟩ := Int.eq_ofNat_of_zero_le (show 0 ≤ t by omega)
  have hi : i < n := by omega
  have hj : j < n := by omega
  have hij : i ≠ j := fun h => hft (by rw [h])
  have hr := HR.out
  rw [Int.toNat_natCast, Int.toNat_natCast] at hr
  have HR := Lib.hid hr
  clear hr
  clear htt hff HB HC hf e0 hft
  have r0 := HW.out.cell1 2 rfl (j := i) hi
  have r1 := HW.out.cell1 2 rfl (j := j) hj
  cases hg0 : s.gone i
  · rw [hg0] at r0
    have hr := HR.out
    rw [hg0] at hr
    have HR := Lib.hid hr
    clear hr
    cases hgi : s.gone j
    · rw [hgi] at r1
      have hr := HR.out
      rw [hgi] at hr
      have HR := Lib.hid hr
      clear hr
      have HR := Lib.hid (HR.out.trans (if_neg (by simp)))
      clear hg0 hgi
      go_wp2_with fail
      refine wp_text_all (by kernel_rfl) (by kernel_rfl) (by kernel_rfl) (by repeat' (first | (with_reducible apply tame_then) | (with_reducible apply tame_block) | (with_reducible apply tame_scope) | exact tame_gives | exact tame_body (fun _ _ h => ⟨_, h.1⟩))) ?_
      go_wp2
      refine headed ?_
      go_wp2_with fail
      go_wp2_with (go_at_call 18; refine (ask_any g n gs gg gy s R w0 _ i j hi hj hij HW.out.drew).mono ?_; rintro e w3 ⟨rfl, hq⟩; have HQ := Lib.hid hq; clear hq)
      go_ret
      have e9 := HR.out
      subst e9
      exact ⟨rfl, HQ.out⟩
    · rw [hgi] at r1
      have hr := HR.out
      rw [hgi] at hr
      have HR := Lib.hid hr
      clear hr
      have HR := Lib.hid (HR.out.trans (if_pos (by simp)))
      clear hg0 hgi
      go_wp2_with fail
      refine wp_text_all (by kernel_rfl) (by kernel_rfl) (by kernel_rfl) (by repeat' (first | (with_reducible apply tame_then) | (with_reducible apply tame_block) | (with_reducible apply tame_scope) | exact tame_gives | exact tame_body (fun _ _ h => ⟨_, h.1⟩))) ?_
      go_wp2
      refine headed ?_
      go_wp2
      go_ret
      have e9 := HR.out
      subst e9
      exact ⟨rfl, HW.out.drew⟩
  · rw [hg0] at r0
    have hr := HR.out
    rw [hg0] at hr
    have HR := Lib.hid hr
    clear hr
    have HR := Lib.hid (HR.out.trans (if_pos (by simp)))
    clear hg0
    go_wp2_with fail
    refine wp_text_all (by kernel_rfl) (by kernel_rfl) (by kernel_rfl) (by repeat' (first | (with_reducible apply tame_then) | (with_reducible apply tame_block) | (with_reducible apply tame_scope) | exact tame_gives | exact tame_body (fun _ _ h => ⟨_, h.1⟩))) ?_
    go_wp2
    refine headed ?_
    go_wp2
    go_ret
    have e9 := HR.out
    subst e9
    exact ⟨rfl, HW.out.drew⟩
theorem do_any (k f t v : Int) (hn1 : 1 ≤ n) (hn : n ≤ 6) (h : Lay w0 w (rowsC g n gs gg gy s R)) :
    Calls Try.prog 10 #[.pointer (some ⟨g, 0, none⟩), .agg #[.int .i64 k, .int .i64 f, .int .i64 t, .int .i64 v]] w fun e w' => e = .returned (.int .i64 (cmStep n k f t v s).1) ∧ Lay w0 w' (rowsC g n gs gg gy (cmStep n k f t v s).2 R) := by
  by_cases hk : k < 1 ∨ 6 < k
  · rw [show cmStep n k f t v s = (6, s) by unfold cmStep; rw [if_pos hk]]
    exact do_kind g n gs gg gy s R w0 w k f t v hk h
  · rcases (show k = 1 ∨ k = 2 ∨ k = 3 ∨ k = 4 ∨ k = 5 ∨ k = 6 by omega) with rfl | rfl | rfl | rfl | rfl | rfl
    · exact do_vote g n gs gg gy s R w0 w f t v hn1 hn h
    · exact do_tally g n gs gg gy s R w0 w f t v hn1 hn h
    · exact do_tell g n gs gg gy s R w0 w f t v hn1 hn h
    · exact do_crash g n gs gg gy s R w0 w f t v hn1 hn h
    · exact do_back g n gs gg gy s R w0 w f t v hn1 hn h
    · exact do_ask g n gs gg gy s R w0 w f t v hn1 hn h
end
end Go.Proofs.Ytifbjnlbohigkaa
