/- The walk of logs' 'do'. -/
import Derived.Test.YtfhmabpalimcnaaLg6
import Derived.Test.YtfhmabpalimcnaaLg7
set_option linter.unusedVariables false
set_option linter.unusedSimpArgs false
namespace Go.Proofs.Ytfhmabpalimcnaa
open Go.RowKit

theorem cg_is (b : Bool) (i : Int) (n q gg lo : Nat) (w : World) (hN : w.cell? ⟨q, 0, none⟩ = some (.pointer (some ⟨gg, 0, none⟩))) (h : w.cell? ⟨gg, 1, none⟩ = some (.slice (some ⟨lo, 0, none⟩) n n)) (hb : (decide (0 ≤ i) && decide (i < (n : Int))) = b) :
    Calls Try.prog 19 #[.int .i64 i, .pointer (some ⟨q, 0, none⟩)] w fun e w' => e = .returned (.bool (!b)) ∧ w = w' := by
  subst hb
  by_cases h0 : i < 0
  · go_enter Try.func19, Try.ntmps19
    go_wp2
    go_ret
    exact ⟨ret_bool (by simp [show ¬ 0 ≤ i by omega]), rfl⟩
  · have h0' : 0 ≤ i := by omega
    clear h0
    go_enter Try.func19, Try.ntmps19
    go_wp2
    go_ret
    exact ⟨ret_bool (by rw [Bool.eq_iff_iff]; simp; first | done | omega), rfl⟩
theorem trm_app {l : List Ent} {x : Ent} {k : Nat} (h : k < l.length) : trm (l ++ [x]) k = trm l k := by unfold trm; rw [List.getElem?_append_left h]
theorem lg_1 (n : Nat) (f t v : Int) (s : LS) : lgStep n 1 f t v s = if !(decide (0 ≤ f) && decide (f < n)) then (2, s) else standL n f.toNat s := by simp [lgStep, elBad]
theorem lg_2 (n : Nat) (f t v : Int) (s : LS) : lgStep n 2 f t v s = if !(decide (0 ≤ f) && decide (f < n)) || (!(decide (0 ≤ t) && decide (t < n)) || f == t) then (2, s) else voteL n f.toNat t.toNat s := by simp [lgStep, elBad]
theorem lg_3 (n : Nat) (f t v : Int) (s : LS) : lgStep n 3 f t v s = if !(decide (0 ≤ f) && decide (f < n)) || (!(decide (0 ≤ t) && decide (t < n)) || f == t) then (2, s) else sendL f.toNat t.toNat s := by simp [lgStep, elBad]
theorem lg_4 (n : Nat) (f t v : Int) (s : LS) : lgStep n 4 f t v s = if !(decide (0 ≤ f) && decide (f < n)) then (2, s) else addL f.toNat v s := by simp [lgStep, elBad]
theorem lg_5 (n : Nat) (f t v : Int) (s : LS) : lgStep n 5 f t v s = if !(decide (0 ≤ f) && decide (f < n)) then (2, s) else commitL n f.toNat s := by simp [lgStep, elBad]
theorem lg_6 (n : Nat) (f t v : Int) (s : LS) : lgStep n 6 f t v s = if !(decide (0 ≤ f) && decide (f < n)) then (2, s) else (0, crashL f.toNat s) := by simp [lgStep, elBad]
section
variable (gg g gl lo n : Nat) (s : LS) (A : Option Addr) (cap : Nat) (a : LA) (R : List LRow) (w0 w : World)
theorem dog_kind (k f t v : Int) (hk : k < 1 ∨ 6 < k) (h : Lay w0 w (rowsG gg g gl lo n s A cap a R)) :
    Calls Try.prog 14 #[.pointer (some ⟨gg, 0, none⟩), .agg #[.int .i64 k, .int .i64 f, .int .i64 t, .int .i64 v]] w fun e w' => e = .returned (.int .i64 6) ∧ Lay w0 w' (rowsG gg g gl lo n s A cap a R) := by
  have H := Lib.hid h; clear h
  have e1 : (k == 2) = false := by simp; omega
  have e2 : (k == 3) = false := by simp; omega
  rcases hk with hk | hk
  all_goals
    go_enter Try.func14, Try.ntmps14
    go_wp2
    go_ret
    exact ⟨rfl, (H.out.alloc _).alloc _⟩
set_option maxRecDepth 100000 in
set_option maxHeartbeats 1000000 in
theorem dog_stand (f t v : Int) (hn : n ≤ 6) (hB : LB n 100 s) (hd : LdOk n a s) (h : Lay w0 w (rowsG gg g gl lo n s A cap a R)) :
    Calls Try.prog 14 #[.pointer (some ⟨gg, 0, none⟩), .agg #[.int .i64 1, .int .i64 f, .int .i64 t, .int .i64 v]] w fun e w' => e = .returned (.int .i64 (lgStep n 1 f t v s).1) ∧ ∃ A' cap' a', LdOk n a' (lgStep n 1 f t v s).2 ∧ Lay w0 w' (rowsG gg g gl lo n (lgStep n 1 f t v s).2 A' cap' a' R) := by
  obtain ⟨r, hr⟩ : ∃ r, r = lgStep n 1 f t v s := ⟨_, rfl⟩
  rw [← hr]
  rw [lg_1] at hr
  have HR := Lib.hid hr
  clear hr
  obtain ⟨b, hb⟩ : ∃ b, (decide (0 ≤ f) && decide (f < (n : Int))) = b := ⟨_, rfl⟩
  have hr := HR.out
  rw [hb] at hr
  replace HR := Lib.hid hr
  clear hr
  have HB := Lib.hid hb
  have H := Lib.hid h; clear h
  have c0 := (lg_heads H.out).2
  have hl := (H.out.at_ 3 rfl).2
  go_enter Try.func14, Try.ntmps14
  go_wp2_with fail
  clear c0
  refine at_world (F := fun W' => Calls _ _ _ W' _) (fun W => Lay w0 W (rowsG gg g gl lo n s A cap a R) ∧ W.cell? ⟨w.heap.size, 0, none⟩ = some (.pointer (some ⟨gg, 0, none⟩)) ∧ W.cell? ⟨w.heap.size + 1, 0, none⟩ = some (.int .i64 1) ∧ W.cell? ⟨w.heap.size + 1, 1, none⟩ = some (.int .i64 f) ∧ W.cell? ⟨w.heap.size + 1, 2, none⟩ = some (.int .i64 t) ∧ W.cell? ⟨w.heap.size + 1, 3, none⟩ = some (.int .i64 v) ∧ w0.heap.size ≤ w.heap.size ∧ gg < w.heap.size ∧ w.heap.size + 1 < W.heap.size)
    ⟨(H.out.alloc _).alloc _, by rw [World.cell?_alloc_lt _ _ _ (by simp), World.cell?_alloc_at _ _ _ _ rfl]; rfl, by rw [World.cell?_alloc_at _ _ _ _ (by simp)]; rfl, by rw [World.cell?_alloc_at _ _ _ _ (by simp)]; rfl, by rw [World.cell?_alloc_at _ _ _ _ (by simp)]; rfl, by rw [World.cell?_alloc_at _ _ _ _ (by simp)]; rfl, H.out.size, hl, by simp⟩ ?_
  intro W ⟨hW, hN, m0, m1, m2, m3, hq0, hq1, hq2⟩
  clear hq0 hq1 hq2
  generalize w.heap.size + 1 = qm at m0 m1 m2 m3 ⊢
  generalize w.heap.size = qn at hN ⊢
  have HW := Lib.hid hW
  clear hW H hl
  have c0 := (lg_heads HW.out).2
  refine (cg_is _ f n qn gg lo _ hN c0 HB.out).mono ?_
  rintro e w3 ⟨rfl, rfl⟩
  cases b
  · replace HR := Lib.hid (HR.out.trans (if_pos (by simp)))
    go_wp2
    go_ret
    have e9 := HR.out
    subst e9
    exact ⟨rfl, A, cap, a, hd, HW.out⟩
  · replace HR := Lib.hid (HR.out.trans (if_neg (by simp)))
    have hff : 0 ≤ f ∧ f < n := by simpa using hb
    clear hb
    obtain ⟨i, rfl⟩ := Int.eq_ofNat_of_zero_le hff.1
    have hi : i < n := by omega
    have hr := HR.out
    rw [Int.toNat_natCast] at hr
    replace HR := Lib.hid hr
    clear hr
    clear hff HB
    go_wp2_with fail
    refine (standL_any gg g gl lo n s A cap a R w0 _ i hi hn hB hd HW.out).mono ?_
    rintro e w3 ⟨rfl, A3, c3, a3, hd3, h3⟩
    have H3 := Lib.hid h3; clear h3
    go_wp2
    go_ret
    have e9 := HR.out
    subst e9
    exact ⟨rfl, A3, c3, a3, hd3, H3.out⟩
set_option maxRecDepth 100000 in
set_option maxHeartbeats 1000000 in
theorem dog_commit (f t v : Int) (hn : n ≤ 6) (hB : LB n 100 s) (hd : LdOk n a s) (h : Lay w0 w (rowsG gg g gl lo n s A cap a R)) :
    Calls Try.prog 14 #[.pointer (some ⟨gg, 0, none⟩), .agg #[.int .i64 5, .int .i64 f, .int .i64 t, .int .i64 v]] w fun e w' => e = .returned (.int .i64 (lgStep n 5 f t v s).1) ∧ ∃ A' cap' a', LdOk n a' (lgStep n 5 f t v s).2 ∧ Lay w0 w' (rowsG gg g gl lo n (lgStep n 5 f t v s).2 A' cap' a' R) := by
  obtain ⟨r, hr⟩ : ∃ r, r = lgStep n 5 f t v s := ⟨_, rfl⟩
  rw [← hr]
  rw [lg_5] at hr
  have HR := Lib.hid hr
  clear hr
  obtain ⟨b, hb⟩ : ∃ b, (decide (0 ≤ f) && decide (f < (n : Int))) = b := ⟨_, rfl⟩
  have hr := HR.out
  rw [hb] at hr
  replace HR := Lib.hid hr
  clear hr
  have HB := Lib.hid hb
  have H := Lib.hid h; clear h
  have c0 := (lg_heads H.out).2
  have hl := (H.out.at_ 3 rfl).2
  go_enter Try.func14, Try.ntmps14
  go_wp2_with fail
  clear c0
  refine at_world (F := fun W' => Calls _ _ _ W' _) (fun W => Lay w0 W (rowsG gg g gl lo n s A cap a R) ∧ W.cell? ⟨w.heap.size, 0, none⟩ = some (.pointer (some ⟨gg, 0, none⟩)) ∧ W.cell? ⟨w.heap.size + 1, 0, none⟩ = some (.int .i64 5) ∧ W.cell? ⟨w.heap.size + 1, 1, none⟩ = some (.int .i64 f) ∧ W.cell? ⟨w.heap.size + 1, 2, none⟩ = some (.int .i64 t) ∧ W.cell? ⟨w.heap.size + 1, 3, none⟩ = some (.int .i64 v) ∧ w0.heap.size ≤ w.heap.size ∧ gg < w.heap.size ∧ w.heap.size + 1 < W.heap.size)
    ⟨(H.out.alloc _).alloc _, by rw [World.cell?_alloc_lt _ _ _ (by simp), World.cell?_alloc_at _ _ _ _ rfl]; rfl, by rw [World.cell?_alloc_at _ _ _ _ (by simp)]; rfl, by rw [World.cell?_alloc_at _ _ _ _ (by simp)]; rfl, by rw [World.cell?_alloc_at _ _ _ _ (by simp)]; rfl, by rw [World.cell?_alloc_at _ _ _ _ (by simp)]; rfl, H.out.size, hl, by simp⟩ ?_
  intro W ⟨hW, hN, m0, m1, m2, m3, hq0, hq1, hq2⟩
  clear hq0 hq1 hq2
  generalize w.heap.size + 1 = qm at m0 m1 m2 m3 ⊢
  generalize w.heap.size = qn at hN ⊢
  have HW := Lib.hid hW
  clear hW H hl
  have c0 := (lg_heads HW.out).2
  refine (cg_is _ f n qn gg lo _ hN c0 HB.out).mono ?_
  rintro e w3 ⟨rfl, rfl⟩
  cases b
  · replace HR := Lib.hid (HR.out.trans (if_pos (by simp)))
    go_wp2
    go_ret
    have e9 := HR.out
    subst e9
    exact ⟨rfl, A, cap, a, hd, HW.out⟩
  · replace HR := Lib.hid (HR.out.trans (if_neg (by simp)))
    have hff : 0 ≤ f ∧ f < n := by simpa using hb
    clear hb
    obtain ⟨i, rfl⟩ := Int.eq_ofNat_of_zero_le hff.1
    have hi : i < n := by omega
    have hr := HR.out
    rw [Int.toNat_natCast] at hr
    replace HR := Lib.hid hr
    clear hr
    clear hff HB
    go_wp2_with fail
    refine (commitL_any gg g gl lo n s A cap a R w0 _ i hi hn hB hd HW.out).mono ?_
    rintro e w3 ⟨rfl, hd3, h3⟩
    have H3 := Lib.hid h3; clear h3
    go_wp2
    go_ret
    have e9 := HR.out
    subst e9
    exact ⟨rfl, A, cap, a, hd3, H3.out⟩
set_option maxRecDepth 100000 in
set_option maxHeartbeats 1000000 in
theorem dog_vote (f t v : Int) (hn : n ≤ 6) (hB : LB n 100 s) (hd : LdOk n a s) (h : Lay w0 w (rowsG gg g gl lo n s A cap a R)) :
    Calls Try.prog 14 #[.pointer (some ⟨gg, 0, none⟩), .agg #[.int .i64 2, .int .i64 f, .int .i64 t, .int .i64 v]] w fun e w' => e = .returned (.int .i64 (lgStep n 2 f t v s).1) ∧ ∃ A' cap' a', LdOk n a' (lgStep n 2 f t v s).2 ∧ Lay w0 w' (rowsG gg g gl lo n (lgStep n 2 f t v s).2 A' cap' a' R) := by
  obtain ⟨r, hr⟩ : ∃ r, r = lgStep n 2 f t v s := ⟨_, rfl⟩
  rw [← hr]
  rw [lg_2] at hr
  have HR := Lib.hid hr
  clear hr
  obtain ⟨b, hb⟩ : ∃ b, (decide (0 ≤ f) && decide (f < (n : Int))) = b := ⟨_, rfl⟩
  have hr := HR.out
  rw [hb] at hr
  replace HR := Lib.hid hr
  clear hr
  have HB := Lib.hid hb
  have H := Lib.hid h; clear h
  have c0 := (lg_heads H.out).2
  have hl := (H.out.at_ 3 rfl).2
  go_enter Try.func14, Try.ntmps14
  go_wp2_with fail
  clear c0
  refine at_world (F := fun W' => Calls _ _ _ W' _) (fun W => Lay w0 W (rowsG gg g gl lo n s A cap a R) ∧ W.cell? ⟨w.heap.size, 0, none⟩ = some (.pointer (some ⟨gg, 0, none⟩)) ∧ W.cell? ⟨w.heap.size + 1, 0, none⟩ = some (.int .i64 2) ∧ W.cell? ⟨w.heap.size + 1, 1, none⟩ = some (.int .i64 f) ∧ W.cell? ⟨w.heap.size + 1, 2, none⟩ = some (.int .i64 t) ∧ W.cell? ⟨w.heap.size + 1, 3, none⟩ = some (.int .i64 v) ∧ w0.heap.size ≤ w.heap.size ∧ gg < w.heap.size ∧ w.heap.size + 1 < W.heap.size)
    ⟨(H.out.alloc _).alloc _, by rw [World.cell?_alloc_lt _ _ _ (by simp), World.cell?_alloc_at _ _ _ _ rfl]; rfl, by rw [World.cell?_alloc_at _ _ _ _ (by simp)]; rfl, by rw [World.cell?_alloc_at _ _ _ _ (by simp)]; rfl, by rw [World.cell?_alloc_at _ _ _ _ (by simp)]; rfl, by rw [World.cell?_alloc_at _ _ _ _ (by simp)]; rfl, H.out.size, hl, by simp⟩ ?_
  intro W ⟨hW, hN, m0, m1, m2, m3, hq0, hq1, hq2⟩
  clear hq0 hq1 hq2
  generalize w.heap.size + 1 = qm at m0 m1 m2 m3 ⊢
  generalize w.heap.size = qn at hN ⊢
  have HW := Lib.hid hW
  clear hW H hl
  have c0 := (lg_heads HW.out).2
  refine (cg_is _ f n qn gg lo _ hN c0 HB.out).mono ?_
  rintro e w3 ⟨rfl, rfl⟩
  cases b
  · replace HR := Lib.hid (HR.out.trans (if_pos (by simp)))
    go_wp2
    go_ret
    have e9 := HR.out
    subst e9
    exact ⟨rfl, A, cap, a, hd, HW.out⟩
  obtain ⟨c, hc⟩ : ∃ c, (decide (0 ≤ t) && decide (t < (n : Int))) = c := ⟨_, rfl⟩
  have hr := HR.out
  rw [hc] at hr
  replace HR := Lib.hid hr
  clear hr
  have HC := Lib.hid hc
  have hff : 0 ≤ f ∧ f < n := by simpa using hb
  clear hb
  go_wp2_with fail
  refine (cg_is _ t n qn gg lo _ hN c0 HC.out).mono ?_
  rintro e w3 ⟨rfl, rfl⟩
  cases c
  · replace HR := Lib.hid (HR.out.trans (if_pos (by simp)))
    go_wp2
    go_ret
    have e9 := HR.out
    subst e9
    exact ⟨rfl, A, cap, a, hd, HW.out⟩
  have htt : 0 ≤ t ∧ t < n := by simpa using hc
  clear hc
  by_cases hft : f = t
  · subst hft
    replace HR := Lib.hid (HR.out.trans (if_pos (by simp)))
    go_wp2
    go_ret
    have e9 := HR.out
    subst e9
    exact ⟨rfl, A, cap, a, hd, HW.out⟩
  have e1 : (f == t) = false := by simpa using hft
  have hr := HR.out
  rw [e1] at hr
  replace HR := Lib.hid hr
  clear hr
  replace HR := Lib.hid (HR.out.trans (if_neg (by simp)))
  obtain ⟨i, rfl⟩ := Int.eq_ofNat_of_zero_le hff.1
  obtain ⟨j, rfl⟩ := Int.eq_ofNat_of_zero_le htt.1
  have hi : i < n := by omega
  have hj : j < n := by omega
  have hij : i ≠ j := fun h => hft (by rw [h])
  have hr := HR.out
  rw [Int.toNat_natCast, Int.toNat_natCast] at hr
  replace HR := Lib.hid hr
  clear hr
  clear htt hff HB HC hft
  go_wp2_with fail
  refine (voteL_any gg g gl lo n s A cap a R w0 _ i j hi hj hij hn hB hd HW.out).mono ?_
  rintro e w3 ⟨rfl, A3, c3, a3, hd3, h3⟩
  have H3 := Lib.hid h3; clear h3
  go_wp2
  go_ret
  have e9 := HR.out
  subst e9
  exact ⟨rfl, A3, c3, a3, hd3, H3.out⟩
set_option maxRecDepth 100000 in
set_option maxHeartbeats 1000000 in
theorem dog_send (f t v : Int) (hn : n ≤ 6) (hB : LB n 100 s) (hd : LdOk n a s) (h : Lay w0 w (rowsG gg g gl lo n s A cap a R)) :
    Calls Try.prog 14 #[.pointer (some ⟨gg, 0, none⟩), .agg #[.int .i64 3, .int .i64 f, .int .i64 t, .int .i64 v]] w fun e w' => e = .returned (.int .i64 (lgStep n 3 f t v s).1) ∧ ∃ A' cap' a', LdOk n a' (lgStep n 3 f t v s).2 ∧ Lay w0 w' (rowsG gg g gl lo n (lgStep n 3 f t v s).2 A' cap' a' R) := by
  obtain ⟨r, hr⟩ : ∃ r, r = lgStep n 3 f t v s := ⟨_, rfl⟩
  rw [← hr]
  rw [lg_3] at hr
  have HR := Lib.hid hr
  clear hr
  obtain ⟨b, hb⟩ : ∃ b, (decide (0 ≤ f) && decide (f < (n : Int))) = b := ⟨_, rfl⟩
  have hr := HR.out
  rw [hb] at hr
  replace HR := Lib.hid hr
  clear hr
  have HB := Lib.hid hb
  have H := Lib.hid h; clear h
  have c0 := (lg_heads H.out).2
  have hl := (H.out.at_ 3 rfl).2
  go_enter Try.func14, Try.ntmps14
  go_wp2_with fail
  clear c0
  refine at_world (F := fun W' => Calls _ _ _ W' _) (fun W => Lay w0 W (rowsG gg g gl lo n s A cap a R) ∧ W.cell? ⟨w.heap.size, 0, none⟩ = some (.pointer (some ⟨gg, 0, none⟩)) ∧ W.cell? ⟨w.heap.size + 1, 0, none⟩ = some (.int .i64 3) ∧ W.cell? ⟨w.heap.size + 1, 1, none⟩ = some (.int .i64 f) ∧ W.cell? ⟨w.heap.size + 1, 2, none⟩ = some (.int .i64 t) ∧ W.cell? ⟨w.heap.size + 1, 3, none⟩ = some (.int .i64 v) ∧ w0.heap.size ≤ w.heap.size ∧ gg < w.heap.size ∧ w.heap.size + 1 < W.heap.size)
    ⟨(H.out.alloc _).alloc _, by rw [World.cell?_alloc_lt _ _ _ (by simp), World.cell?_alloc_at _ _ _ _ rfl]; rfl, by rw [World.cell?_alloc_at _ _ _ _ (by simp)]; rfl, by rw [World.cell?_alloc_at _ _ _ _ (by simp)]; rfl, by rw [World.cell?_alloc_at _ _ _ _ (by simp)]; rfl, by rw [World.cell?_alloc_at _ _ _ _ (by simp)]; rfl, H.out.size, hl, by simp⟩ ?_
  intro W ⟨hW, hN, m0, m1, m2, m3, hq0, hq1, hq2⟩
  clear hq0 hq1 hq2
  generalize w.heap.size + 1 = qm at m0 m1 m2 m3 ⊢
  generalize w.heap.size = qn at hN ⊢
  have HW := Lib.hid hW
  clear hW H hl
  have c0 := (lg_heads HW.out).2
  refine (cg_is _ f n qn gg lo _ hN c0 HB.out).mono ?_
  rintro e w3 ⟨rfl, rfl⟩
  cases b
  · replace HR := Lib.hid (HR.out.trans (if_pos (by simp)))
    go_wp2
    go_ret
    have e9 := HR.out
    subst e9
    exact ⟨rfl, A, cap, a, hd, HW.out⟩
  obtain ⟨c, hc⟩ : ∃ c, (decide (0 ≤ t) && decide (t < (n : Int))) = c := ⟨_, rfl⟩
  have hr := HR.out
  rw [hc] at hr
  replace HR := Lib.hid hr
  clear hr
  have HC := Lib.hid hc
  have hff : 0 ≤ f ∧ f < n := by simpa using hb
  clear hb
  go_wp2_with fail
  refine (cg_is _ t n qn gg lo _ hN c0 HC.out).mono ?_
  rintro e w3 ⟨rfl, rfl⟩
  cases c
  · replace HR := Lib.hid (HR.out.trans (if_pos (by simp)))
    go_wp2
    go_ret
    have e9 := HR.out
    subst e9
    exact ⟨rfl, A, cap, a, hd, HW.out⟩
  have htt : 0 ≤ t ∧ t < n := by simpa using hc
  clear hc
  by_cases hft : f = t
  · subst hft
    replace HR := Lib.hid (HR.out.trans (if_pos (by simp)))
    go_wp2
    go_ret
    have e9 := HR.out
    subst e9
    exact ⟨rfl, A, cap, a, hd, HW.out⟩
  have e1 : (f == t) = false := by simpa using hft
  have hr := HR.out
  rw [e1] at hr
  replace HR := Lib.hid hr
  clear hr
  replace HR := Lib.hid (HR.out.trans (if_neg (by simp)))
  obtain ⟨i, rfl⟩ := Int.eq_ofNat_of_zero_le hff.1
  obtain ⟨j, rfl⟩ := Int.eq_ofNat_of_zero_le htt.1
  have hi : i < n := by omega
  have hj : j < n := by omega
  have hij : i ≠ j := fun h => hft (by rw [h])
  have hr := HR.out
  rw [Int.toNat_natCast, Int.toNat_natCast] at hr
  replace HR := Lib.hid hr
  clear hr
  clear htt hff HB HC hft
  go_wp2_with fail
  refine (sendL_any gg g gl lo n s A cap a R w0 _ i j hi hj hij hn hB hd HW.out).mono ?_
  rintro e w3 ⟨rfl, a3, hd3, h3⟩
  have H3 := Lib.hid h3; clear h3
  go_wp2
  go_ret
  have e9 := HR.out
  subst e9
  exact ⟨rfl, A, cap, a3, hd3, H3.out⟩
end
/-- A row moves behind some, or is dropped there. -/
theorem Lay.mid {w0 w : World} {P R : List LRow} {r : LRow} (h : Lay w0 w (r :: (P ++ R))) : Lay w0 w (P ++ r :: R) := by
  refine h.pick (fun k => if k < P.length then k + 1 else if k = P.length then 0 else k) (fun i j _ _ hij => ?_) fun k hk => ?_
  · by_cases a : i < P.length <;> by_cases b : j < P.length <;> by_cases c : i = P.length <;> by_cases d : j = P.length <;> simp [a, b, c, d] at hij <;> omega
  · by_cases a : k < P.length
    · rw [if_pos a, List.getElem?_append_left a, List.getElem?_cons_succ, List.getElem?_append_left a]
    · rw [if_neg a]
      by_cases b : k = P.length
      · rw [if_pos b, b, List.getElem?_append_right (Nat.le_refl _), Nat.sub_self]; rfl
      · rw [if_neg b, List.getElem?_append_right (by omega)]
        obtain ⟨q, rfl⟩ : ∃ q, k = P.length + 1 + q := ⟨k - P.length - 1, by omega⟩
        rw [show P.length + 1 + q - P.length = q + 1 by omega, List.getElem?_cons_succ, show P.length + 1 + q = (P.length + q) + 1 by omega, List.getElem?_cons_succ, List.getElem?_append_right (by omega), Nat.add_sub_cancel_left]
theorem Lay.unmid {w0 w : World} {P R : List LRow} {r : LRow} (h : Lay w0 w (P ++ r :: R)) : Lay w0 w (P ++ R) := by
  refine h.pick (fun k => if k < P.length then k else k + 1) (fun i j _ _ hij => ?_) fun k hk => ?_
  · by_cases a : i < P.length <;> by_cases b : j < P.length <;> simp [a, b] at hij <;> omega
  · by_cases a : k < P.length
    · rw [if_pos a, List.getElem?_append_left a, List.getElem?_append_left a]
    · rw [if_neg a, List.getElem?_append_right (by omega), List.getElem?_append_right (by omega), show k + 1 - P.length = (k - P.length) + 1 by omega, List.getElem?_cons_succ]
section
variable {gg g gl lo n : Nat} {e : ES} {A : Option Addr} {cap : Nat} {F : Nat → Value} {fr : Nat → LRow} {R : List LRow} {r r' : LRow} {w0 w : World}
abbrev headF (gg g gl lo n : Nat) (e : ES) (A : Option Addr) (cap : Nat) (F : Nat → Value) (fr : Nat → LRow) : List LRow :=
  blk g 57 2 (ofL [.slice (some ⟨gl, 0, none⟩) n n, .slice A e.led.length cap]) :: oneR gl n e :: ledR A cap e.led :: blk gg 47 2 (ofL [.pointer (some ⟨g, 0, none⟩), .slice (some ⟨lo, 0, none⟩) n n]) :: ⟨some ⟨lo, 0, none⟩, 50, 4, n, n, F⟩ :: (List.range (3 * n)).map fr
theorem lg_mid2 (h : Lay w0 w (r :: r' :: rowsF gg g gl lo n e A cap F fr R)) : Lay w0 w (rowsF gg g gl lo n e A cap F fr (r' :: r :: R)) :=
  Lay.mid (P := headF gg g gl lo n e A cap F fr) (r := r') (R := r :: R) (Lay.mid (P := r' :: headF gg g gl lo n e A cap F fr) (r := r) (R := R) h)
theorem lg_un2 (h : Lay w0 w (rowsF gg g gl lo n e A cap F fr (r' :: r :: R))) : Lay w0 w (rowsF gg g gl lo n e A cap F fr R) :=
  Lay.unmid (P := headF gg g gl lo n e A cap F fr) (r := r) (Lay.unmid (P := headF gg g gl lo n e A cap F fr) (r := r') (R := r :: R) h)
theorem lg_tail0 : (rowsF gg g gl lo n e A cap F fr (r' :: r :: R))[5 + 3 * n]? = some r' := by
  show (headF gg g gl lo n e A cap F fr ++ r' :: r :: R)[5 + 3 * n]? = _
  rw [List.getElem?_append_right (by simp [headF]; omega)]
  simp [headF]
  rw [show 5 + 3 * n - (3 * n + 1 + 1 + 1 + 1 + 1) = 0 by omega]; rfl
theorem lg_tail1 : (rowsF gg g gl lo n e A cap F fr (r' :: r :: R))[5 + 3 * n + 1]? = some r := by
  show (headF gg g gl lo n e A cap F fr ++ r' :: r :: R)[5 + 3 * n + 1]? = _
  rw [List.getElem?_append_right (by simp [headF]; omega)]
  simp [headF]
  rw [show 5 + 3 * n - (3 * n + 4) = 1 by omega]; rfl
end
abbrev mvR (q : Nat) (k f t v : Int) : LRow := blk q 40 4 (ofL [.int .i64 k, .int .i64 f, .int .i64 t, .int .i64 v])
abbrev bxR (q gg : Nat) : LRow := blk q 42 1 (ofL [.pointer (some ⟨gg, 0, none⟩)])
theorem bx_cells {gg' gg g gl lo n qn qm : Nat} {e : ES} {A : Option Addr} {cap : Nat} {F : Nat → Value} {fr : Nat → LRow} {R : List LRow} {w0 w : World} {k f t v : Int} (h : Lay w0 w (rowsF gg g gl lo n e A cap F fr (bxR qn gg' :: mvR qm k f t v :: R))) :
    w.cell? ⟨qn, 0, none⟩ = some (.pointer (some ⟨gg', 0, none⟩)) ∧ w.cell? ⟨qm, 0, none⟩ = some (.int .i64 k) ∧ w.cell? ⟨qm, 1, none⟩ = some (.int .i64 f) ∧ w.cell? ⟨qm, 2, none⟩ = some (.int .i64 t) ∧ w.cell? ⟨qm, 3, none⟩ = some (.int .i64 v) :=
  ⟨h.cellB _ lg_tail0 0 (by omega), h.cellB _ lg_tail1 0 (by omega), h.cellB _ lg_tail1 1 (by omega), h.cellB _ lg_tail1 2 (by omega), h.cellB _ lg_tail1 3 (by omega)⟩
section
variable (gg g gl lo n : Nat) (s : LS) (A : Option Addr) (cap : Nat) (a : LA) (R : List LRow) (w0 w : World)
set_option maxRecDepth 100000 in
set_option maxHeartbeats 1000000 in
theorem dog_crash (f t v : Int) (hn : n ≤ 6) (hB : LB n 100 s) (hd : LdOk n a s) (h : Lay w0 w (rowsG gg g gl lo n s A cap a R)) :
    Calls Try.prog 14 #[.pointer (some ⟨gg, 0, none⟩), .agg #[.int .i64 6, .int .i64 f, .int .i64 t, .int .i64 v]] w fun e w' => e = .returned (.int .i64 (lgStep n 6 f t v s).1) ∧ ∃ A' cap' a', LdOk n a' (lgStep n 6 f t v s).2 ∧ Lay w0 w' (rowsG gg g gl lo n (lgStep n 6 f t v s).2 A' cap' a' R) := by
  obtain ⟨r, hr⟩ : ∃ r, r = lgStep n 6 f t v s := ⟨_, rfl⟩
  rw [← hr]
  rw [lg_6] at hr
  have HR := Lib.hid hr
  clear hr
  obtain ⟨b, hb⟩ : ∃ b, (decide (0 ≤ f) && decide (f < (n : Int))) = b := ⟨_, rfl⟩
  have hr := HR.out
  rw [hb] at hr
  replace HR := Lib.hid hr
  clear hr
  have HB := Lib.hid hb
  have H := Lib.hid h; clear h
  have c0 := (lg_heads H.out).2
  go_enter Try.func14, Try.ntmps14
  go_wp2_with fail
  clear c0
  refine at_lay (F := fun W' => Calls _ _ _ W' _) (L := rowsG gg g gl lo n s A cap a (bxR w.heap.size gg :: mvR (w.heap.size + 1) 6 f t v :: R)) (lg_mid2 ((H.out.newB [.pointer (some ⟨gg, 0, none⟩)] 42 1 rfl _ rfl).newB [.int .i64 6, .int .i64 f, .int .i64 t, .int .i64 v] 40 4 rfl _ (by simp))) ?_
  intro W hW
  generalize w.heap.size + 1 = qm at hW ⊢
  generalize w.heap.size = qn at hW ⊢
  have HW := Lib.hid hW
  clear hW H
  obtain ⟨hN, m0, m1, m2, m3⟩ := bx_cells HW.out
  have c0 := (lg_heads HW.out).2
  refine (cg_is _ f n qn gg lo _ hN c0 HB.out).mono ?_
  rintro e w3 ⟨rfl, rfl⟩
  cases b
  · replace HR := Lib.hid (HR.out.trans (if_pos (by simp)))
    go_wp2
    go_ret
    have e9 := HR.out
    subst e9
    exact ⟨rfl, A, cap, a, hd, lg_un2 HW.out⟩
  · replace HR := Lib.hid (HR.out.trans (if_neg (by simp)))
    have hff : 0 ≤ f ∧ f < n := by simpa using hb
    clear hb
    obtain ⟨i, rfl⟩ := Int.eq_ofNat_of_zero_le hff.1
    have hi : i < n := by omega
    have hr := HR.out
    rw [Int.toNat_natCast] at hr
    replace HR := Lib.hid hr
    clear hr
    clear hff HB
    have d0 := (lg_heads HW.out).1
    go_wp2
    refine wp_text 6 (by kernel_rfl) (by kernel_rfl) (by kernel_rfl) (by repeat' (first | (with_reducible apply tame_then) | (with_reducible apply tame_block) | (with_reducible apply tame_scope) | exact tame_gives | exact tame_body (fun _ _ h => ⟨_, h.1⟩))) ?_
    simp only [List.take_succ_cons, List.take_zero, List.drop_succ_cons, List.drop_zero]
    go_wp2
    refine headed ?_
    go_wp2_with fail
    refine (crash_any g gl n s.e A cap _ w0 _ i hi HW.out.drew).mono ?_
    rintro e w3 ⟨rfl, h3⟩
    have H3 : Hid (Lay w0 w3 (rowsG gg g gl lo n (setEL s (crashS i s.e)) A cap a (bxR qn gg :: mvR qm 6 (i : Nat) t v :: R))) := Lib.hid h3
    clear h3 HW hN m0 m1 m2 m3 c0 d0
    obtain ⟨hN, m0, m1, m2, m3⟩ := bx_cells H3.out
    obtain ⟨d0, d1⟩ := lg_heads H3.out
    obtain ⟨-, c1, -, -⟩ := lg_cells H3.out (i := i) hi
    have fz := lg_frz H3.out (by omega) (i * 4 + 1)
    have HSS := Lib.hid (lg_suset (x := 0) H3.out.drew hi)
    go_wp2
    refine wp_text 8 (by kernel_rfl) (by kernel_rfl) (by kernel_rfl) (by repeat' (first | (with_reducible apply tame_then) | (with_reducible apply tame_block) | (with_reducible apply tame_scope) | exact tame_gives | exact tame_body (fun _ _ h => ⟨_, h.1⟩))) ?_
    simp only [List.take_succ_cons, List.take_zero, List.drop_succ_cons, List.drop_zero]
    go_wp2
    refine headed ?_
    go_wp2
    go_ret
    have e9 := HR.out
    subst e9
    exact ⟨rfl, A, cap, a, hd, (lg_un2 HSS.out).sim ⟨rfl, rfl, rfl, rfl⟩⟩
theorem entF_push_old {l : List Ent} {x : Ent} {j : Nat} (h : j < l.length * 2) : entF (l ++ [x]) j = entF l j := by
  unfold entF
  rw [trm_app (by omega), List.getElem?_append_left (by omega)]
theorem entF_push_new {l : List Ent} {T : Nat} {v : Int} {j : Nat} (h : j < 1 * 2) : (#[Value.int .i64 (T : Nat), .int .i64 v])[j]? = some (entF (l ++ [(T, v)]) (l.length * 2 + j)) := by
  have h2 : (l.length * 2 + j) / 2 = l.length := by omega
  unfold entF trm
  rw [h2]
  rcases (by omega : j = 0 ∨ j = 1) with rfl | rfl
  · rw [if_pos (by omega)]; simp
  · rw [if_neg (by omega)]; simp
set_option maxRecDepth 100000 in
set_option maxHeartbeats 1000000 in
theorem dog_add (f t v : Int) (hn : n ≤ 6) (hB : LB n 100 s) (hd : LdOk n a s) (h : Lay w0 w (rowsG gg g gl lo n s A cap a R)) :
    Calls Try.prog 14 #[.pointer (some ⟨gg, 0, none⟩), .agg #[.int .i64 4, .int .i64 f, .int .i64 t, .int .i64 v]] w fun e w' => e = .returned (.int .i64 (lgStep n 4 f t v s).1) ∧ ∃ A' cap' a', LdOk n a' (lgStep n 4 f t v s).2 ∧ Lay w0 w' (rowsG gg g gl lo n (lgStep n 4 f t v s).2 A' cap' a' R) := by
  obtain ⟨r, hr⟩ : ∃ r, r = lgStep n 4 f t v s := ⟨_, rfl⟩
  rw [← hr]
  rw [lg_4] at hr
  have HR := Lib.hid hr
  clear hr
  obtain ⟨iE, hiE, hzE0, hzE1, hzE2⟩ := info_parts infoEntLg
  obtain ⟨b, hb⟩ : ∃ b, (decide (0 ≤ f) && decide (f < (n : Int))) = b := ⟨_, rfl⟩
  have hr := HR.out
  rw [hb] at hr
  replace HR := Lib.hid hr
  clear hr
  have HB := Lib.hid hb
  have H := Lib.hid h; clear h
  have c0 := (lg_heads H.out).2
  go_enter Try.func14, Try.ntmps14
  go_wp2_with fail
  clear c0
  refine at_lay (F := fun W' => Calls _ _ _ W' _) (L := rowsG gg g gl lo n s A cap a (bxR w.heap.size gg :: mvR (w.heap.size + 1) 4 f t v :: R)) (lg_mid2 ((H.out.newB [.pointer (some ⟨gg, 0, none⟩)] 42 1 rfl _ rfl).newB [.int .i64 4, .int .i64 f, .int .i64 t, .int .i64 v] 40 4 rfl _ (by simp))) ?_
  intro W hW
  generalize w.heap.size + 1 = qm at hW ⊢
  generalize w.heap.size = qn at hW ⊢
  have HW := Lib.hid hW
  clear hW H
  obtain ⟨hN, m0, m1, m2, m3⟩ := bx_cells HW.out
  have c0 := (lg_heads HW.out).2
  refine (cg_is _ f n qn gg lo _ hN c0 HB.out).mono ?_
  rintro e w3 ⟨rfl, rfl⟩
  cases b
  · replace HR := Lib.hid (HR.out.trans (if_pos (by simp)))
    go_wp2
    go_ret
    have e9 := HR.out
    subst e9
    exact ⟨rfl, A, cap, a, hd, lg_un2 HW.out⟩
  · replace HR := Lib.hid (HR.out.trans (if_neg (by simp)))
    have hff : 0 ≤ f ∧ f < n := by simpa using hb
    clear hb
    obtain ⟨i, rfl⟩ := Int.eq_ofNat_of_zero_le hff.1
    have hi : i < n := by omega
    have hr := HR.out
    rw [Int.toNat_natCast] at hr
    replace HR := Lib.hid hr
    clear hr
    clear hff HB
    have d0 := (lg_heads HW.out).1
    unfold addL at HR
    go_wp2
    refine wp_text_all (by kernel_rfl) (by kernel_rfl) (by kernel_rfl) (by repeat' (first | (with_reducible apply tame_then) | (with_reducible apply tame_block) | (with_reducible apply tame_scope) | exact tame_gives | exact tame_body (fun _ _ h => ⟨_, h.1⟩))) ?_
    go_wp2
    refine headed ?_
    go_wp2
    refine wp_text 6 (by kernel_rfl) (by kernel_rfl) (by kernel_rfl) (by repeat' (first | (with_reducible apply tame_then) | (with_reducible apply tame_block) | (with_reducible apply tame_scope) | exact tame_gives | exact tame_body (fun _ _ h => ⟨_, h.1⟩))) ?_
    simp only [List.take_succ_cons, List.take_zero, List.drop_succ_cons, List.drop_zero]
    go_wp2
    refine headed ?_
    go_wp2_with fail
    obtain ⟨ρ, hρ⟩ : ∃ ρ, s.e.R i = ρ := ⟨_, rfl⟩
    refine (role_any g gl n s.e A cap _ w0 _ i hi ρ hρ HW.out.drew.drew).mono ?_
    rintro e w3 ⟨rfl, h3⟩
    have H3 : Hid (Lay w0 w3 (rowsG gg g gl lo n s A cap a (bxR qn gg :: mvR qm 4 (i : Nat) t v :: R))) := Lib.hid h3
    clear h3 HW hN m0 m1 m2 m3 c0 d0
    rw [hρ] at HR
    by_cases hR : ρ = 2
    case neg =>
      replace HR := Lib.hid (HR.out.trans (if_pos hR))
      have e1 : (ρ != 2) = true := by simpa using hR
      clear hR
      go_wp2
      go_ret
      have e9 := HR.out
      subst e9
      exact ⟨rfl, A, cap, a, hd, lg_un2 H3.out⟩
    subst hR
    replace HR := Lib.hid (HR.out.trans (if_neg (by simp)))
    obtain ⟨L, hL⟩ : ∃ L, (s.lg i).length = L := ⟨_, rfl⟩
    have hl := hB.len i
    rw [hL] at hl
    have hr := HR.out
    rw [hL] at hr
    replace HR := Lib.hid hr
    clear hr
    have HL := Lib.hid hL
    clear hL
    obtain ⟨hN, m0, m1, m2, m3⟩ := bx_cells H3.out
    obtain ⟨d0, d1⟩ := lg_heads H3.out
    obtain ⟨k0, -, -, -⟩ := lg_cells H3.out (i := i) hi
    rw [HL.out] at k0
    by_cases h30 : 30 ≤ L
    · replace HR := Lib.hid (HR.out.trans (if_pos h30))
      go_wp2
      go_ret
      have e9 := HR.out
      subst e9
      exact ⟨rfl, A, cap, a, hd, lg_un2 H3.out⟩
    replace HR := Lib.hid (HR.out.trans (if_neg h30))
    have hqm := (H3.out.at_ _ lg_tail1).2
    have hqn := (H3.out.at_ _ lg_tail0).2
    have hlo := (H3.out.at_ 4 rfl).2
    have hgg := (H3.out.at_ 3 rfl).2
    go_wp2
    refine wp_held_mask (fun W => (W.cell? ⟨gg, 0, none⟩ = some (.pointer (some ⟨g, 0, none⟩)) ∧ W.cell? ⟨qn, 0, none⟩ = some (.pointer (some ⟨gg, 0, none⟩))) ∧ (W.cell? ⟨qm, 1, none⟩ = some (.int .i64 (i : Nat)) ∧ W.cell? ⟨qm, 3, none⟩ = some (.int .i64 v)) ∧ W.cell? ⟨lo, i * 4, none⟩ = some (.slice (a.A i) L (a.c i))) [true, true, true, true, true, true, true, true, true, true, true, false, true, true, false, false, false, false, false, false] ?A1 (by kernel_rfl) rfl (by kernel_rfl) (by repeat' (first | (with_reducible apply tame_then) | (with_reducible apply tame_block) | (with_reducible apply tame_scope) | exact tame_gives | exact tame_body (fun _ _ h => ⟨_, h.1⟩))) ⟨⟨d0, hN⟩, ⟨m1, m3⟩, k0⟩ ?head1 ?tail1
    case head1 =>
      intro W5 ⟨⟨s0, s1⟩, ⟨s2, s3⟩, s4⟩
      simp only [pick]
      go_wp2
      exact taken
    case tail1 =>
      simp only [pick, List.map_cons, List.map_nil, Bool.not_true, Bool.not_false]
      refine tail_step ?_
      go_wp2_with fail
      refine (term_any g gl n s.e A cap _ w0 _ i hi H3.out.drew).mono ?_
      rintro e w4 ⟨rfl, h4⟩
      have H4 : Hid (Lay w0 w4 (rowsG gg g gl lo n s A cap a (bxR qn gg :: mvR qm 4 (i : Nat) t v :: R))) := Lib.hid h4
      clear h4 H3 hN m0 m1 m2 m3 d0 d1 k0 hqm hqn hlo hgg
      obtain ⟨hN, m0, m1, m2, m3⟩ := bx_cells H4.out
      obtain ⟨d0, d1⟩ := lg_heads H4.out
      obtain ⟨k0, -, -, -⟩ := lg_cells H4.out (i := i) hi
      rw [HL.out] at k0
      have hqm := (H4.out.at_ _ lg_tail1).2
      have hqn := (H4.out.at_ _ lg_tail0).2
      have hlo := (H4.out.at_ 4 rfl).2
      have hgg := (H4.out.at_ 3 rfl).2
      have HA := fun o => Lib.hid (H4.out.alloc o)
      obtain ⟨T, hT⟩ : ∃ T, s.e.T i = T := ⟨_, rfl⟩
      have HT := Lib.hid hT
      rw [hT]
      clear hT
      go_wp2
      refine holds ⟨⟨d0, hN⟩, ⟨m1, m3⟩, k0⟩ ?_
      refine tail_step ?_
      go_wp2
      refine holds ⟨⟨d0, hN⟩, ⟨m1, m3⟩, k0⟩ ?_
      refine tail_step ?_
      go_wp2
      refine holds ⟨⟨(World.cell?_alloc_lt _ _ _ hgg).trans d0, (World.cell?_alloc_lt _ _ _ hqn).trans hN⟩, ⟨(World.cell?_alloc_lt _ _ _ hqm).trans m1, (World.cell?_alloc_lt _ _ _ hqm).trans m3⟩, (World.cell?_alloc_lt _ _ _ hlo).trans k0⟩ ?_
      refine tail_step ?_
      have ho := (lg_own (HA (.cells #[.int .i64 (T : Nat), .int .i64 v] 35)).out hi).1
      rw [HL.out] at ho
      refine wpList_ap rfl (.tmp 119) (.tmp 130) _ rfl 35 iE _ 2 16 Try.underlying33 hiE hzE0 hzE1 hzE2 rfl (by omega) w0.heap.size rfl ho rfl (m := 1) (g := fun j => entF (s.lg i ++ [(T, v)]) (L * 2 + j)) (cell_new _ _ _ _ _ rfl (fun j hj => by rw [← HL.out]; exact entF_push_new hj)) (fun j _ => ent_one _ _) (entF (s.lg i ++ [(T, v)])) (fun j hj => entF_push_old (by rw [HL.out]; exact hj)) (fun j _ => rfl) (s.lg i ++ [(T, v)]).length (by simp [HL.out]) (by unfold maxLen; omega) (by omega) (HA (.cells #[.int .i64 (T : Nat), .int .i64 v] 35)).out.size ?_
      intro A2 c2 w5 ho2 hg ha
      have HL2 := Lib.hid (lg_row (HA (.cells #[.int .i64 (T : Nat), .int .i64 v] 35)).out hi ho2 hg ha)
      have HL3 := Lib.hid (lg_head HL2.out hi)
      have hT2 : lgS i (s.lg i ++ [(T, v)]) s = pushL i v s := by rw [← HT.out]; rfl
      have e0 : w5.cell? ⟨gg, 0, none⟩ = some (.pointer (some ⟨g, 0, none⟩)) := HL2.out.cellB 3 rfl 0 (by omega)
      have e1 := bx_cells HL2.out
      have e4 : w5.cell? ⟨lo, i * 4, none⟩ = some (.slice (a.A i) L (a.c i)) := (HL2.out.cell 4 rfl (j := i * 4) (by omega)).trans (by rw [lgF_0, HL.out])
      have fz := HL2.out.frz 4 rfl (by omega) (i * 4)
      rw [hT2, List.length_append, List.length_singleton] at HL3
      clear ho ho2 hg ha HL2 HA H4 hN m0 m1 m2 m3 d0 d1 k0 hqm hqn hlo hgg hT2
      refine holds ⟨⟨e0, e1.1⟩, ⟨e1.2.2.1, e1.2.2.2.2⟩, e4⟩ ?_
      refine tail_step ?_
      go_wp2
      refine holds ⟨⟨e0, e1.1⟩, ⟨e1.2.2.1, e1.2.2.2.2⟩, e4⟩ ?_
      refine tail_step ?_
      go_wp2
      refine holds ⟨⟨e0, e1.1⟩, ⟨e1.2.2.1, e1.2.2.2.2⟩, e4⟩ ?_
      refine tail_last ?_
      go_wp2
      go_ret
      have e9 := HR.out
      subst e9
      exact ⟨rfl, A, cap, lgA i A2 c2 a, hd, lg_un2 HL3.out⟩
theorem dog_any (k f t v : Int) (hn : n ≤ 6) (hB : LB n 100 s) (hd : LdOk n a s) (h : Lay w0 w (rowsG gg g gl lo n s A cap a R)) :
    Calls Try.prog 14 #[.pointer (some ⟨gg, 0, none⟩), .agg #[.int .i64 k, .int .i64 f, .int .i64 t, .int .i64 v]] w fun e w' => e = .returned (.int .i64 (lgStep n k f t v s).1) ∧ ∃ A' cap' a', LdOk n a' (lgStep n k f t v s).2 ∧ Lay w0 w' (rowsG gg g gl lo n (lgStep n k f t v s).2 A' cap' a' R) := by
  by_cases hk : k < 1 ∨ 6 < k
  · rw [show lgStep n k f t v s = (6, s) by unfold lgStep; rw [if_pos hk]]
    exact (dog_kind gg g gl lo n s A cap a R w0 w k f t v hk h).mono fun e w' ⟨he, hw⟩ => ⟨he, A, cap, a, hd, hw⟩
  · rcases (show k = 1 ∨ k = 2 ∨ k = 3 ∨ k = 4 ∨ k = 5 ∨ k = 6 by omega) with rfl | rfl | rfl | rfl | rfl | rfl
    · exact dog_stand gg g gl lo n s A cap a R w0 w f t v hn hB hd h
    · exact dog_vote gg g gl lo n s A cap a R w0 w f t v hn hB hd h
    · exact dog_send gg g gl lo n s A cap a R w0 w f t v hn hB hd h
    · exact dog_add gg g gl lo n s A cap a R w0 w f t v hn hB hd h
    · exact dog_commit gg g gl lo n s A cap a R w0 w f t v hn hB hd h
    · exact dog_crash gg g gl lo n s A cap a R w0 w f t v hn hB hd h
end
end Go.Proofs.Ytfhmabpalimcnaa
