/- The walk of turn's 'do'. -/
import Derived.Test.YtihkbkbbllmliaaTu3
set_option linter.unusedVariables false
set_option linter.unusedSimpArgs false
namespace Go.Proofs.Ytihkbkbbllmliaa
open Go.RowKit Go.Maps Go.MapKept

abbrev ptrR (q g : Nat) : LRow := blk q 40 1 (ofL [.pointer (some ⟨g, 0, none⟩)])
abbrev mvB (q : Nat) (k f t v : Int) : LRow := blk q 35 4 (ofL [.int .i64 k, .int .i64 f, .int .i64 t, .int .i64 v])
theorem clT_is (b : Bool) (i : Int) (n q g gl : Nat) (w : World) (hN : w.cell? ⟨q, 0, none⟩ = some (.pointer (some ⟨g, 0, none⟩))) (h : w.cell? ⟨g, 0, none⟩ = some (.slice (some ⟨gl, 0, none⟩) n n)) (hb : (decide (0 ≤ i) && decide (i < (n : Int))) = b) :
    Calls Try.prog 23 #[.int .i64 i, .pointer (some ⟨q, 0, none⟩)] w fun e w' => e = .returned (.bool (!b)) ∧ w = w' := by
  subst hb
  by_cases h0 : i < 0
  · go_enter Try.func23, Try.ntmps23
    go_wp2
    go_ret
    exact ⟨ret_bool (by simp [show ¬ 0 ≤ i by omega]), rfl⟩
  · have h0' : 0 ≤ i := by omega
    clear h0
    go_enter Try.func23, Try.ntmps23
    go_wp2
    go_ret
    exact ⟨ret_bool (by rw [Bool.eq_iff_iff]; simp; first | done | omega), rfl⟩
theorem tu_want (n : Nat) (f t : Int) (s : TS) : tuStep n 1 f t s = if !(decide (0 ≤ f) && decide (f < n)) then (2, s) else wantS n f.toNat s := by simp [tuStep, tuBad]
theorem tu_come (n : Nat) (f t : Int) (s : TS) : tuStep n 2 f t s = if !(decide (0 ≤ f) && decide (f < n)) || (!(decide (0 ≤ t) && decide (t < n)) || f == t) then (2, s) else comeS n f.toNat t.toNat s := by simp [tuStep, tuBad]
theorem tu_out (n : Nat) (f t : Int) (s : TS) : tuStep n 3 f t s = if !(decide (0 ≤ f) && decide (f < n)) then (2, s) else outS n f.toNat s := by simp [tuStep, tuBad]
/-- All numbers are small. -/
structure BT (n : Nat) (s : TS) : Prop where
  sh : ShortT 900 s
  ck : ∀ i, 0 ≤ (s.p i).ck ∧ (s.p i).ck ≤ 1000
  bits : ∀ i, (s.p i).hv < 2 ^ n ∧ (s.p i).wt < 2 ^ n
section
variable (g gl bm n : Nat) (R : List LRow) (w0 : World)
theorem doT_kind (F : WQ → Value) (s : TS) (w : World) (k f t v : Int) (hk : k < 1 ∨ 3 < k) (h : LayT g gl bm n R w0 F s w) :
    Calls Try.prog 15 #[.pointer (some ⟨g, 0, none⟩), .agg #[.int .i64 k, .int .i64 f, .int .i64 t, .int .i64 v]] w fun e w' => e = .returned (.int .i64 6) ∧ ∃ f', LayT g gl bm n R w0 f' s w' := by
  have H := Lib.hid h; clear h
  rcases hk with hk | hk
  · go_enter Try.func15, Try.ntmps15
    go_wp2
    go_ret
    exact ⟨rfl, F, (H.out.alloc _).alloc _⟩
  · have hk2 : ¬ k < 1 := by omega
    go_enter Try.func15, Try.ntmps15
    go_wp2
    go_ret
    exact ⟨rfl, F, (H.out.alloc _).alloc _⟩
set_option maxRecDepth 100000 in
set_option maxHeartbeats 1000000 in
theorem doT_come (F : WQ → Value) (s : TS) (w : World) (f t v : Int) (hn : n ≤ 6) (hB : BT n s) (h : LayT g gl bm n R w0 F s w) :
    Calls Try.prog 15 #[.pointer (some ⟨g, 0, none⟩), .agg #[.int .i64 2, .int .i64 f, .int .i64 t, .int .i64 v]] w fun e w' => e = .returned (.int .i64 (tuStep n 2 f t s).1) ∧ ∃ f', LayT g gl bm n R w0 f' (tuStep n 2 f t s).2 w' := by
  obtain ⟨r, hr⟩ : ∃ r, r = tuStep n 2 f t s := ⟨_, rfl⟩
  rw [← hr]
  rw [tu_come] at hr
  have HR := Lib.hid hr
  clear hr
  obtain ⟨b, hb⟩ : ∃ b, (decide (0 ≤ f) && decide (f < (n : Int))) = b := ⟨_, rfl⟩
  have hr := HR.out
  rw [hb] at hr
  have HR := Lib.hid hr
  clear hr
  have HB := Lib.hid hb
  have H := Lib.hid h; clear h
  have HK := Lib.hid ((((H.out.newB [.pointer (some ⟨g, 0, none⟩)] 40 1 rfl _ rfl).rot2).newB [.int .i64 2, .int .i64 f, .int .i64 t, .int .i64 v] 35 4 rfl _ rfl).rot2)
  have c0 := (tu_heads H.out).1
  go_enter Try.func15, Try.ntmps15
  go_wp2_with fail
  clear c0
  refine at_layQ (F := fun W' => Calls _ _ _ W' _) HK.out ?_
  intro W hW
  have HW : Hid (LayT g gl bm n (mvB (w.heap.size + 1) 2 f t v :: ptrR w.heap.size g :: R) w0 F s W) := Lib.hid (by rw [← size_push w (.cells #[.pointer (some ⟨g, 0, none⟩)] 40)]; exact hW)
  clear hW H HK
  generalize w.heap.size + 1 = qm at HW ⊢
  generalize w.heap.size = qn at HW ⊢
  have c0 := (tu_heads HW.out).1
  have hN : W.cell? ⟨qn, 0, none⟩ = some (.pointer (some ⟨g, 0, none⟩)) := HW.out.lay.cellB 3 rfl 0 (by omega)
  have m0 : W.cell? ⟨qm, 0, none⟩ = some (.int .i64 2) := HW.out.lay.cellB 2 rfl 0 (by omega)
  have m1 : W.cell? ⟨qm, 1, none⟩ = some (.int .i64 f) := HW.out.lay.cellB 2 rfl 1 (by omega)
  have m2 : W.cell? ⟨qm, 2, none⟩ = some (.int .i64 t) := HW.out.lay.cellB 2 rfl 2 (by omega)
  refine (clT_is _ f n qn g gl _ hN c0 HB.out).mono ?_
  rintro e w3 ⟨rfl, rfl⟩
  cases b
  · have HR := Lib.hid (HR.out.trans (if_pos (by simp)))
    go_wp2
    go_ret
    have e9 := HR.out
    subst e9
    exact ⟨rfl, F, HW.out.drop2.drop2⟩
  obtain ⟨c, hc⟩ : ∃ c, (decide (0 ≤ t) && decide (t < (n : Int))) = c := ⟨_, rfl⟩
  have hr := HR.out
  rw [hc] at hr
  have HR := Lib.hid hr
  clear hr
  have HC := Lib.hid hc
  have hff : 0 ≤ f ∧ f < n := by simpa using hb
  clear hb
  go_wp2_with fail
  refine (clT_is _ t n qn g gl _ hN c0 HC.out).mono ?_
  rintro e w3 ⟨rfl, rfl⟩
  cases c
  · have HR := Lib.hid (HR.out.trans (if_pos (by simp)))
    go_wp2
    go_ret
    have e9 := HR.out
    subst e9
    exact ⟨rfl, F, HW.out.drop2.drop2⟩
  have htt : 0 ≤ t ∧ t < n := by simpa using hc
  clear hc
  by_cases hft : f = t
  · subst hft
    have HR := Lib.hid (HR.out.trans (if_pos (by simp)))
    go_wp2
    go_ret
    have e9 := HR.out
    subst e9
    exact ⟨rfl, F, HW.out.drop2.drop2⟩
  have e1 : (f == t) = false := by simpa using hft
  have hr := HR.out
  rw [e1] at hr
  have HR := Lib.hid hr
  clear hr
  have HR := Lib.hid (HR.out.trans (if_neg (by simp)))
  obtain ⟨i, rfl⟩ := Int.eq_ofNat_of_zero_le hff.1
  obtain ⟨j, rfl⟩ := Int.eq_ofNat_of_zero_le htt.1
  have hi : i < n := by omega
  have hj : j < n := by omega
  have hij : i ≠ j := fun h => hft (by rw [h])
  have hr := HR.out
  rw [Int.toNat_natCast, Int.toNat_natCast] at hr
  have HR := Lib.hid hr
  clear hr
  clear htt hff HB HC hft
  go_wp2_with fail
  refine (come_any g gl bm n _ w0 i j F s _ hn hi hj hij (fun p => Nat.le_trans (hB.sh p) (by omega)) (hB.bits j) HW.out).mono ?_
  rintro e w3 ⟨rfl, F3, h3⟩
  have H3 := Lib.hid h3; clear h3
  go_wp2
  go_ret
  have e9 := HR.out
  subst e9
  exact ⟨rfl, F3, H3.out.drop2.drop2⟩
set_option maxRecDepth 100000 in
set_option maxHeartbeats 1000000 in
theorem doT_want (F : WQ → Value) (s : TS) (w : World) (f t v : Int) (hn : n ≤ 6) (hB : BT n s) (h : LayT g gl bm n R w0 F s w) :
    Calls Try.prog 15 #[.pointer (some ⟨g, 0, none⟩), .agg #[.int .i64 1, .int .i64 f, .int .i64 t, .int .i64 v]] w fun e w' => e = .returned (.int .i64 (tuStep n 1 f t s).1) ∧ ∃ f', LayT g gl bm n R w0 f' (tuStep n 1 f t s).2 w' := by
  obtain ⟨r, hr⟩ : ∃ r, r = tuStep n 1 f t s := ⟨_, rfl⟩
  rw [← hr]
  rw [tu_want] at hr
  have HR := Lib.hid hr
  clear hr
  obtain ⟨b, hb⟩ : ∃ b, (decide (0 ≤ f) && decide (f < (n : Int))) = b := ⟨_, rfl⟩
  have hr := HR.out
  rw [hb] at hr
  have HR := Lib.hid hr
  clear hr
  have HB := Lib.hid hb
  have H := Lib.hid h; clear h
  have HK := Lib.hid ((((H.out.newB [.pointer (some ⟨g, 0, none⟩)] 40 1 rfl _ rfl).rot2).newB [.int .i64 1, .int .i64 f, .int .i64 t, .int .i64 v] 35 4 rfl _ rfl).rot2)
  have c0 := (tu_heads H.out).1
  go_enter Try.func15, Try.ntmps15
  go_wp2_with fail
  clear c0
  refine at_layQ (F := fun W' => Calls _ _ _ W' _) HK.out ?_
  intro W hW
  have HW : Hid (LayT g gl bm n (mvB (w.heap.size + 1) 1 f t v :: ptrR w.heap.size g :: R) w0 F s W) := Lib.hid (by rw [← size_push w (.cells #[.pointer (some ⟨g, 0, none⟩)] 40)]; exact hW)
  clear hW H HK
  generalize w.heap.size + 1 = qm at HW ⊢
  generalize w.heap.size = qn at HW ⊢
  have c0 := (tu_heads HW.out).1
  have hN : W.cell? ⟨qn, 0, none⟩ = some (.pointer (some ⟨g, 0, none⟩)) := HW.out.lay.cellB 3 rfl 0 (by omega)
  have m0 : W.cell? ⟨qm, 0, none⟩ = some (.int .i64 1) := HW.out.lay.cellB 2 rfl 0 (by omega)
  have m1 : W.cell? ⟨qm, 1, none⟩ = some (.int .i64 f) := HW.out.lay.cellB 2 rfl 1 (by omega)
  have m2 : W.cell? ⟨qm, 2, none⟩ = some (.int .i64 t) := HW.out.lay.cellB 2 rfl 2 (by omega)
  refine (clT_is _ f n qn g gl _ hN c0 HB.out).mono ?_
  rintro e w3 ⟨rfl, rfl⟩
  cases b
  · have HR := Lib.hid (HR.out.trans (if_pos (by simp)))
    go_wp2
    go_ret
    have e9 := HR.out
    subst e9
    exact ⟨rfl, F, HW.out.drop2.drop2⟩
  have HR := Lib.hid (HR.out.trans (if_neg (by simp)))
  have hff : 0 ≤ f ∧ f < n := by simpa using hb
  clear hb
  obtain ⟨i, rfl⟩ := Int.eq_ofNat_of_zero_le hff.1
  have hi : i < n := by omega
  have hr := HR.out
  rw [Int.toNat_natCast] at hr
  have HR := Lib.hid hr
  clear hr
  clear hff HB
  go_wp2_with fail
  refine (want_any g gl bm n _ w0 i F s _ hn hi hB.sh (hB.ck i) HW.out).mono ?_
  rintro e w3 ⟨rfl, F3, h3⟩
  have H3 := Lib.hid h3; clear h3
  go_wp2
  go_ret
  have e9 := HR.out
  subst e9
  exact ⟨rfl, F3, H3.out.drop2.drop2⟩
set_option maxRecDepth 100000 in
set_option maxHeartbeats 1000000 in
theorem doT_out (F : WQ → Value) (s : TS) (w : World) (f t v : Int) (hn : n ≤ 6) (hB : BT n s) (h : LayT g gl bm n R w0 F s w) :
    Calls Try.prog 15 #[.pointer (some ⟨g, 0, none⟩), .agg #[.int .i64 3, .int .i64 f, .int .i64 t, .int .i64 v]] w fun e w' => e = .returned (.int .i64 (tuStep n 3 f t s).1) ∧ ∃ f', LayT g gl bm n R w0 f' (tuStep n 3 f t s).2 w' := by
  obtain ⟨r, hr⟩ : ∃ r, r = tuStep n 3 f t s := ⟨_, rfl⟩
  rw [← hr]
  rw [tu_out] at hr
  have HR := Lib.hid hr
  clear hr
  obtain ⟨b, hb⟩ : ∃ b, (decide (0 ≤ f) && decide (f < (n : Int))) = b := ⟨_, rfl⟩
  have hr := HR.out
  rw [hb] at hr
  have HR := Lib.hid hr
  clear hr
  have HB := Lib.hid hb
  have H := Lib.hid h; clear h
  have HK := Lib.hid ((((H.out.newB [.pointer (some ⟨g, 0, none⟩)] 40 1 rfl _ rfl).rot2).newB [.int .i64 3, .int .i64 f, .int .i64 t, .int .i64 v] 35 4 rfl _ rfl).rot2)
  have c0 := (tu_heads H.out).1
  go_enter Try.func15, Try.ntmps15
  go_wp2_with fail
  clear c0
  refine at_layQ (F := fun W' => Calls _ _ _ W' _) HK.out ?_
  intro W hW
  have HW : Hid (LayT g gl bm n (mvB (w.heap.size + 1) 3 f t v :: ptrR w.heap.size g :: R) w0 F s W) := Lib.hid (by rw [← size_push w (.cells #[.pointer (some ⟨g, 0, none⟩)] 40)]; exact hW)
  clear hW H HK
  generalize w.heap.size + 1 = qm at HW ⊢
  generalize w.heap.size = qn at HW ⊢
  have c0 := (tu_heads HW.out).1
  have hN : W.cell? ⟨qn, 0, none⟩ = some (.pointer (some ⟨g, 0, none⟩)) := HW.out.lay.cellB 3 rfl 0 (by omega)
  have m0 : W.cell? ⟨qm, 0, none⟩ = some (.int .i64 3) := HW.out.lay.cellB 2 rfl 0 (by omega)
  have m1 : W.cell? ⟨qm, 1, none⟩ = some (.int .i64 f) := HW.out.lay.cellB 2 rfl 1 (by omega)
  have m2 : W.cell? ⟨qm, 2, none⟩ = some (.int .i64 t) := HW.out.lay.cellB 2 rfl 2 (by omega)
  refine (clT_is _ f n qn g gl _ hN c0 HB.out).mono ?_
  rintro e w3 ⟨rfl, rfl⟩
  cases b
  · have HR := Lib.hid (HR.out.trans (if_pos (by simp)))
    go_wp2
    go_ret
    have e9 := HR.out
    subst e9
    exact ⟨rfl, F, HW.out.drop2.drop2⟩
  have HR := Lib.hid (HR.out.trans (if_neg (by simp)))
  have hff : 0 ≤ f ∧ f < n := by simpa using hb
  clear hb
  obtain ⟨i, rfl⟩ := Int.eq_ofNat_of_zero_le hff.1
  have hi : i < n := by omega
  have hr := HR.out
  rw [Int.toNat_natCast] at hr
  have HR := Lib.hid hr
  clear hr
  clear hff HB
  go_wp2_with fail
  refine (out_any g gl bm n _ w0 i F s _ hn hi hB.sh (hB.bits i).2 HW.out).mono ?_
  rintro e w3 ⟨rfl, F3, h3⟩
  have H3 := Lib.hid h3; clear h3
  go_wp2
  go_ret
  have e9 := HR.out
  subst e9
  exact ⟨rfl, F3, H3.out.drop2.drop2⟩
theorem doT_any (F : WQ → Value) (s : TS) (w : World) (k f t v : Int) (hn : n ≤ 6) (hB : BT n s) (h : LayT g gl bm n R w0 F s w) :
    Calls Try.prog 15 #[.pointer (some ⟨g, 0, none⟩), .agg #[.int .i64 k, .int .i64 f, .int .i64 t, .int .i64 v]] w fun e w' => e = .returned (.int .i64 (tuStep n k f t s).1) ∧ ∃ f', LayT g gl bm n R w0 f' (tuStep n k f t s).2 w' := by
  by_cases hk : k < 1 ∨ 3 < k
  · rw [show tuStep n k f t s = (6, s) by unfold tuStep; rw [if_pos hk]]
    exact doT_kind g gl bm n R w0 F s w k f t v hk h
  · rcases (show k = 1 ∨ k = 2 ∨ k = 3 by omega) with rfl | rfl | rfl
    · exact doT_want g gl bm n R w0 F s w f t v hn hB h
    · exact doT_come g gl bm n R w0 F s w f t v hn hB h
    · exact doT_out g gl bm n R w0 F s w f t v hn hB h
end
end Go.Proofs.Ytihkbkbbllmliaa
