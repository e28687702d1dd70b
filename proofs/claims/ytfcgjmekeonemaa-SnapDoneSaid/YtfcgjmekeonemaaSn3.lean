/- The walk of snap's 'do'. -/
import Derived.Test.YtfcgjmekeonemaaSn2
set_option linter.unusedVariables false
set_option linter.unusedSimpArgs false
namespace Go.Proofs.Ytfcgjmekeonemaa
open Go.RowKit Go.Maps Go.MapKept

abbrev ptrR (q g : Nat) : LRow := blk q 49 1 (ofL [.pointer (some ⟨g, 0, none⟩)])
abbrev mvB (q : Nat) (k f t v : Int) : LRow := blk q 41 4 (ofL [.int .i64 k, .int .i64 f, .int .i64 t, .int .i64 v])
theorem clN_is (b : Bool) (i : Int) (n q g : Nat) (w : World) (hN : w.cell? ⟨q, 0, none⟩ = some (.pointer (some ⟨g, 0, none⟩))) (h : w.cell? ⟨g, 0, none⟩ = some (.int .i64 n)) (hb : (decide (0 ≤ i) && decide (i < (n : Int))) = b) :
    Calls Try.prog 18 #[.int .i64 i, .pointer (some ⟨q, 0, none⟩)] w fun e w' => e = .returned (.bool (!b)) ∧ w = w' := by
  subst hb
  by_cases h0 : i < 0
  · go_enter Try.func18, Try.ntmps18
    go_wp2
    go_ret
    exact ⟨ret_bool (by simp [show ¬ 0 ≤ i by omega]), rfl⟩
  · have h0' : 0 ≤ i := by omega
    clear h0
    go_enter Try.func18, Try.ntmps18
    go_wp2
    go_ret
    exact ⟨ret_bool (by rw [Bool.eq_iff_iff]; simp; first | done | omega), rfl⟩
theorem sn_send (n : Nat) (f t v : Int) (s : SN) : snStep n 1 f t v s = if !(decide (0 ≤ f) && decide (f < n)) || (!(decide (0 ≤ t) && decide (t < n)) || f == t) then (2, s) else if v < 1 ∨ s.have_ f.toNat < v then (4, s) else (0, sendN f.toNat t.toNat v s) := by simp [snStep, snBad]
theorem sn_take (n : Nat) (f t v : Int) (s : SN) : snStep n 2 f t v s = if !(decide (0 ≤ f) && decide (f < n)) || (!(decide (0 ≤ t) && decide (t < n)) || f == t) then (2, s) else takeN n f.toNat t.toNat s := by simp [snStep, snBad]
theorem sn_mark (n : Nat) (f t v : Int) (s : SN) : snStep n 3 f t v s = if !(decide (0 ≤ f) && decide (f < n)) then (2, s) else if s.rec_ f.toNat = true then (7, s) else (0, recS n f.toNat s) := by simp [snStep, snBad]
/-- What the loads of 'p.way[k] = append(p.way[k], m.Val)' read. -/
def SendS (g bm qn qm qk : Nat) (i j : Nat) (v : Int) (w : World) : Prop :=
  w.cell? ⟨qn, 0, none⟩ = some (.pointer (some ⟨g, 0, none⟩)) ∧ w.cell? ⟨g, 2, none⟩ = some (.map (some bm)) ∧ w.cell? ⟨qk, 0, none⟩ = some (.int .i64 (i : Nat)) ∧ w.cell? ⟨qk, 1, none⟩ = some (.int .i64 (j : Nat)) ∧ w.cell? ⟨qm, 3, none⟩ = some (.int .i64 v)
theorem sn_fin {g gh gr gk gw bm bc n : Nat} {C D : Value} {R : List LRow} {w0 w : World} {s : SN} (p : Nat × Nat) {v' : Value} {l : List Int} {f0 : FQ → Value}
    (h : LayQ w0 w (rowsN g gh gr gk gw bm bc n C D f0 s R) [⟨bm, wayE Try.prog 47 n (fput (fun p => f0 (.inl p)) p v')⟩, ⟨bc, closedE n s.closed⟩] tyI (fput f0 (.inl p) v') (qput (qsN n s) (.inl p) (vI l))) :
    LayN g gh gr gk gw bm bc n C D R w0 (fput f0 (.inl p) v') { s with way := qput s.way p l } w := by
  have h3 := h.sameQ (q' := qsN n { s with way := qput s.way p l }) fun a => (qsN_way a).symm
  show LayQ w0 _ (rowsN g gh gr gk gw bm bc n C D (fput f0 (.inl p) v') _ R) (mapsN bm bc n (fput f0 (.inl p) v') _) tyI _ _
  unfold rowsN mapsN
  rw [fput_inr, fput_inl]
  exact h3
section
variable (g gh gr gk gw bm bc n : Nat) (C D : Value) (R : List LRow) (w0 : World)
theorem doN_kind (F : FQ → Value) (s : SN) (w : World) (k f t v : Int) (hk : k < 1 ∨ 3 < k) (h : LayN g gh gr gk gw bm bc n C D R w0 F s w) :
    Calls Try.prog 14 #[.pointer (some ⟨g, 0, none⟩), .agg #[.int .i64 k, .int .i64 f, .int .i64 t, .int .i64 v]] w fun e w' => e = .returned (.int .i64 6) ∧ ∃ f', LayN g gh gr gk gw bm bc n C D R w0 f' s w' := by
  have H := Lib.hid h; clear h
  rcases hk with hk | hk
  · go_enter Try.func14, Try.ntmps14
    go_wp2
    go_ret
    exact ⟨rfl, F, (H.out.alloc _).alloc _⟩
  · have hk2 : ¬ k < 1 := by omega
    go_enter Try.func14, Try.ntmps14
    go_wp2
    go_ret
    exact ⟨rfl, F, (H.out.alloc _).alloc _⟩
set_option maxRecDepth 100000 in
set_option maxHeartbeats 1000000 in
theorem doN_take (F : FQ → Value) (s : SN) (w : World) (f t v : Int) (hn : n ≤ 6) (hq : ShortN 1000 s) (hB : BN n s) (h : LayN g gh gr gk gw bm bc n C D R w0 F s w) :
    Calls Try.prog 14 #[.pointer (some ⟨g, 0, none⟩), .agg #[.int .i64 2, .int .i64 f, .int .i64 t, .int .i64 v]] w fun e w' => e = .returned (.int .i64 (snStep n 2 f t v s).1) ∧ ∃ f', LayN g gh gr gk gw bm bc n C D R w0 f' (snStep n 2 f t v s).2 w' := by
  obtain ⟨r, hr⟩ : ∃ r, r = snStep n 2 f t v s := ⟨_, rfl⟩
  rw [← hr]
  rw [sn_take] at hr
  have HR := Lib.hid hr
  clear hr
  obtain ⟨b, hb⟩ : ∃ b, (decide (0 ≤ f) && decide (f < (n : Int))) = b := ⟨_, rfl⟩
  have hr := HR.out
  rw [hb] at hr
  have HR := Lib.hid hr
  clear hr
  have HB := Lib.hid hb
  have H := Lib.hid h; clear h
  have HK := Lib.hid ((((H.out.newB [.pointer (some ⟨g, 0, none⟩)] 49 1 rfl _ rfl).rot5).newB [.int .i64 2, .int .i64 f, .int .i64 t, .int .i64 v] 41 4 rfl _ rfl).rot5)
  have c0 := (sn_heads H.out).1
  go_enter Try.func14, Try.ntmps14
  go_wp2_with fail
  clear c0
  refine at_layQ (F := fun W' => Calls _ _ _ W' _) HK.out ?_
  intro W hW
  have HW : Hid (LayN g gh gr gk gw bm bc n C D (mvB (w.heap.size + 1) 2 f t v :: ptrR w.heap.size g :: R) w0 F s W) := Lib.hid (by rw [← size_push w (.cells #[.pointer (some ⟨g, 0, none⟩)] 49)]; exact hW)
  clear hW H HK
  generalize w.heap.size + 1 = qm at HW ⊢
  generalize w.heap.size = qn at HW ⊢
  have c0 := (sn_heads HW.out).1
  have hN : W.cell? ⟨qn, 0, none⟩ = some (.pointer (some ⟨g, 0, none⟩)) := HW.out.lay.cellB 6 rfl 0 (by omega)
  have m0 : W.cell? ⟨qm, 0, none⟩ = some (.int .i64 2) := HW.out.lay.cellB 5 rfl 0 (by omega)
  have m1 : W.cell? ⟨qm, 1, none⟩ = some (.int .i64 f) := HW.out.lay.cellB 5 rfl 1 (by omega)
  have m2 : W.cell? ⟨qm, 2, none⟩ = some (.int .i64 t) := HW.out.lay.cellB 5 rfl 2 (by omega)
  have m3 : W.cell? ⟨qm, 3, none⟩ = some (.int .i64 v) := HW.out.lay.cellB 5 rfl 3 (by omega)
  refine (clN_is _ f n qn g _ hN c0 HB.out).mono ?_
  rintro e w3 ⟨rfl, rfl⟩
  cases b
  · have HR := Lib.hid (HR.out.trans (if_pos (by simp)))
    go_wp2
    go_ret
    have e9 := HR.out
    subst e9
    exact ⟨rfl, F, HW.out.drop5.drop5⟩
  obtain ⟨c, hc⟩ : ∃ c, (decide (0 ≤ t) && decide (t < (n : Int))) = c := ⟨_, rfl⟩
  have hr := HR.out
  rw [hc] at hr
  have HR := Lib.hid hr
  clear hr
  have HC := Lib.hid hc
  have hff : 0 ≤ f ∧ f < n := by simpa using hb
  clear hb
  go_wp2_with fail
  refine (clN_is _ t n qn g _ hN c0 HC.out).mono ?_
  rintro e w3 ⟨rfl, rfl⟩
  cases c
  · have HR := Lib.hid (HR.out.trans (if_pos (by simp)))
    go_wp2
    go_ret
    have e9 := HR.out
    subst e9
    exact ⟨rfl, F, HW.out.drop5.drop5⟩
  have htt : 0 ≤ t ∧ t < n := by simpa using hc
  clear hc
  by_cases hft : f = t
  · subst hft
    have HR := Lib.hid (HR.out.trans (if_pos (by simp)))
    go_wp2
    go_ret
    have e9 := HR.out
    subst e9
    exact ⟨rfl, F, HW.out.drop5.drop5⟩
  have e1 : (f == t) = false := by simpa using hft
  have hr := HR.out
  rw [e1] at hr
  have HR := Lib.hid hr
  clear hr
  have HR := Lib.hid (HR.out.trans (if_neg (by simp)))
  obtain ⟨i, rfl⟩ := Int.eq_ofNat_of_zero_le hff.1
  obtain ⟨j, rfl⟩ := Int.eq_ofNat_of_zero_le htt.1
  have hi : i < n := by omega
  have hj : j < n := by omega
  have hij : i ≠ j := fun h => hft (by rw [h])
  have hr := HR.out
  rw [Int.toNat_natCast] at hr
  have HR := Lib.hid hr
  clear hr
  clear htt hff HB HC hft
  go_wp2_with fail
  refine (takeN_any g gh gr gk gw bm bc n C D _ w0 i j F s _ hn hi hj hij hq hB HW.out).mono ?_
  rintro e w3 ⟨rfl, F3, h3⟩
  have H3 := Lib.hid h3; clear h3
  go_wp2
  go_ret
  have e9 := HR.out
  subst e9
  exact ⟨rfl, F3, H3.out.drop5.drop5⟩
set_option maxRecDepth 100000 in
set_option maxHeartbeats 1000000 in
theorem doN_mark (F : FQ → Value) (s : SN) (w : World) (f t v : Int) (hn : n ≤ 6) (hq : ShortN 1000 s) (h : LayN g gh gr gk gw bm bc n C D R w0 F s w) :
    Calls Try.prog 14 #[.pointer (some ⟨g, 0, none⟩), .agg #[.int .i64 3, .int .i64 f, .int .i64 t, .int .i64 v]] w fun e w' => e = .returned (.int .i64 (snStep n 3 f t v s).1) ∧ ∃ f', LayN g gh gr gk gw bm bc n C D R w0 f' (snStep n 3 f t v s).2 w' := by
  obtain ⟨r, hr⟩ : ∃ r, r = snStep n 3 f t v s := ⟨_, rfl⟩
  rw [← hr]
  rw [sn_mark] at hr
  have HR := Lib.hid hr
  clear hr
  obtain ⟨b, hb⟩ : ∃ b, (decide (0 ≤ f) && decide (f < (n : Int))) = b := ⟨_, rfl⟩
  have hr := HR.out
  rw [hb] at hr
  have HR := Lib.hid hr
  clear hr
  have HB := Lib.hid hb
  have H := Lib.hid h; clear h
  have HK := Lib.hid ((((H.out.newB [.pointer (some ⟨g, 0, none⟩)] 49 1 rfl _ rfl).rot5).newB [.int .i64 3, .int .i64 f, .int .i64 t, .int .i64 v] 41 4 rfl _ rfl).rot5)
  have c0 := (sn_heads H.out).1
  go_enter Try.func14, Try.ntmps14
  go_wp2_with fail
  clear c0
  refine at_layQ (F := fun W' => Calls _ _ _ W' _) HK.out ?_
  intro W hW
  have HW : Hid (LayN g gh gr gk gw bm bc n C D (mvB (w.heap.size + 1) 3 f t v :: ptrR w.heap.size g :: R) w0 F s W) := Lib.hid (by rw [← size_push w (.cells #[.pointer (some ⟨g, 0, none⟩)] 49)]; exact hW)
  clear hW H HK
  generalize w.heap.size + 1 = qm at HW ⊢
  generalize w.heap.size = qn at HW ⊢
  have c0 := (sn_heads HW.out).1
  have hN : W.cell? ⟨qn, 0, none⟩ = some (.pointer (some ⟨g, 0, none⟩)) := HW.out.lay.cellB 6 rfl 0 (by omega)
  have m0 : W.cell? ⟨qm, 0, none⟩ = some (.int .i64 3) := HW.out.lay.cellB 5 rfl 0 (by omega)
  have m1 : W.cell? ⟨qm, 1, none⟩ = some (.int .i64 f) := HW.out.lay.cellB 5 rfl 1 (by omega)
  have m2 : W.cell? ⟨qm, 2, none⟩ = some (.int .i64 t) := HW.out.lay.cellB 5 rfl 2 (by omega)
  have m3 : W.cell? ⟨qm, 3, none⟩ = some (.int .i64 v) := HW.out.lay.cellB 5 rfl 3 (by omega)
  refine (clN_is _ f n qn g _ hN c0 HB.out).mono ?_
  rintro e w3 ⟨rfl, rfl⟩
  cases b
  · have HR := Lib.hid (HR.out.trans (if_pos (by simp)))
    go_wp2
    go_ret
    have e9 := HR.out
    subst e9
    exact ⟨rfl, F, HW.out.drop5.drop5⟩
  have HR := Lib.hid (HR.out.trans (if_neg (by simp)))
  have hff : 0 ≤ f ∧ f < n := by simpa using hb
  clear hb
  obtain ⟨i, rfl⟩ := Int.eq_ofNat_of_zero_le hff.1
  have hi : i < n := by omega
  have hr := HR.out
  rw [Int.toNat_natCast] at hr
  have HR := Lib.hid hr
  clear hr
  clear hff HB
  have c3 := (sn_heads HW.out).2.2.2.1
  have r1 : W.cell? ⟨gr, i, none⟩ = some (.bool (s.rec_ i)) := HW.out.lay.cell1 2 rfl hi
  by_cases hb : s.rec_ i = true
  · have HR := Lib.hid (HR.out.trans (if_pos hb))
    rw [hb] at r1
    clear hb
    go_wp2
    refine wp_text_all (by kernel_rfl) (by kernel_rfl) (by kernel_rfl) (by repeat' (first | (with_reducible apply tame_then) | (with_reducible apply tame_block) | (with_reducible apply tame_scope) | exact tame_gives | exact tame_body (fun _ _ h => ⟨_, h.1⟩))) ?_
    go_wp2
    refine headed ?_
    go_wp2
    go_ret
    have e9 := HR.out
    subst e9
    exact ⟨rfl, F, HW.out.drew.drop5.drop5⟩
  · have HR := Lib.hid (HR.out.trans (if_neg hb))
    have hb : s.rec_ i = false := by simpa using hb
    rw [hb] at r1
    clear hb
    go_wp2
    refine wp_text_all (by kernel_rfl) (by kernel_rfl) (by kernel_rfl) (by repeat' (first | (with_reducible apply tame_then) | (with_reducible apply tame_block) | (with_reducible apply tame_scope) | exact tame_gives | exact tame_body (fun _ _ h => ⟨_, h.1⟩))) ?_
    go_wp2
    refine headed ?_
    go_wp2_with fail
    refine (record_any g gh gr gk gw bm bc n C D _ w0 i F s _ hn hi hq HW.out.drew).mono ?_
    rintro e w3 ⟨rfl, F3, h3⟩
    have H3 := Lib.hid h3; clear h3
    go_wp2
    go_ret
    have e9 := HR.out
    subst e9
    exact ⟨rfl, F3, H3.out.drop5.drop5⟩
set_option maxRecDepth 100000 in
set_option maxHeartbeats 1000000 in
theorem doN_send (F : FQ → Value) (s : SN) (w : World) (f t v : Int) (hn : n ≤ 6) (hq : ShortN 1000 s) (hB : BN n s) (h : LayN g gh gr gk gw bm bc n C D R w0 F s w) :
    Calls Try.prog 14 #[.pointer (some ⟨g, 0, none⟩), .agg #[.int .i64 1, .int .i64 f, .int .i64 t, .int .i64 v]] w fun e w' => e = .returned (.int .i64 (snStep n 1 f t v s).1) ∧ ∃ f', LayN g gh gr gk gw bm bc n C D R w0 f' (snStep n 1 f t v s).2 w' := by
  obtain ⟨r, hr⟩ : ∃ r, r = snStep n 1 f t v s := ⟨_, rfl⟩
  rw [← hr]
  rw [sn_send] at hr
  have HR := Lib.hid hr
  clear hr
  obtain ⟨b, hb⟩ : ∃ b, (decide (0 ≤ f) && decide (f < (n : Int))) = b := ⟨_, rfl⟩
  have hr := HR.out
  rw [hb] at hr
  have HR := Lib.hid hr
  clear hr
  have HB := Lib.hid hb
  have H := Lib.hid h; clear h
  have HK := Lib.hid ((((H.out.newB [.pointer (some ⟨g, 0, none⟩)] 49 1 rfl _ rfl).rot5).newB [.int .i64 1, .int .i64 f, .int .i64 t, .int .i64 v] 41 4 rfl _ rfl).rot5)
  have c0 := (sn_heads H.out).1
  go_enter Try.func14, Try.ntmps14
  go_wp2_with fail
  clear c0
  refine at_layQ (F := fun W' => Calls _ _ _ W' _) HK.out ?_
  intro W hW
  have HW : Hid (LayN g gh gr gk gw bm bc n C D (mvB (w.heap.size + 1) 1 f t v :: ptrR w.heap.size g :: R) w0 F s W) := Lib.hid (by rw [← size_push w (.cells #[.pointer (some ⟨g, 0, none⟩)] 49)]; exact hW)
  clear hW H HK
  generalize w.heap.size + 1 = qm at HW ⊢
  generalize w.heap.size = qn at HW ⊢
  have c0 := (sn_heads HW.out).1
  have hN : W.cell? ⟨qn, 0, none⟩ = some (.pointer (some ⟨g, 0, none⟩)) := HW.out.lay.cellB 6 rfl 0 (by omega)
  have m0 : W.cell? ⟨qm, 0, none⟩ = some (.int .i64 1) := HW.out.lay.cellB 5 rfl 0 (by omega)
  have m1 : W.cell? ⟨qm, 1, none⟩ = some (.int .i64 f) := HW.out.lay.cellB 5 rfl 1 (by omega)
  have m2 : W.cell? ⟨qm, 2, none⟩ = some (.int .i64 t) := HW.out.lay.cellB 5 rfl 2 (by omega)
  have m3 : W.cell? ⟨qm, 3, none⟩ = some (.int .i64 v) := HW.out.lay.cellB 5 rfl 3 (by omega)
  refine (clN_is _ f n qn g _ hN c0 HB.out).mono ?_
  rintro e w3 ⟨rfl, rfl⟩
  cases b
  · have HR := Lib.hid (HR.out.trans (if_pos (by simp)))
    go_wp2
    go_ret
    have e9 := HR.out
    subst e9
    exact ⟨rfl, F, HW.out.drop5.drop5⟩
  obtain ⟨c, hc⟩ : ∃ c, (decide (0 ≤ t) && decide (t < (n : Int))) = c := ⟨_, rfl⟩
  have hr := HR.out
  rw [hc] at hr
  have HR := Lib.hid hr
  clear hr
  have HC := Lib.hid hc
  have hff : 0 ≤ f ∧ f < n := by simpa using hb
  clear hb
  go_wp2_with fail
  refine (clN_is _ t n qn g _ hN c0 HC.out).mono ?_
  rintro e w3 ⟨rfl, rfl⟩
  cases c
  · have HR := Lib.hid (HR.out.trans (if_pos (by simp)))
    go_wp2
    go_ret
    have e9 := HR.out
    subst e9
    exact ⟨rfl, F, HW.out.drop5.drop5⟩
  have htt : 0 ≤ t ∧ t < n := by simpa using hc
  clear hc
  by_cases hft : f = t
  · subst hft
    have HR := Lib.hid (HR.out.trans (if_pos (by simp)))
    go_wp2
    go_ret
    have e9 := HR.out
    subst e9
    exact ⟨rfl, F, HW.out.drop5.drop5⟩
  have e1 : (f == t) = false := by simpa using hft
  have hr := HR.out
  rw [e1] at hr
  have HR := Lib.hid hr
  clear hr
  have HR := Lib.hid (HR.out.trans (if_neg (by simp)))
  obtain ⟨i, rfl⟩ := Int.eq_ofNat_of_zero_le hff.1
  obtain ⟨j, rfl⟩ := Int.eq_ofNat_of_zero_le htt.1
  have hi : i < n := by omega
  have hj : j < n := by omega
  have hij : i ≠ j := fun h => hft (by rw [h])
  have hr := HR.out
  rw [Int.toNat_natCast] at hr
  have HR := Lib.hid hr
  clear hr
  clear htt hff HB HC hft
  have c1 := (sn_heads HW.out).2.1
  have h1 : W.cell? ⟨gh, i, none⟩ = some (.int .i64 (s.have_ i)) := HW.out.lay.cell1 1 rfl hi
  have hbi := hB.hv i hi
  by_cases hv1 : v < 1
  · have HR := Lib.hid (HR.out.trans (if_pos (.inl hv1)))
    go_wp2
    refine wp_text_all (by kernel_rfl) (by kernel_rfl) (by kernel_rfl) (by repeat' (first | (with_reducible apply tame_then) | (with_reducible apply tame_block) | (with_reducible apply tame_scope) | exact tame_gives | exact tame_body (fun _ _ h => ⟨_, h.1⟩))) ?_
    go_wp2
    refine headed ?_
    go_wp2
    refine wp_text_all (by kernel_rfl) (by kernel_rfl) (by kernel_rfl) (by repeat' (first | (with_reducible apply tame_then) | (with_reducible apply tame_block) | (with_reducible apply tame_scope) | exact tame_gives | exact tame_body (fun _ _ h => ⟨_, h.1⟩))) ?_
    go_wp2
    refine headed ?_
    go_wp2
    go_ret
    have e9 := HR.out
    subst e9
    exact ⟨rfl, F, HW.out.drew.drew.drop5.drop5⟩
  by_cases hv2 : s.have_ i < v
  · have HR := Lib.hid (HR.out.trans (if_pos (.inr hv2)))
    go_wp2
    refine wp_text_all (by kernel_rfl) (by kernel_rfl) (by kernel_rfl) (by repeat' (first | (with_reducible apply tame_then) | (with_reducible apply tame_block) | (with_reducible apply tame_scope) | exact tame_gives | exact tame_body (fun _ _ h => ⟨_, h.1⟩))) ?_
    go_wp2
    refine headed ?_
    go_wp2
    refine wp_text_all (by kernel_rfl) (by kernel_rfl) (by kernel_rfl) (by repeat' (first | (with_reducible apply tame_then) | (with_reducible apply tame_block) | (with_reducible apply tame_scope) | exact tame_gives | exact tame_body (fun _ _ h => ⟨_, h.1⟩))) ?_
    go_wp2
    refine headed ?_
    go_wp2
    go_ret
    have e9 := HR.out
    subst e9
    exact ⟨rfl, F, HW.out.drew.drew.drop5.drop5⟩
  have HR := Lib.hid (HR.out.trans (if_neg (by omega)))
  have HK := Lib.hid ((((HW.out.newB [.int .i64 i, .int .i64 j] 47 2 rfl _ rfl).rot5).drew).drew)
  go_wp2
  refine wp_text_all (by kernel_rfl) (by kernel_rfl) (by kernel_rfl) (by repeat' (first | (with_reducible apply tame_then) | (with_reducible apply tame_block) | (with_reducible apply tame_scope) | exact tame_gives | exact tame_body (fun _ _ h => ⟨_, h.1⟩))) ?_
  go_wp2
  refine headed ?_
  go_wp2
  refine wp_text_all (by kernel_rfl) (by kernel_rfl) (by kernel_rfl) (by repeat' (first | (with_reducible apply tame_then) | (with_reducible apply tame_block) | (with_reducible apply tame_scope) | exact tame_gives | exact tame_body (fun _ _ h => ⟨_, h.1⟩))) ?_
  go_wp2
  refine headed ?_
  go_wp2
  refine at_layQ (F := fun W' => Code.wp _ _ _ _ W') HK.out ?_
  intro W1 hW
  have HW1 : Hid (LayN g gh gr gk gw bm bc n C D (keyR W.heap.size i j :: mvB qm 1 (i : Nat) (j : Nat) v :: ptrR qn g :: R) w0 F s W1) := Lib.hid hW
  clear hW HK HW c0 c1 hN m0 m1 m2 m3 h1
  generalize W.heap.size = qk at HW1 ⊢
  obtain ⟨c0, c1, c2, c3, c4, c7, c8⟩ := sn_heads HW1.out
  have hN : W1.cell? ⟨qn, 0, none⟩ = some (.pointer (some ⟨g, 0, none⟩)) := HW1.out.lay.cellB 7 rfl 0 (by omega)
  have m1 : W1.cell? ⟨qm, 1, none⟩ = some (.int .i64 (i : Nat)) := HW1.out.lay.cellB 6 rfl 1 (by omega)
  have m3 : W1.cell? ⟨qm, 3, none⟩ = some (.int .i64 v) := HW1.out.lay.cellB 6 rfl 3 (by omega)
  have h1 : W1.cell? ⟨gh, i, none⟩ = some (.int .i64 (s.have_ i)) := HW1.out.lay.cell1 1 rfl hi
  have f1 := HW1.out.lay.frz 1 rfl (by omega) i
  have H2 := Lib.hid (sn_setH (s.have_ i - v) (sn_sim HW1.out (w' := W1.drew) ⟨rfl, rfl, rfl, rfl⟩) hi)
  refine wp_text 12 (by kernel_rfl) (by kernel_rfl) (by kernel_rfl) (by repeat' (first | (with_reducible apply tame_then) | (with_reducible apply tame_block) | (with_reducible apply tame_scope) | exact tame_gives | exact tame_body (fun _ _ h => ⟨_, h.1⟩))) ?_
  simp only [List.take_succ_cons, List.take_zero, List.drop_succ_cons, List.drop_zero]
  go_wp2
  refine headed ?_
  go_wp2_with fail
  refine at_layQ (F := fun W' => Code.wp _ _ _ _ W') (sn_sim H2.out (w' := (W1.setCell ⟨gh, i, none⟩ (.int .i64 (s.have_ i - v))).drew) ⟨rfl, rfl, rfl, rfl⟩) ?_
  intro W2 hW
  have HW2 : Hid (LayN g gh gr gk gw bm bc n C D (keyR qk i j :: mvB qm 1 (i : Nat) (j : Nat) v :: ptrR qn g :: R) w0 F { s with have_ := upd s.have_ i (s.have_ i - v) } W2) := Lib.hid hW
  clear hW H2 HW1 c0 c1 c2 c3 c4 c7 c8 hN m1 m3 h1 f1
  obtain ⟨iI, hiI, hzI0, hzI1, hzI2⟩ := info_parts infoIntN
  have hlb : bm < W2.heap.size := by obtain ⟨es, c, h2, _⟩ := HW2.out.mp 0 rfl; exact (Array.getElem?_eq_some_iff.1 h2).1
  have hS : ∀ (W' : World) (Q' : List MRow) (f' : FQ → Value) (q' : FQ → List Value), LayQ w0 W' (rowsN g gh gr gk gw bm bc n C D F { s with have_ := upd s.have_ i (s.have_ i - v) } (keyR qk i j :: mvB qm 1 (i : Nat) (j : Nat) v :: ptrR qn g :: R)) Q' tyI f' q' → SendS g bm qn qm qk i j v W' :=
    fun W' Q' f' q' h => ⟨h.lay.cellB 7 rfl 0 (by omega), h.lay.cellB 0 rfl 2 (by omega), h.lay.cellB 5 rfl 0 (by omega), h.lay.cellB 5 rfl 1 (by omega), h.lay.cellB 6 rfl 3 (by omega)⟩
  have HS := Lib.hid hS
  clear hS
  have HS0 := Lib.hid (HS.out _ _ _ _ HW2.out.drew)
  obtain ⟨A, cap, hf, hcl, hcm⟩ := HW2.out.len (.inl (i, j))
  have hlen : (qsN n { s with have_ := upd s.have_ i (s.have_ i - v) } (.inl (i, j))).length = (s.way (i, j)).length := vI_len _
  rw [hlen] at hf hcl
  have hsh := hq (i, j)
  have HF := Lib.hid hf
  have HA := Lib.hid ((HW2.out.drew.alloc (.cells #[.int .i64 v] 3)))
  obtain ⟨st, es1, cc1, hme, hLx, -, -, hst⟩ := wq_entry Try.underlying50 zeroSl 0 (i, j) HA.out rfl hn ⟨hi, hj⟩
  simp only [hf] at hme
  have HX := Lib.hid hLx
  have HST := Lib.hid hst
  have HO : Hid (QSl (ChangeMaps.setBlock (W2.drew.alloc (.cells #[.int .i64 v] 3)) bm (.map es1 cc1)) w0.heap.size 3 (.slice A (s.way (i, j)).length cap) (vI (s.way (i, j)))) := Lib.hid (by
    have := HX.out.own (.inl (i, j))
    rw [HF.out] at this
    exact this)
  have HC : Hid ((ChangeMaps.setBlock (W2.drew.alloc (.cells #[.int .i64 v] 3)) bm (.map es1 cc1)).cell? ⟨W2.drew.heap.size, 0, none⟩ = some (.int .i64 v)) := Lib.hid ((cell_setBlock (by show W2.heap.size ≠ bm; omega)).trans (cell_one W2.drew _ _))
  clear hf hlen hcl hcm hLx hst
  refine wp_mix (SendS g bm qn qm qk i j v) [0, 0, 0, 0, 0, 0, 0, 1, 1, 2, 3, 2, 3] ?A1 (by kernel_rfl) (by decide) (by kernel_rfl) (by repeat' (first | (with_reducible apply tame_then) | (with_reducible apply tame_block) | (with_reducible apply tame_scope) | exact tame_gives | exact tame_body (fun _ _ h => ⟨_, h.1⟩))) HS0.out ?head ?tail
  case head =>
    intro W5 ⟨s0, s1, s2, s3, s4⟩
    simp only [List.map_cons, List.map_nil, Nat.reduceBEq, pick]
    go_wp2
    exact taken
  case tail =>
    simp only [List.map_cons, List.map_nil, Nat.reduceBEq, pick]
    refine chain_step ?_
    go_wp2
    refine holds (HS.out _ _ _ _ HA.out) ?_
    refine chain_step ?_
    refine wpList_mapEntry rfl (.tmp 109) (.tmp 110) _ rfl rfl rfl hme ?_
    refine holds (HS.out _ _ _ _ HX.out) ?_
    refine chain_end ⟨?A2, by kernel_rfl, ?head2, ?tail2⟩
    case head2 =>
      intro W6 h6
      clear h6
      go_wp2
      exact taken
    case tail2 =>
      refine chain_step ?_
      refine wpList_apQ rfl (.tmp 111) (.tmp 114) _ rfl 3 iI _ 8 Try.underlying34 hiI hzI0 hzI1 hzI2 rfl w0.heap.size rfl HO.out rfl HC.out rfl ((s.way (i, j)).length + 1) (by rw [vI_len]) (by rw [vI_len]; unfold maxLen; omega) (by rw [vI_len]; omega) HX.out.size ?_
      intro A2 cap2 w4 hq4 hg4 hb4
      have H4 := Lib.hid (HX.out.push (.inl (i, j)) hq4 (by rw [HF.out, own_ab]; exact hg4) (by rw [HF.out, own_ab, own_ab]; exact hb4))
      rw [vI_app] at H4
      clear hq4 hg4 hb4 HO HA HX HC
      obtain ⟨es', c', hse, hL7⟩ := HST.out _ _ _ _ _ (.slice A2 ((s.way (i, j)).length + 1) cap2) H4.out rfl
      have HS7 := Lib.hid (HS.out _ _ _ _ hL7)
      have HL7 := Lib.hid (sn_fin (i, j) hL7)
      have HS4 := Lib.hid (HS.out _ _ _ _ H4.out)
      clear hL7 HST H4
      refine holds HS4.out ?_
      refine chain_step ?_
      refine wpList_entryStore rfl (.tmp 109) (.tmp 117) (.tmp 116) _ rfl rfl rfl rfl hse fun u => ?_
      refine holds HS7.out ?_
      refine chain_end ?_
      go_wp2
      go_ret
      have e9 := HR.out
      subst e9
      exact ⟨rfl, _, HL7.out.drop5.drop5.drop5⟩
theorem doN_any (F : FQ → Value) (s : SN) (w : World) (k f t v : Int) (hn : n ≤ 6) (hq : ShortN 1000 s) (hB : BN n s) (h : LayN g gh gr gk gw bm bc n C D R w0 F s w) :
    Calls Try.prog 14 #[.pointer (some ⟨g, 0, none⟩), .agg #[.int .i64 k, .int .i64 f, .int .i64 t, .int .i64 v]] w fun e w' => e = .returned (.int .i64 (snStep n k f t v s).1) ∧ ∃ f', LayN g gh gr gk gw bm bc n C D R w0 f' (snStep n k f t v s).2 w' := by
  by_cases hk : k < 1 ∨ 3 < k
  · rw [show snStep n k f t v s = (6, s) by unfold snStep; rw [if_pos hk]]
    exact doN_kind g gh gr gk gw bm bc n C D R w0 F s w k f t v hk h
  · rcases (show k = 1 ∨ k = 2 ∨ k = 3 by omega) with rfl | rfl | rfl
    · exact doN_send g gh gr gk gw bm bc n C D R w0 F s w f t v hn hq hB h
    · exact doN_take g gh gr gk gw bm bc n C D R w0 F s w f t v hn hq hB h
    · exact doN_mark g gh gr gk gw bm bc n C D R w0 F s w f t v hn hq h
end
end Go.Proofs.Ytfcgjmekeonemaa
