/- The walk of quiet's 'do'. -/
import Derived.Test.YtfcgjmekeonemaaQu2
set_option linter.unusedVariables false
set_option linter.unusedSimpArgs false
namespace Go.Proofs.Ytfcgjmekeonemaa
open Go.RowKit Go.Maps Go.MapKept

theorem cl_is (b : Bool) (i : Int) (n q g : Nat) (w : World) (hN : w.cell? ⟨q, 0, none⟩ = some (.pointer (some ⟨g, 0, none⟩))) (h : w.cell? ⟨g, 0, none⟩ = some (.int .i64 n)) (hb : (decide (0 ≤ i) && decide (i < (n : Int))) = b) :
    Calls Try.prog 15 #[.int .i64 i, .pointer (some ⟨q, 0, none⟩)] w fun e w' => e = .returned (.bool (!b)) ∧ w = w' := by
  subst hb
  by_cases h0 : i < 0
  · go_enter Try.func15, Try.ntmps15
    go_wp2
    go_ret
    exact ⟨ret_bool (by simp [show ¬ 0 ≤ i by omega]), rfl⟩
  · have h0' : 0 ≤ i := by omega
    clear h0
    go_enter Try.func15, Try.ntmps15
    go_wp2
    go_ret
    exact ⟨ret_bool (by rw [Bool.eq_iff_iff]; simp; first | done | omega), rfl⟩
theorem qu_send (n : Nat) (f t : Int) (s : QS) : quStep n 1 f t s = if !(decide (0 ≤ f) && decide (f < n)) || (!(decide (0 ≤ t) && decide (t < n)) || f == t) then (2, s) else if s.works.testBit f.toNat = false then (7, s) else (0, sendS f.toNat t.toNat s) := by simp [quStep, quBad]
theorem qu_take (n : Nat) (f t : Int) (s : QS) : quStep n 2 f t s = if !(decide (0 ≤ f) && decide (f < n)) || (!(decide (0 ≤ t) && decide (t < n)) || f == t) then (2, s) else takeS n f.toNat t.toNat s := by simp [quStep, quBad]
theorem qu_rest (n : Nat) (f t : Int) (s : QS) : quStep n 3 f t s = if !(decide (0 ≤ f) && decide (f < n)) then (2, s) else if s.works.testBit f.toNat = false then (7, s) else (0, looseS n f.toNat { s with works := clrB s.works f.toNat }) := by simp [quStep, quBad]
/-- What the loads of 's.way[[2]int{m.From, m.To}]++' read. -/
def SendS (g bm qn qm n : Nat) (p : Nat × Nat) (v : Int) (w : World) : Prop :=
  w.cell? ⟨qn, 0, none⟩ = some (.pointer (some ⟨g, 0, none⟩)) ∧ w.cell? ⟨g, 4, none⟩ = some (.map (some bm)) ∧ w.cell? ⟨qm, 1, none⟩ = some (.int .i64 (p.1 : Nat)) ∧ w.cell? ⟨qm, 2, none⟩ = some (.int .i64 (p.2 : Nat)) ∧ (Instr.lookup 43 (.map (some bm)) (keyQ p) false).run Try.prog w = .ok (.int .i64 v) w
section
variable (g go gb n cap bm m : Nat) (s : QS) (R : List LRow) (w0 w : World)
theorem do_kind (k f t v : Int) (hk : k < 1 ∨ 3 < k) (h : LayM w0 w (rowsQ g go gb n cap bm s R) (mapQ n m bm s)) :
    Calls Try.prog 12 #[.pointer (some ⟨g, 0, none⟩), .agg #[.int .i64 k, .int .i64 f, .int .i64 t, .int .i64 v]] w fun e w' => e = .returned (.int .i64 6) ∧ LayM w0 w' (rowsQ g go gb n cap bm s R) (mapQ n m bm s) := by
  have H := Lib.hid h; clear h
  rcases hk with hk | hk
  · go_enter Try.func12, Try.ntmps12
    go_wp2
    go_ret
    exact ⟨rfl, (H.out.alloc _).alloc _⟩
  · have hk2 : ¬ k < 1 := by omega
    go_enter Try.func12, Try.ntmps12
    go_wp2
    go_ret
    exact ⟨rfl, (H.out.alloc _).alloc _⟩
set_option maxRecDepth 100000 in
set_option maxHeartbeats 1000000 in
theorem do_take (f t v : Int) (hn : n ≤ 6) (hq : QJ n none s) (ho : ∀ j, j < n → s.owed j ≤ 100) (hw : ∀ p, s.way p ≤ 100) (hm : m ≤ 99) (h : LayM w0 w (rowsQ g go gb n cap bm s R) (mapQ n m bm s)) :
    Calls Try.prog 12 #[.pointer (some ⟨g, 0, none⟩), .agg #[.int .i64 2, .int .i64 f, .int .i64 t, .int .i64 v]] w fun e w' => e = .returned (.int .i64 (quStep n 2 f t s).1) ∧ LayM w0 w' (rowsQ g go gb n cap bm (quStep n 2 f t s).2 R) (mapQ n (m + 1) bm (quStep n 2 f t s).2) := by
  obtain ⟨r, hr⟩ : ∃ r, r = quStep n 2 f t s := ⟨_, rfl⟩
  rw [← hr]
  rw [qu_take] at hr
  have HR := Lib.hid hr
  clear hr
  obtain ⟨b, hb⟩ : ∃ b, (decide (0 ≤ f) && decide (f < (n : Int))) = b := ⟨_, rfl⟩
  have hr := HR.out
  rw [hb] at hr
  have HR := Lib.hid hr
  clear hr
  have HB := Lib.hid hb
  have H := Lib.hid h; clear h
  have c0 := (qu_heads H.out).1
  have hl := (H.out.lay.at_ 0 rfl).2
  have hlm : bm < w.heap.size := by obtain ⟨es, c, h2, _⟩ := H.out.mp 0 rfl; exact (Array.getElem?_eq_some_iff.1 h2).1
  go_enter Try.func12, Try.ntmps12
  go_wp2_with fail
  clear c0
  refine at_world (F := fun W' => Calls _ _ _ W' _) (fun W => LayM w0 W (rowsQ g go gb n cap bm s R) (mapQ n m bm s) ∧ W.cell? ⟨w.heap.size, 0, none⟩ = some (.pointer (some ⟨g, 0, none⟩)) ∧ W.cell? ⟨w.heap.size + 1, 0, none⟩ = some (.int .i64 2) ∧ W.cell? ⟨w.heap.size + 1, 1, none⟩ = some (.int .i64 f) ∧ W.cell? ⟨w.heap.size + 1, 2, none⟩ = some (.int .i64 t) ∧ W.cell? ⟨w.heap.size + 1, 3, none⟩ = some (.int .i64 v))
    ⟨(H.out.alloc _).alloc _, by rw [World.cell?_alloc_lt _ _ _ (by simp), World.cell?_alloc_at _ _ _ _ rfl]; rfl, by rw [World.cell?_alloc_at _ _ _ _ (by simp)]; rfl, by rw [World.cell?_alloc_at _ _ _ _ (by simp)]; rfl, by rw [World.cell?_alloc_at _ _ _ _ (by simp)]; rfl, by rw [World.cell?_alloc_at _ _ _ _ (by simp)]; rfl⟩ ?_
  intro W ⟨hW, hN, m0, m1, m2, m3⟩
  have hqn : w.heap.size ≠ bm := by omega
  have hqm : w.heap.size + 1 ≠ bm := by omega
  have hgn : g ≠ w.heap.size := by omega
  have hgm : g ≠ w.heap.size + 1 := by omega
  generalize w.heap.size + 1 = qm at m0 m1 m2 m3 hqm hgm ⊢
  generalize w.heap.size = qn at hN hqn hgn ⊢
  have HW := Lib.hid hW
  clear hW H hl hlm
  have c0 := (qu_heads HW.out).1
  refine (cl_is _ f n qn g _ hN c0 HB.out).mono ?_
  rintro e w3 ⟨rfl, rfl⟩
  cases b
  · have HR := Lib.hid (HR.out.trans (if_pos (by simp)))
    go_wp2
    go_ret
    have e9 := HR.out
    subst e9
    exact ⟨rfl, HW.out.loosen fun _ _ h => EMap.more h (by omega)⟩
  obtain ⟨c, hc⟩ : ∃ c, (decide (0 ≤ t) && decide (t < (n : Int))) = c := ⟨_, rfl⟩
  have hr := HR.out
  rw [hc] at hr
  have HR := Lib.hid hr
  clear hr
  have HC := Lib.hid hc
  have hff : 0 ≤ f ∧ f < n := by simpa using hb
  clear hb
  go_wp2_with fail
  refine (cl_is _ t n qn g _ hN c0 HC.out).mono ?_
  rintro e w3 ⟨rfl, rfl⟩
  cases c
  · have HR := Lib.hid (HR.out.trans (if_pos (by simp)))
    go_wp2
    go_ret
    have e9 := HR.out
    subst e9
    exact ⟨rfl, HW.out.loosen fun _ _ h => EMap.more h (by omega)⟩
  have htt : 0 ≤ t ∧ t < n := by simpa using hc
  clear hc
  by_cases hft : f = t
  · subst hft
    have HR := Lib.hid (HR.out.trans (if_pos (by simp)))
    go_wp2
    go_ret
    have e9 := HR.out
    subst e9
    exact ⟨rfl, HW.out.loosen fun _ _ h => EMap.more h (by omega)⟩
  have e1 : (f == t) = false := by simpa using hft
  have hr := HR.out
  rw [e1] at hr
  have HR := Lib.hid hr
  clear hr
  have HR := Lib.hid (HR.out.trans (if_neg (by simp)))
  obtain ⟨i, rfl⟩ := Int.eq_ofNat_of_zero_le hff.1
  obtain ⟨j, rfl⟩ := Int.eq_ofNat_of_zero_le htt.1
  have hi : i < n := by omega
  have hj : j < n := by omega
  have hij : i ≠ j := fun h => hft (by rw [h])
  have hr := HR.out
  rw [Int.toNat_natCast, Int.toNat_natCast] at hr
  have HR := Lib.hid hr
  clear hr
  clear htt hff HB HC hft
  go_wp2_with fail
  refine (take_any g go gb n cap bm m R w0 i j s _ hn hi hj hij hq ho hw hm HW.out).mono ?_
  rintro e w3 ⟨rfl, h3⟩
  have H3 := Lib.hid h3; clear h3
  go_wp2
  go_ret
  have e9 := HR.out
  subst e9
  exact ⟨rfl, H3.out⟩
set_option maxRecDepth 100000 in
set_option maxHeartbeats 1000000 in
theorem do_rest (f t v : Int) (hn : n ≤ 6) (hq : QJ n none s) (ho : ∀ j, j < n → s.owed j ≤ 100) (hm : m ≤ 99) (h : LayM w0 w (rowsQ g go gb n cap bm s R) (mapQ n m bm s)) :
    Calls Try.prog 12 #[.pointer (some ⟨g, 0, none⟩), .agg #[.int .i64 3, .int .i64 f, .int .i64 t, .int .i64 v]] w fun e w' => e = .returned (.int .i64 (quStep n 3 f t s).1) ∧ LayM w0 w' (rowsQ g go gb n cap bm (quStep n 3 f t s).2 R) (mapQ n (m + 1) bm (quStep n 3 f t s).2) := by
  obtain ⟨r, hr⟩ : ∃ r, r = quStep n 3 f t s := ⟨_, rfl⟩
  rw [← hr]
  rw [qu_rest] at hr
  have HR := Lib.hid hr
  clear hr
  obtain ⟨b, hb⟩ : ∃ b, (decide (0 ≤ f) && decide (f < (n : Int))) = b := ⟨_, rfl⟩
  have hr := HR.out
  rw [hb] at hr
  have HR := Lib.hid hr
  clear hr
  have HB := Lib.hid hb
  have H := Lib.hid h; clear h
  have c0 := (qu_heads H.out).1
  have hl := (H.out.lay.at_ 0 rfl).2
  have hlm : bm < w.heap.size := by obtain ⟨es, c, h2, _⟩ := H.out.mp 0 rfl; exact (Array.getElem?_eq_some_iff.1 h2).1
  go_enter Try.func12, Try.ntmps12
  go_wp2_with fail
  clear c0
  refine at_world (F := fun W' => Calls _ _ _ W' _) (fun W => LayM w0 W (rowsQ g go gb n cap bm s R) (mapQ n m bm s) ∧ W.cell? ⟨w.heap.size, 0, none⟩ = some (.pointer (some ⟨g, 0, none⟩)) ∧ W.cell? ⟨w.heap.size + 1, 0, none⟩ = some (.int .i64 3) ∧ W.cell? ⟨w.heap.size + 1, 1, none⟩ = some (.int .i64 f) ∧ W.cell? ⟨w.heap.size + 1, 2, none⟩ = some (.int .i64 t) ∧ W.cell? ⟨w.heap.size + 1, 3, none⟩ = some (.int .i64 v))
    ⟨(H.out.alloc _).alloc _, by rw [World.cell?_alloc_lt _ _ _ (by simp), World.cell?_alloc_at _ _ _ _ rfl]; rfl, by rw [World.cell?_alloc_at _ _ _ _ (by simp)]; rfl, by rw [World.cell?_alloc_at _ _ _ _ (by simp)]; rfl, by rw [World.cell?_alloc_at _ _ _ _ (by simp)]; rfl, by rw [World.cell?_alloc_at _ _ _ _ (by simp)]; rfl⟩ ?_
  intro W ⟨hW, hN, m0, m1, m2, m3⟩
  have hqn : w.heap.size ≠ bm := by omega
  have hqm : w.heap.size + 1 ≠ bm := by omega
  have hgn : g ≠ w.heap.size := by omega
  have hgm : g ≠ w.heap.size + 1 := by omega
  generalize w.heap.size + 1 = qm at m0 m1 m2 m3 hqm hgm ⊢
  generalize w.heap.size = qn at hN hqn hgn ⊢
  have HW := Lib.hid hW
  clear hW H hl hlm
  have c0 := (qu_heads HW.out).1
  refine (cl_is _ f n qn g _ hN c0 HB.out).mono ?_
  rintro e w3 ⟨rfl, rfl⟩
  cases b
  · have HR := Lib.hid (HR.out.trans (if_pos (by simp)))
    go_wp2
    go_ret
    have e9 := HR.out
    subst e9
    exact ⟨rfl, HW.out.loosen fun _ _ h => EMap.more h (by omega)⟩
  have HR := Lib.hid (HR.out.trans (if_neg (by simp)))
  have hff : 0 ≤ f ∧ f < n := by simpa using hb
  clear hb
  obtain ⟨i, rfl⟩ := Int.eq_ofNat_of_zero_le hff.1
  have hi : i < n := by omega
  have hr := HR.out
  rw [Int.toNat_natCast] at hr
  have HR := Lib.hid hr
  clear hr
  clear hff HB
  have hwl : s.works < 4294967296 := by have := hq.works; have := pow64 hn; omega
  have hbn := bit_num (i := i) hwl
  have c1 := (qu_heads HW.out).2.1
  by_cases hb : s.works.testBit i = false
  · have HR := Lib.hid (HR.out.trans (if_pos hb))
    rw [hb] at hbn
    simp only [Bool.false_eq_true, if_false] at hbn
    clear hb
    go_wp2
    refine wp_text_all (by kernel_rfl) (by kernel_rfl) (by kernel_rfl) (by repeat' (first | (with_reducible apply tame_then) | (with_reducible apply tame_block) | (with_reducible apply tame_scope) | exact tame_gives | exact tame_body (fun _ _ h => ⟨_, h.1⟩))) ?_
    go_wp2
    refine headed ?_
    go_wp2
    go_ret
    have e9 := HR.out
    subst e9
    exact ⟨rfl, HW.out.drew.loosen fun _ _ h => EMap.more h (by omega)⟩
  · have HR := Lib.hid (HR.out.trans (if_neg hb))
    have hb : s.works.testBit i = true := by simpa using hb
    rw [hb] at hbn
    simp only [if_true] at hbn
    clear hb
    have HO : Hid (bits .andNot .u32 (s.works : Int) (2 ^ i % 4294967296) = ((clrB s.works i : Nat) : Int)) := Lib.hid (by rw [pow_mod (by omega), u32_andNot_nat _ _ hwl (pow_lt32 (by omega))]; rfl)
    have HS := Lib.hid (qu_setW (clrB s.works i) HW.out.drew.drew)
    have f1 := HW.out.lay.frz 0 rfl (by omega) 1
    have HQ := Lib.hid (hq.restQ hn hi)
    go_wp2
    refine wp_text_all (by kernel_rfl) (by kernel_rfl) (by kernel_rfl) (by repeat' (first | (with_reducible apply tame_then) | (with_reducible apply tame_block) | (with_reducible apply tame_scope) | exact tame_gives | exact tame_body (fun _ _ h => ⟨_, h.1⟩))) ?_
    go_wp2
    refine headed ?_
    go_wp2
    refine wp_text 10 (by kernel_rfl) (by kernel_rfl) (by kernel_rfl) (by repeat' (first | (with_reducible apply tame_then) | (with_reducible apply tame_block) | (with_reducible apply tame_scope) | exact tame_gives | exact tame_body (fun _ _ h => ⟨_, h.1⟩))) ?_
    simp only [List.take_succ_cons, List.take_zero, List.drop_succ_cons, List.drop_zero]
    go_wp2
    refine headed ?_
    go_wp2_with fail
    rw [HO.out]
    refine (loose_any g go gb n cap bm R _ w0 i _ _ hn hi HQ.out ho HS.out).mono ?_
    rintro e w3 ⟨rfl, h3⟩
    have H3 := Lib.hid h3; clear h3
    go_wp2
    go_ret
    have e9 := HR.out
    subst e9
    exact ⟨rfl, H3.out.loosen fun _ _ h => wayφ_way (EMap.more h (by omega)) (looseS_way _ _ _)⟩
set_option maxRecDepth 100000 in
set_option maxHeartbeats 1000000 in
theorem do_send (f t v : Int) (hn : n ≤ 6) (hq : QJ n none s) (ho : ∀ j, j < n → s.owed j ≤ 100) (hw : ∀ p, s.way p ≤ 100) (hm : m ≤ 99) (h : LayM w0 w (rowsQ g go gb n cap bm s R) (mapQ n m bm s)) :
    Calls Try.prog 12 #[.pointer (some ⟨g, 0, none⟩), .agg #[.int .i64 1, .int .i64 f, .int .i64 t, .int .i64 v]] w fun e w' => e = .returned (.int .i64 (quStep n 1 f t s).1) ∧ LayM w0 w' (rowsQ g go gb n cap bm (quStep n 1 f t s).2 R) (mapQ n (m + 1) bm (quStep n 1 f t s).2) := by
  obtain ⟨r, hr⟩ : ∃ r, r = quStep n 1 f t s := ⟨_, rfl⟩
  rw [← hr]
  rw [qu_send] at hr
  have HR := Lib.hid hr
  clear hr
  obtain ⟨b, hb⟩ : ∃ b, (decide (0 ≤ f) && decide (f < (n : Int))) = b := ⟨_, rfl⟩
  have hr := HR.out
  rw [hb] at hr
  have HR := Lib.hid hr
  clear hr
  have HB := Lib.hid hb
  have H := Lib.hid h; clear h
  have c0 := (qu_heads H.out).1
  have hl := (H.out.lay.at_ 0 rfl).2
  have hlm : bm < w.heap.size := by obtain ⟨es, c, h2, _⟩ := H.out.mp 0 rfl; exact (Array.getElem?_eq_some_iff.1 h2).1
  go_enter Try.func12, Try.ntmps12
  go_wp2_with fail
  clear c0
  refine at_world (F := fun W' => Calls _ _ _ W' _) (fun W => LayM w0 W (rowsQ g go gb n cap bm s R) (mapQ n m bm s) ∧ W.cell? ⟨w.heap.size, 0, none⟩ = some (.pointer (some ⟨g, 0, none⟩)) ∧ W.cell? ⟨w.heap.size + 1, 0, none⟩ = some (.int .i64 1) ∧ W.cell? ⟨w.heap.size + 1, 1, none⟩ = some (.int .i64 f) ∧ W.cell? ⟨w.heap.size + 1, 2, none⟩ = some (.int .i64 t) ∧ W.cell? ⟨w.heap.size + 1, 3, none⟩ = some (.int .i64 v))
    ⟨(H.out.alloc _).alloc _, by rw [World.cell?_alloc_lt _ _ _ (by simp), World.cell?_alloc_at _ _ _ _ rfl]; rfl, by rw [World.cell?_alloc_at _ _ _ _ (by simp)]; rfl, by rw [World.cell?_alloc_at _ _ _ _ (by simp)]; rfl, by rw [World.cell?_alloc_at _ _ _ _ (by simp)]; rfl, by rw [World.cell?_alloc_at _ _ _ _ (by simp)]; rfl⟩ ?_
  intro W ⟨hW, hN, m0, m1, m2, m3⟩
  have hqn : w.heap.size ≠ bm := by omega
  have hqm : w.heap.size + 1 ≠ bm := by omega
  have hgn : g ≠ w.heap.size := by omega
  have hgm : g ≠ w.heap.size + 1 := by omega
  generalize w.heap.size + 1 = qm at m0 m1 m2 m3 hqm hgm ⊢
  generalize w.heap.size = qn at hN hqn hgn ⊢
  have HW := Lib.hid hW
  clear hW H hl hlm
  have c0 := (qu_heads HW.out).1
  refine (cl_is _ f n qn g _ hN c0 HB.out).mono ?_
  rintro e w3 ⟨rfl, rfl⟩
  cases b
  · have HR := Lib.hid (HR.out.trans (if_pos (by simp)))
    go_wp2
    go_ret
    have e9 := HR.out
    subst e9
    exact ⟨rfl, HW.out.loosen fun _ _ h => EMap.more h (by omega)⟩
  obtain ⟨c, hc⟩ : ∃ c, (decide (0 ≤ t) && decide (t < (n : Int))) = c := ⟨_, rfl⟩
  have hr := HR.out
  rw [hc] at hr
  have HR := Lib.hid hr
  clear hr
  have HC := Lib.hid hc
  have hff : 0 ≤ f ∧ f < n := by simpa using hb
  clear hb
  go_wp2_with fail
  refine (cl_is _ t n qn g _ hN c0 HC.out).mono ?_
  rintro e w3 ⟨rfl, rfl⟩
  cases c
  · have HR := Lib.hid (HR.out.trans (if_pos (by simp)))
    go_wp2
    go_ret
    have e9 := HR.out
    subst e9
    exact ⟨rfl, HW.out.loosen fun _ _ h => EMap.more h (by omega)⟩
  have htt : 0 ≤ t ∧ t < n := by simpa using hc
  clear hc
  by_cases hft : f = t
  · subst hft
    have HR := Lib.hid (HR.out.trans (if_pos (by simp)))
    go_wp2
    go_ret
    have e9 := HR.out
    subst e9
    exact ⟨rfl, HW.out.loosen fun _ _ h => EMap.more h (by omega)⟩
  have e1 : (f == t) = false := by simpa using hft
  have hr := HR.out
  rw [e1] at hr
  have HR := Lib.hid hr
  clear hr
  have HR := Lib.hid (HR.out.trans (if_neg (by simp)))
  obtain ⟨i, rfl⟩ := Int.eq_ofNat_of_zero_le hff.1
  obtain ⟨j, rfl⟩ := Int.eq_ofNat_of_zero_le htt.1
  have hi : i < n := by omega
  have hj : j < n := by omega
  have hij : i ≠ j := fun h => hft (by rw [h])
  have hr := HR.out
  rw [Int.toNat_natCast, Int.toNat_natCast] at hr
  have HR := Lib.hid hr
  clear hr
  clear htt hff HB HC hft
  have hwl : s.works < 4294967296 := by have := hq.works; have := pow64 hn; omega
  have hbn := bit_num (i := i) hwl
  have c1 := (qu_heads HW.out).2.1
  by_cases hb : s.works.testBit i = false
  · have HR := Lib.hid (HR.out.trans (if_pos hb))
    rw [hb] at hbn
    simp only [Bool.false_eq_true, if_false] at hbn
    clear hb
    go_wp2
    refine wp_text_all (by kernel_rfl) (by kernel_rfl) (by kernel_rfl) (by repeat' (first | (with_reducible apply tame_then) | (with_reducible apply tame_block) | (with_reducible apply tame_scope) | exact tame_gives | exact tame_body (fun _ _ h => ⟨_, h.1⟩))) ?_
    go_wp2
    refine headed ?_
    go_wp2
    go_ret
    have e9 := HR.out
    subst e9
    exact ⟨rfl, HW.out.drew.loosen fun _ _ h => EMap.more h (by omega)⟩
  have HR := Lib.hid (HR.out.trans (if_neg hb))
  have hb : s.works.testBit i = true := by simpa using hb
  rw [hb] at hbn
  simp only [if_true] at hbn
  clear hb
  have c4 := (qu_heads HW.out).2.2.2.2
  have hw1 := hq.way (i, j)
  have hw2 := hw (i, j)
  go_wp2
  refine wp_text_all (by kernel_rfl) (by kernel_rfl) (by kernel_rfl) (by repeat' (first | (with_reducible apply tame_then) | (with_reducible apply tame_block) | (with_reducible apply tame_scope) | exact tame_gives | exact tame_body (fun _ _ h => ⟨_, h.1⟩))) ?_
  go_wp2
  refine headed ?_
  go_wp2
  refine wp_held_mask (SendS g bm qn qm n (i, j) (s.way (i, j))) [true, true, true, true, true, true, true, true, true, true, true, false, false, false] ?A1 (by kernel_rfl) rfl (by kernel_rfl) (by repeat' (first | (with_reducible apply tame_then) | (with_reducible apply tame_block) | (with_reducible apply tame_scope) | exact tame_gives | exact tame_body (fun _ _ h => ⟨_, h.1⟩))) ⟨hN, c4, m1, m2, qu_look (i, j) HW.out.drew.drew hn ⟨hi, hj⟩⟩ ?head ?tail
  case head =>
    intro W5 ⟨s0, s1, s2, s3, s4⟩
    have s5 : (Instr.lookup 43 (.map (some bm)) (.agg #[.int .i64 (i : Nat), .int .i64 (j : Nat)]) false).run Try.prog W5 = .ok (.int .i64 (s.way (i, j))) W5 := s4
    clear s4
    simp only [pick]
    go_wp2
    exact taken
  case tail =>
    simp only [pick, List.map_cons, List.map_nil, Bool.not_true, Bool.not_false]
    obtain ⟨st, es1, cc, hme, hL1, hst⟩ := qu_entry (i, j) HW.out.drew.drew hn (by omega) ⟨hi, hj⟩
    obtain ⟨es', c', hse, hL2⟩ := hst (s.way (i, j) + 1)
    have hS : SendS g bm qn qm n (i, j) (s.way (i, j)) (ChangeMaps.setBlock W.drew.drew bm (.map es1 cc)) := ⟨(cell_setBlock hqn).trans hN, (qu_heads hL1).2.2.2.2, (cell_setBlock hqm).trans m1, (cell_setBlock hqm).trans m2, qu_look (i, j) hL1 hn ⟨hi, hj⟩⟩
    refine tail_step ?_
    refine wpList_mapEntry rfl (.tmp 80) (.tmp 85) _ rfl rfl rfl hme ?_
    have k0 : (ChangeMaps.setBlock (ChangeMaps.setBlock W.drew.drew bm (.map es1 cc)) bm (.map es' c')).cell? ⟨qn, 0, none⟩ = some (.pointer (some ⟨g, 0, none⟩)) := (cell_setBlock hqn).trans ((cell_setBlock hqn).trans hN)
    have k1 : (ChangeMaps.setBlock (ChangeMaps.setBlock W.drew.drew bm (.map es1 cc)) bm (.map es' c')).cell? ⟨qm, 1, none⟩ = some (.int .i64 (i : Nat)) := (cell_setBlock hqm).trans ((cell_setBlock hqm).trans m1)
    clear hst
    refine holds hS ?_
    refine tail_step ?_
    have HX := Lib.hid (And.intro hme (And.intro hse (And.intro hS (And.intro hL2 (And.intro k0 k1)))))
    clear hme hse hS hL2 k0 k1
    go_wp2
    refine holds HX.out.2.2.1 ?_
    refine tail_last ?_
    refine wpList_entryStore rfl (.tmp 80) (.tmp 89) (.tmp 87) _ rfl rfl rfl rfl HX.out.2.1 fun u => ?_
    refine at_world (F := fun W' => wpList _ _ _ [] _ W') (fun W' => LayM w0 W' (rowsQ g go gb n cap bm s R) (mapQ n (m + 1) bm { s with way := wput s.way (i, j) (s.way (i, j) + 1) }) ∧ W'.cell? ⟨qn, 0, none⟩ = some (.pointer (some ⟨g, 0, none⟩)) ∧ W'.cell? ⟨qm, 1, none⟩ = some (.int .i64 (i : Nat))) HX.out.2.2.2 ?_
    intro W2 ⟨hW2, k0, k1⟩
    clear HX hN m0 m1 m2 m3 c0 c1 c4
    have HW2 := Lib.hid hW2
    clear hW2 HW
    obtain ⟨d0, d1, d2, d3, d4⟩ := qu_heads HW2.out
    have b2 := qu_owed HW2.out hi
    have o1 := hq.owed_pos hi
    have o2 := ho i hi
    have f2 := HW2.out.lay.frz 1 rfl (by omega) i
    have HS := Lib.hid (qu_setO (s.owed i + 1) HW2.out.drew hi)
    go_wp2
    refine wp_text 10 (by kernel_rfl) (by kernel_rfl) (by kernel_rfl) (by repeat' (first | (with_reducible apply tame_then) | (with_reducible apply tame_block) | (with_reducible apply tame_scope) | exact tame_gives | exact tame_body (fun _ _ h => ⟨_, h.1⟩))) ?_
    simp only [List.take_succ_cons, List.take_zero, List.drop_succ_cons, List.drop_zero]
    go_wp2
    refine headed ?_
    go_wp2
    go_ret
    have e9 := HR.out
    subst e9
    exact ⟨rfl, HS.out.loosen fun _ _ h => h⟩
theorem do_any (k f t v : Int) (hn : n ≤ 6) (hq : QJ n none s) (ho : ∀ j, j < n → s.owed j ≤ 100) (hw : ∀ p, s.way p ≤ 100) (hm : m ≤ 99) (h : LayM w0 w (rowsQ g go gb n cap bm s R) (mapQ n m bm s)) :
    Calls Try.prog 12 #[.pointer (some ⟨g, 0, none⟩), .agg #[.int .i64 k, .int .i64 f, .int .i64 t, .int .i64 v]] w fun e w' => e = .returned (.int .i64 (quStep n k f t s).1) ∧ LayM w0 w' (rowsQ g go gb n cap bm (quStep n k f t s).2 R) (mapQ n (m + 1) bm (quStep n k f t s).2) := by
  by_cases hk : k < 1 ∨ 3 < k
  · rw [show quStep n k f t s = (6, s) by unfold quStep; rw [if_pos hk]]
    exact (do_kind g go gb n cap bm m s R w0 w k f t v hk h).mono fun e w' ⟨he, hw⟩ => ⟨he, hw.loosen fun _ _ h => EMap.more h (by omega)⟩
  · rcases (show k = 1 ∨ k = 2 ∨ k = 3 by omega) with rfl | rfl | rfl
    · exact do_send g go gb n cap bm m s R w0 w f t v hn hq ho hw hm h
    · exact do_take g go gb n cap bm m s R w0 w f t v hn hq ho hw hm h
    · exact do_rest g go gb n cap bm m s R w0 w f t v hn hq ho hm h
end
end Go.Proofs.Ytfcgjmekeonemaa
