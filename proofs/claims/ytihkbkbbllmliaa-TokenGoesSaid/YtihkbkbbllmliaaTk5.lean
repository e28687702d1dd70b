/- The walk of token's 'do'. -/
import Derived.Test.YtihkbkbbllmliaaTk4
import Derived.Test.YtihkbkbbllmliaaContI
set_option linter.unusedVariables false
set_option linter.unusedSimpArgs false
namespace Go.Proofs.Ytihkbkbbllmliaa
open Go.RowKit Go.Maps Go.MapKept

abbrev ptrK (q g : Nat) : LRow := blk q 53 1 (ofL [.pointer (some ⟨g, 0, none⟩)])
abbrev mvB (q : Nat) (k f t v : Int) : LRow := blk q 35 4 (ofL [.int .i64 k, .int .i64 f, .int .i64 t, .int .i64 v])
theorem clK_is (b : Bool) (i : Int) (n q g go : Nat) (w : World) (hN : w.cell? ⟨q, 0, none⟩ = some (.pointer (some ⟨g, 0, none⟩))) (h : w.cell? ⟨g, 1, none⟩ = some (.slice (some ⟨go, 0, none⟩) n n)) (hb : (decide (0 ≤ i) && decide (i < (n : Int))) = b) :
    Calls Try.prog 29 #[.int .i64 i, .pointer (some ⟨q, 0, none⟩)] w fun e w' => e = .returned (.bool (!b)) ∧ w = w' := by
  subst hb
  by_cases h0 : i < 0
  · go_enter Try.func29, Try.ntmps29
    go_wp2
    go_ret
    exact ⟨ret_bool (by simp [show ¬ 0 ≤ i by omega]), rfl⟩
  · have h0' : 0 ≤ i := by omega
    clear h0
    go_enter Try.func29, Try.ntmps29
    go_wp2
    go_ret
    exact ⟨ret_bool (by rw [Bool.eq_iff_iff]; simp; first | done | omega), rfl⟩
theorem tk_want (n : Nat) (f t : Int) (s : KS) : tkStep n 1 f t s = if !(decide (0 ≤ f) && decide (f < n)) then (2, s) else if s.inn = f ∨ f.toNat ∈ s.row f.toNat then (7, s) else (0, standK f.toNat f.toNat s) := by simp [tkStep, tkBad]
theorem tk_comeS (n : Nat) (f t : Int) (s : KS) : tkStep n 2 f t s = if !(decide (0 ≤ f) && decide (f < n)) || (!(decide (0 ≤ t) && decide (t < n)) || f == t) then (2, s) else comeK f.toNat t.toNat s := by simp [tkStep, tkBad]
theorem tk_outS (n : Nat) (f t : Int) (s : KS) : tkStep n 3 f t s = if !(decide (0 ≤ f) && decide (f < n)) then (2, s) else if s.inn ≠ f then (7, s) else (0, giveK f.toNat { s with inn := -1 }) := by simp [tkStep, tkBad]
theorem vK_at {l : List Nat} {j : Nat} (h : j < l.length) : (vK l)[j]? = some (.int .i64 (l[j]?.getD 0 : Nat)) := by
  simp [vK, List.getElem?_eq_getElem h]
theorem qsl_rd {w : World} {base : Nat} {A : Option Addr} {cap n : Nat} {l : List Nat} (hn : n = l.length) (h : QSl w base 3 (.slice A n cap) (vK l)) : Rd w w.heap.size A n (fun j => .int .i64 ((l[j]?.getD 0 : Nat) : Int)) := fun hp => by
  subst hn
  obtain ⟨g, off, rfl, hb, hc⟩ := h.cell (vK_at hp)
  refine ⟨_, rfl, ?_, fun j hj => ?_⟩
  · obtain ⟨_, hlt, _⟩ := h.has (g := g) rfl
    exact hlt
  · obtain ⟨g2, off2, e2, _, hc2⟩ := h.cell (vK_at hj)
    injection e2 with e2
    injection e2 with e3 e4
    subst e3; subst e4
    rcases j with _ | j
    · exact hc2
    · simpa [Addr.add] using hc2
theorem mem_any {l : List Nat} {i : Nat} : anyTo (fun j => (i : Int) == ((l[j]?.getD 0 : Nat) : Int)) l.length = decide (i ∈ l) := by
  rw [Bool.eq_iff_iff, anyTo_iff, decide_eq_true_iff, List.mem_iff_getElem]
  constructor
  · rintro ⟨j, hj, h⟩
    rw [List.getElem?_eq_getElem hj] at h
    exact ⟨j, hj, by simp at h; omega⟩
  · rintro ⟨j, hj, h⟩
    exact ⟨j, hj, by rw [List.getElem?_eq_getElem hj]; simp [h]⟩
/-- All numbers are small. -/
structure BK (n : Nat) (s : KS) : Prop where
  sh : ShortK 900 s
  pt : ∀ i, i < n → s.pt i < n
  row : ∀ i x, x ∈ s.row i → x < n
  rl : ∀ i, (s.row i).length ≤ 900
section
variable (g gp go bm n cp : Nat) (R : List LRow) (w0 : World)
theorem doK_kind (F : FK → Value) (s : KS) (w : World) (k f t v : Int) (hk : k < 1 ∨ 3 < k) (h : LayK g gp go bm n cp R w0 F s w) :
    Calls Try.prog 20 #[.pointer (some ⟨g, 0, none⟩), .agg #[.int .i64 k, .int .i64 f, .int .i64 t, .int .i64 v]] w fun e w' => e = .returned (.int .i64 6) ∧ ∃ f', LayK g gp go bm n cp R w0 f' s w' := by
  have H := Lib.hid h; clear h
  rcases hk with hk | hk
  · go_enter Try.func20, Try.ntmps20
    go_wp2
    go_ret
    exact ⟨rfl, F, (H.out.alloc _).alloc _⟩
  · have hk2 : ¬ k < 1 := by omega
    go_enter Try.func20, Try.ntmps20
    go_wp2
    go_ret
    exact ⟨rfl, F, (H.out.alloc _).alloc _⟩
set_option maxRecDepth 100000 in
set_option maxHeartbeats 1000000 in
theorem doK_come (F : FK → Value) (s : KS) (w : World) (f t v : Int) (hn : n ≤ 6) (hB : BK n s) (h : LayK g gp go bm n cp R w0 F s w) :
    Calls Try.prog 20 #[.pointer (some ⟨g, 0, none⟩), .agg #[.int .i64 2, .int .i64 f, .int .i64 t, .int .i64 v]] w fun e w' => e = .returned (.int .i64 (tkStep n 2 f t s).1) ∧ ∃ f', LayK g gp go bm n cp R w0 f' (tkStep n 2 f t s).2 w' := by
  obtain ⟨r, hr⟩ : ∃ r, r = tkStep n 2 f t s := ⟨_, rfl⟩
  rw [← hr]
  rw [tk_comeS] at hr
  have HR := Lib.hid hr
  clear hr
  obtain ⟨b, hb⟩ : ∃ b, (decide (0 ≤ f) && decide (f < (n : Int))) = b := ⟨_, rfl⟩
  have hr := HR.out
  rw [hb] at hr
  have HR := Lib.hid hr
  clear hr
  have HB := Lib.hid hb
  have H := Lib.hid h; clear h
  have HK := Lib.hid ((((H.out.newB [.pointer (some ⟨g, 0, none⟩)] 53 1 rfl _ rfl).rot3).newB [.int .i64 2, .int .i64 f, .int .i64 t, .int .i64 v] 35 4 rfl _ rfl).rot3)
  have c0 := (tk_heads H.out).2.1
  go_enter Try.func20, Try.ntmps20
  go_wp2_with fail
  clear c0
  refine at_layQ (F := fun W' => Calls _ _ _ W' _) HK.out ?_
  intro W hW
  have HW : Hid (LayK g gp go bm n cp (mvB (w.heap.size + 1) 2 f t v :: ptrK w.heap.size g :: R) w0 F s W) := Lib.hid (by rw [← size_push w (.cells #[.pointer (some ⟨g, 0, none⟩)] 53)]; exact hW)
  clear hW H HK
  generalize w.heap.size + 1 = qm at HW ⊢
  generalize w.heap.size = qn at HW ⊢
  obtain ⟨-, c0, -, c3, -⟩ := tk_heads HW.out
  have hN : W.cell? ⟨qn, 0, none⟩ = some (.pointer (some ⟨g, 0, none⟩)) := HW.out.lay.cellB 4 rfl 0 (by omega)
  have m0 : W.cell? ⟨qm, 0, none⟩ = some (.int .i64 2) := HW.out.lay.cellB 3 rfl 0 (by omega)
  have m1 : W.cell? ⟨qm, 1, none⟩ = some (.int .i64 f) := HW.out.lay.cellB 3 rfl 1 (by omega)
  have m2 : W.cell? ⟨qm, 2, none⟩ = some (.int .i64 t) := HW.out.lay.cellB 3 rfl 2 (by omega)
  refine (clK_is _ f n qn g go _ hN c0 HB.out).mono ?_
  rintro e w3 ⟨rfl, rfl⟩
  cases b
  · have HR := Lib.hid (HR.out.trans (if_pos (by simp)))
    go_wp2
    go_ret
    have e9 := HR.out
    subst e9
    exact ⟨rfl, F, HW.out.drop3.drop3⟩
  obtain ⟨c, hc⟩ : ∃ c, (decide (0 ≤ t) && decide (t < (n : Int))) = c := ⟨_, rfl⟩
  have hr := HR.out
  rw [hc] at hr
  have HR := Lib.hid hr
  clear hr
  have HC := Lib.hid hc
  have hff : 0 ≤ f ∧ f < n := by simpa using hb
  clear hb
  go_wp2_with fail
  refine (clK_is _ t n qn g go _ hN c0 HC.out).mono ?_
  rintro e w3 ⟨rfl, rfl⟩
  cases c
  · have HR := Lib.hid (HR.out.trans (if_pos (by simp)))
    go_wp2
    go_ret
    have e9 := HR.out
    subst e9
    exact ⟨rfl, F, HW.out.drop3.drop3⟩
  have htt : 0 ≤ t ∧ t < n := by simpa using hc
  clear hc
  by_cases hft : f = t
  · subst hft
    have HR := Lib.hid (HR.out.trans (if_pos (by simp)))
    go_wp2
    go_ret
    have e9 := HR.out
    subst e9
    exact ⟨rfl, F, HW.out.drop3.drop3⟩
  have e1 : (f == t) = false := by simpa using hft
  have hr := HR.out
  rw [e1] at hr
  have HR := Lib.hid hr
  clear hr
  have HR := Lib.hid (HR.out.trans (if_neg (by simp)))
  obtain ⟨i, rfl⟩ := Int.eq_ofNat_of_zero_le hff.1
  obtain ⟨j, rfl⟩ := Int.eq_ofNat_of_zero_le htt.1
  have hi : i < n := by omega
  have hj : j < n := by omega
  have hij : i ≠ j := fun h => hft (by rw [h])
  have hr := HR.out
  rw [Int.toNat_natCast, Int.toNat_natCast] at hr
  have HR := Lib.hid hr
  clear hr
  clear htt hff HB HC hft
  go_wp2_with fail
  refine (come_any g gp go bm n cp _ w0 i j F s _ hn hi hj (hB.pt j hj) (hB.row j) (hB.rl j) hB.sh HW.out).mono ?_
  rintro e w3 ⟨rfl, F3, h3⟩
  have H3 := Lib.hid h3; clear h3
  go_wp2
  go_ret
  have e9 := HR.out
  subst e9
  exact ⟨rfl, F3, H3.out.drop3.drop3⟩
set_option maxRecDepth 100000 in
set_option maxHeartbeats 1000000 in
theorem doK_want (F : FK → Value) (s : KS) (w : World) (f t v : Int) (hn : n ≤ 6) (hB : BK n s) (h : LayK g gp go bm n cp R w0 F s w) :
    Calls Try.prog 20 #[.pointer (some ⟨g, 0, none⟩), .agg #[.int .i64 1, .int .i64 f, .int .i64 t, .int .i64 v]] w fun e w' => e = .returned (.int .i64 (tkStep n 1 f t s).1) ∧ ∃ f', LayK g gp go bm n cp R w0 f' (tkStep n 1 f t s).2 w' := by
  obtain ⟨r, hr⟩ : ∃ r, r = tkStep n 1 f t s := ⟨_, rfl⟩
  rw [← hr]
  rw [tk_want] at hr
  have HR := Lib.hid hr
  clear hr
  obtain ⟨b, hb⟩ : ∃ b, (decide (0 ≤ f) && decide (f < (n : Int))) = b := ⟨_, rfl⟩
  have hr := HR.out
  rw [hb] at hr
  have HR := Lib.hid hr
  clear hr
  have HB := Lib.hid hb
  have H := Lib.hid h; clear h
  have HK := Lib.hid ((((H.out.newB [.pointer (some ⟨g, 0, none⟩)] 53 1 rfl _ rfl).rot3).newB [.int .i64 1, .int .i64 f, .int .i64 t, .int .i64 v] 35 4 rfl _ rfl).rot3)
  have c0 := (tk_heads H.out).2.1
  go_enter Try.func20, Try.ntmps20
  go_wp2_with fail
  clear c0
  refine at_layQ (F := fun W' => Calls _ _ _ W' _) HK.out ?_
  intro W hW
  have HW : Hid (LayK g gp go bm n cp (mvB (w.heap.size + 1) 1 f t v :: ptrK w.heap.size g :: R) w0 F s W) := Lib.hid (by rw [← size_push w (.cells #[.pointer (some ⟨g, 0, none⟩)] 53)]; exact hW)
  clear hW H HK
  generalize w.heap.size + 1 = qm at HW ⊢
  generalize w.heap.size = qn at HW ⊢
  obtain ⟨-, c0, -, c3, -⟩ := tk_heads HW.out
  have hN : W.cell? ⟨qn, 0, none⟩ = some (.pointer (some ⟨g, 0, none⟩)) := HW.out.lay.cellB 4 rfl 0 (by omega)
  have m0 : W.cell? ⟨qm, 0, none⟩ = some (.int .i64 1) := HW.out.lay.cellB 3 rfl 0 (by omega)
  have m1 : W.cell? ⟨qm, 1, none⟩ = some (.int .i64 f) := HW.out.lay.cellB 3 rfl 1 (by omega)
  have m2 : W.cell? ⟨qm, 2, none⟩ = some (.int .i64 t) := HW.out.lay.cellB 3 rfl 2 (by omega)
  refine (clK_is _ f n qn g go _ hN c0 HB.out).mono ?_
  rintro e w3 ⟨rfl, rfl⟩
  cases b
  · have HR := Lib.hid (HR.out.trans (if_pos (by simp)))
    go_wp2
    go_ret
    have e9 := HR.out
    subst e9
    exact ⟨rfl, F, HW.out.drop3.drop3⟩
  have HR := Lib.hid (HR.out.trans (if_neg (by simp)))
  have hff : 0 ≤ f ∧ f < n := by simpa using hb
  clear hb
  obtain ⟨i, rfl⟩ := Int.eq_ofNat_of_zero_le hff.1
  have hi : i < n := by omega
  have hr := HR.out
  rw [Int.toNat_natCast] at hr
  have HR := Lib.hid hr
  clear hr
  clear hff HB
  by_cases hin : s.inn = (i : Int)
  · have HR := Lib.hid (HR.out.trans (if_pos (.inl hin)))
    have e2 : (s.inn == (i : Int)) = true := by rw [beq_iff_eq]; exact hin
    clear hin
    go_wp2
    refine wp_text 18 (by kernel_rfl) (by kernel_rfl) (by kernel_rfl) (by repeat' (first | (with_reducible apply tame_then) | (with_reducible apply tame_block) | (with_reducible apply tame_scope) | exact tame_gives | exact tame_body (fun _ _ h => ⟨_, h.1⟩))) ?_
    simp only [List.take_succ_cons, List.take_zero, List.drop_succ_cons, List.drop_zero]
    go_wp2
    refine headed ?_
    go_wp2
    go_ret
    have e9 := HR.out
    subst e9
    exact ⟨rfl, F, HW.out.drew.drop3.drop3⟩
  have e2 : (s.inn == (i : Int)) = false := by rw [beq_eq_false_iff_ne]; exact hin
  have cr0 := HW.out.lay.cell1 2 rfl hi
  obtain ⟨A, cap, hf, hcl, hcm⟩ := HW.out.len (.inr i)
  have hlen : (qsK s (.inr i)).length = (s.row i).length := vK_len _
  have hown := HW.out.own (.inr i)
  rw [hf] at hown
  rw [hlen] at hf hcl hown
  have cr : W.cell? ⟨go, i, none⟩ = some (.slice A (s.row i).length cap) := by rw [← hf]; exact cr0
  clear cr0 hf hlen
  have HRD : Hid (∀ W' : World, Sim W W' → Rd W' W'.heap.size A (s.row i).length (fun j => .int .i64 ((s.row i)[j]?.getD 0 : Nat))) := Lib.hid (fun W' hs => qsl_rd rfl (hown.sim hs))
  have hrl := hB.rl i
  by_cases hin2 : i ∈ s.row i
  · have HR := Lib.hid (HR.out.trans (if_pos (.inr hin2)))
    have HC : Hid (anyTo (fun j => (i : Int) == ((s.row i)[j]?.getD 0 : Nat)) (s.row i).length = true) := Lib.hid (mem_any.trans (by simp [hin2]))
    clear hin hin2 hown
    go_wp2
    refine wp_text 18 (by kernel_rfl) (by kernel_rfl) (by kernel_rfl) (by repeat' (first | (with_reducible apply tame_then) | (with_reducible apply tame_block) | (with_reducible apply tame_scope) | exact tame_gives | exact tame_body (fun _ _ h => ⟨_, h.1⟩))) ?_
    simp only [List.take_succ_cons, List.take_zero, List.drop_succ_cons, List.drop_zero]
    go_wp2
    refine headed ?_
    go_wp2_with fail
    refine (contI_is true A (s.row i).length cap _ _ (i : Int) W.drew (by unfold maxLen; omega) (HRD.out W.drew ⟨rfl, rfl, rfl, rfl⟩) HC.out).mono ?_
    rintro e w3 ⟨rfl, rfl⟩
    go_wp2
    go_ret
    have e9 := HR.out
    subst e9
    exact ⟨rfl, F, HW.out.drew.drop3.drop3⟩
  · have HR := Lib.hid (HR.out.trans (if_neg (fun h => h.elim hin hin2)))
    have HC : Hid (anyTo (fun j => (i : Int) == ((s.row i)[j]?.getD 0 : Nat)) (s.row i).length = false) := Lib.hid (mem_any.trans (by simp [hin2]))
    clear hin hin2 hown
    go_wp2
    refine wp_text 18 (by kernel_rfl) (by kernel_rfl) (by kernel_rfl) (by repeat' (first | (with_reducible apply tame_then) | (with_reducible apply tame_block) | (with_reducible apply tame_scope) | exact tame_gives | exact tame_body (fun _ _ h => ⟨_, h.1⟩))) ?_
    simp only [List.take_succ_cons, List.take_zero, List.drop_succ_cons, List.drop_zero]
    go_wp2
    refine headed ?_
    go_wp2_with fail
    refine (contI_is false A (s.row i).length cap _ _ (i : Int) W.drew (by unfold maxLen; omega) (HRD.out W.drew ⟨rfl, rfl, rfl, rfl⟩) HC.out).mono ?_
    rintro e w3 ⟨rfl, rfl⟩
    go_wp2_with fail
    refine (stand_any g gp go bm n cp _ w0 i i F s _ hn hi hi (hB.pt i hi) (hB.row i) (hB.rl i) hB.sh HW.out.drew).mono ?_
    rintro e w3 ⟨rfl, F3, h3⟩
    have H3 := Lib.hid h3; clear h3
    go_wp2
    go_ret
    have e9 := HR.out
    subst e9
    exact ⟨rfl, F3, H3.out.drop3.drop3⟩
set_option maxRecDepth 100000 in
set_option maxHeartbeats 1000000 in
theorem doK_out (F : FK → Value) (s : KS) (w : World) (f t v : Int) (hn : n ≤ 6) (hB : BK n s) (h : LayK g gp go bm n cp R w0 F s w) :
    Calls Try.prog 20 #[.pointer (some ⟨g, 0, none⟩), .agg #[.int .i64 3, .int .i64 f, .int .i64 t, .int .i64 v]] w fun e w' => e = .returned (.int .i64 (tkStep n 3 f t s).1) ∧ ∃ f', LayK g gp go bm n cp R w0 f' (tkStep n 3 f t s).2 w' := by
  obtain ⟨r, hr⟩ : ∃ r, r = tkStep n 3 f t s := ⟨_, rfl⟩
  rw [← hr]
  rw [tk_outS] at hr
  have HR := Lib.hid hr
  clear hr
  obtain ⟨b, hb⟩ : ∃ b, (decide (0 ≤ f) && decide (f < (n : Int))) = b := ⟨_, rfl⟩
  have hr := HR.out
  rw [hb] at hr
  have HR := Lib.hid hr
  clear hr
  have HB := Lib.hid hb
  have H := Lib.hid h; clear h
  have HK := Lib.hid ((((H.out.newB [.pointer (some ⟨g, 0, none⟩)] 53 1 rfl _ rfl).rot3).newB [.int .i64 3, .int .i64 f, .int .i64 t, .int .i64 v] 35 4 rfl _ rfl).rot3)
  have c0 := (tk_heads H.out).2.1
  go_enter Try.func20, Try.ntmps20
  go_wp2_with fail
  clear c0
  refine at_layQ (F := fun W' => Calls _ _ _ W' _) HK.out ?_
  intro W hW
  have HW : Hid (LayK g gp go bm n cp (mvB (w.heap.size + 1) 3 f t v :: ptrK w.heap.size g :: R) w0 F s W) := Lib.hid (by rw [← size_push w (.cells #[.pointer (some ⟨g, 0, none⟩)] 53)]; exact hW)
  clear hW H HK
  generalize w.heap.size + 1 = qm at HW ⊢
  generalize w.heap.size = qn at HW ⊢
  obtain ⟨-, c0, -, c3, -⟩ := tk_heads HW.out
  have hN : W.cell? ⟨qn, 0, none⟩ = some (.pointer (some ⟨g, 0, none⟩)) := HW.out.lay.cellB 4 rfl 0 (by omega)
  have m0 : W.cell? ⟨qm, 0, none⟩ = some (.int .i64 3) := HW.out.lay.cellB 3 rfl 0 (by omega)
  have m1 : W.cell? ⟨qm, 1, none⟩ = some (.int .i64 f) := HW.out.lay.cellB 3 rfl 1 (by omega)
  have m2 : W.cell? ⟨qm, 2, none⟩ = some (.int .i64 t) := HW.out.lay.cellB 3 rfl 2 (by omega)
  refine (clK_is _ f n qn g go _ hN c0 HB.out).mono ?_
  rintro e w3 ⟨rfl, rfl⟩
  cases b
  · have HR := Lib.hid (HR.out.trans (if_pos (by simp)))
    go_wp2
    go_ret
    have e9 := HR.out
    subst e9
    exact ⟨rfl, F, HW.out.drop3.drop3⟩
  have HR := Lib.hid (HR.out.trans (if_neg (by simp)))
  have hff : 0 ≤ f ∧ f < n := by simpa using hb
  clear hb
  obtain ⟨i, rfl⟩ := Int.eq_ofNat_of_zero_le hff.1
  have hi : i < n := by omega
  have hr := HR.out
  rw [Int.toNat_natCast] at hr
  have HR := Lib.hid hr
  clear hr
  clear hff HB
  by_cases hin : s.inn = (i : Int)
  · have HR := Lib.hid (HR.out.trans (if_neg (fun h => h hin)))
    have e2 : (s.inn != (i : Int)) = false := by rw [bne_eq_false_iff_eq]; exact hin
    clear hin
    have f3 := HW.out.lay.frz 0 rfl (by omega) 3
    go_wp2
    refine wp_text_all (by kernel_rfl) (by kernel_rfl) (by kernel_rfl) (by repeat' (first | (with_reducible apply tame_then) | (with_reducible apply tame_block) | (with_reducible apply tame_scope) | exact tame_gives | exact tame_body (fun _ _ h => ⟨_, h.1⟩))) ?_
    go_wp2
    refine headed ?_
    go_wp2_with fail
    refine (give_any g gp go bm n cp _ w0 i F { s with inn := -1 } _ hn hi (hB.row i) (Nat.le_trans (hB.rl i) (by omega)) (ShortK.row (hB.sh.mono (by omega))) (tk_inn (-1) HW.out.drew)).mono ?_
    rintro e w3 ⟨rfl, F3, h3⟩
    have H3 := Lib.hid h3; clear h3
    go_wp2
    go_ret
    have e9 := HR.out
    subst e9
    exact ⟨rfl, F3, H3.out.drop3.drop3⟩
  · have HR := Lib.hid (HR.out.trans (if_pos hin))
    have e2 : (s.inn != (i : Int)) = true := by rw [bne_iff_ne]; exact hin
    clear hin
    go_wp2
    refine wp_text_all (by kernel_rfl) (by kernel_rfl) (by kernel_rfl) (by repeat' (first | (with_reducible apply tame_then) | (with_reducible apply tame_block) | (with_reducible apply tame_scope) | exact tame_gives | exact tame_body (fun _ _ h => ⟨_, h.1⟩))) ?_
    go_wp2
    refine headed ?_
    go_wp2
    go_ret
    have e9 := HR.out
    subst e9
    exact ⟨rfl, F, HW.out.drew.drop3.drop3⟩
theorem doK_any (F : FK → Value) (s : KS) (w : World) (k f t v : Int) (hn : n ≤ 6) (hB : BK n s) (h : LayK g gp go bm n cp R w0 F s w) :
    Calls Try.prog 20 #[.pointer (some ⟨g, 0, none⟩), .agg #[.int .i64 k, .int .i64 f, .int .i64 t, .int .i64 v]] w fun e w' => e = .returned (.int .i64 (tkStep n k f t s).1) ∧ ∃ f', LayK g gp go bm n cp R w0 f' (tkStep n k f t s).2 w' := by
  by_cases hk : k < 1 ∨ 3 < k
  · rw [show tkStep n k f t s = (6, s) by unfold tkStep; rw [if_pos hk]]
    exact doK_kind g gp go bm n cp R w0 F s w k f t v hk h
  · rcases (show k = 1 ∨ k = 2 ∨ k = 3 by omega) with rfl | rfl | rfl
    · exact doK_want g gp go bm n cp R w0 F s w f t v hn hB h
    · exact doK_come g gp go bm n cp R w0 F s w f t v hn hB h
    · exact doK_out g gp go bm n cp R w0 F s w f t v hn hB h
end
end Go.Proofs.Ytihkbkbbllmliaa
