/- The law MergeWins: plain, and walked. -/
import Derived.Test.YtdgegbdkimdpjaaMeLaw
set_option linter.unusedVariables false
set_option linter.unusedSimpArgs false
namespace Go.Proofs.Ytdgegbdkimdpjaa
open Go.RowKit Go.Maps Go.MapKept

abbrev mvs (A : Option Addr) (q cap : Nat) (M : Mv) : LRow := ⟨A, 37, 4, q, cap, mvF M⟩
def Z0 : Mv := ⟨fun _ => 0, fun _ => 0, fun _ => 0, fun _ => 0⟩
theorem join_st (s : MeS) (i j a : Nat) : (meJoin s i j).st a = if a = 2 * i + 1 then (fun q => s.st (2 * i + 1) q || s.st (2 * j + 1) q) else if a = 2 * i then (fun q => s.st (2 * i) q || s.st (2 * j) q) else s.st a := rfl
theorem add_st (s : MeS) (i x a : Nat) : (meAdd s i x).st a = if a = 2 * i then (fun q => s.st (2 * i) q || decide (q = (x, s.tags + 1))) else s.st a := rfl
theorem drop_st (s : MeS) (i x a : Nat) : (meDrop s i x).st a = if a = 2 * i + 1 then (fun q => s.st (2 * i + 1) q || leftT s i x q) else s.st a := rfl
theorem wins_plain {n m i j x : Nat} {M : Mv} (hi : i < n) (hj : j < n) (hij : i ≠ j) (hx : x ≤ 8) (hm : m + 4 ≤ 60) (h0 : M.k m = 1 ∧ M.f m = i ∧ M.v m = x) (h1 : M.k (m + 1) = 2 ∧ M.f (m + 1) = j ∧ M.v (m + 1) = x)
    (h2 : M.k (m + 2) = 4 ∧ M.f (m + 2) = i ∧ M.t (m + 2) = j) (h3 : M.k (m + 3) = 4 ∧ M.f (m + 3) = j ∧ M.t (m + 3) = i) :
    hasB (meSt n M (m + 4)) i x = true ∧ hasB (meSt n M (m + 4)) j x = true := by
  have e1 : meSt n M (m + 1) = meAdd (meSt n M m) i x := by
    rw [meSt, meDo, h0.1, h0.2.1, h0.2.2, if_neg (by omega), if_neg (by omega), if_neg (by omega), if_pos rfl]
    simp
  have e2 : ∃ s2, meSt n M (m + 2) = s2 ∧ (s2 = meDrop (meAdd (meSt n M m) i x) j x ∨ s2 = meAdd (meSt n M m) i x) := by
    refine ⟨_, rfl, ?_⟩
    rw [meSt, e1, meDo, h1.1, h1.2.1, h1.2.2, if_neg (by omega), if_neg (by omega), if_neg (by omega), if_neg (by omega), if_pos rfl]
    simp only [Int.toNat_natCast]
    split
    · exact .inl rfl
    · exact .inr rfl
  obtain ⟨s2, e2, hs2⟩ := e2
  have e3 : meSt n M (m + 3) = meJoin s2 i j := by
    rw [meSt, e2, meDo, h2.1, h2.2.1, h2.2.2, if_neg (by omega), if_neg (by omega), if_neg (by omega), if_neg (by omega), if_neg (by omega), if_neg (by omega)]
    simp
  have e4 : meSt n M (m + 4) = meJoin (meJoin s2 i j) j i := by
    rw [meSt, e3, meDo, h3.1, h3.2.1, h3.2.2, if_neg (by omega), if_neg (by omega), if_neg (by omega), if_neg (by omega), if_neg (by omega), if_neg (by omega)]
    simp
  have hB := meB_all n M m
  obtain ⟨T, hT⟩ : ∃ T : Tag, T = (x, (meSt n M m).tags + 1) := ⟨_, rfl⟩
  have fresh : ∀ a, (meSt n M m).st a T = false := fun a => by
    cases h : (meSt n M m).st a T
    · rfl
    · have h1 := (hB.st _ _ h).2.2
      rw [hT] at h1
      exact absurd h1 (by show ¬ (meSt n M m).tags + 1 ≤ (meSt n M m).tags; omega)
  have a1 : (meAdd (meSt n M m) i x).st (2 * i) T = true := by
    rw [add_st, if_pos rfl]
    show ((meSt n M m).st (2 * i) T || decide (T = (x, (meSt n M m).tags + 1))) = true
    rw [← hT]; simp
  have a2 : ∀ a, a ≠ 2 * i → (meAdd (meSt n M m) i x).st a T = false := fun a ha => by
    rw [add_st, if_neg ha]; exact fresh a
  have b1 : s2.st (2 * i) T = true := by
    rcases hs2 with rfl | rfl
    · rw [drop_st, if_neg (by omega)]; exact a1
    · exact a1
  have b2 : ∀ a, a ≠ 2 * i → s2.st a T = false := fun a ha => by
    rcases hs2 with rfl | rfl
    · rw [drop_st]
      by_cases e : a = 2 * j + 1
      · rw [if_pos e]
        show ((meAdd (meSt n M m) i x).st (2 * j + 1) T || leftT (meAdd (meSt n M m) i x) j x T) = false
        rw [a2 _ (by omega), leftT, a2 (2 * j) (by omega)]
        rfl
      · rw [if_neg e]; exact a2 a ha
    · exact a2 a ha
  have hBm := meB_all n M (m + 4)
  rw [e4] at hBm ⊢
  have c1 : (meJoin s2 i j).st (2 * i) T = true := by
    rw [join_st, if_neg (by omega), if_pos rfl]
    show (s2.st (2 * i) T || s2.st (2 * j) T) = true
    rw [b1]; rfl
  have c2 : (meJoin s2 i j).st (2 * i + 1) T = false := by
    rw [join_st, if_pos rfl]
    show (s2.st (2 * i + 1) T || s2.st (2 * j + 1) T) = false
    rw [b2 _ (by omega), b2 _ (by omega)]; rfl
  have c3 : (meJoin s2 i j).st (2 * j + 1) T = false := by
    rw [join_st, if_neg (by omega), if_neg (by omega)]; exact b2 _ (by omega)
  have d1 : (meJoin (meJoin s2 i j) j i).st (2 * i) T = true := by
    rw [join_st, if_neg (by omega), if_neg (by omega)]; exact c1
  have d2 : (meJoin (meJoin s2 i j) j i).st (2 * i + 1) T = false := by
    rw [join_st, if_neg (by omega), if_neg (by omega)]; exact c2
  have d3 : (meJoin (meJoin s2 i j) j i).st (2 * j) T = true := by
    rw [join_st, if_neg (by omega), if_pos rfl]
    show ((meJoin s2 i j).st (2 * j) T || (meJoin s2 i j).st (2 * i) T) = true
    rw [c1]; simp
  have d4 : (meJoin (meJoin s2 i j) j i).st (2 * j + 1) T = false := by
    rw [join_st, if_pos rfl]
    show ((meJoin s2 i j).st (2 * j + 1) T || (meJoin s2 i j).st (2 * i + 1) T) = false
    rw [c2, c3]; rfl
  have hT1 : T.1 = x := by rw [hT]
  exact ⟨(hasB_iff hBm hm i x).2 ⟨T, by rw [leftT, d1, d2, hT1]; simp⟩, (hasB_iff hBm hm j x).2 ⟨T, by rw [leftT, d3, d4, hT1]; simp⟩⟩
theorem inL_has {s : MeS} {a x : Nat} (hx : x ≤ 8) (h : hasB s a x = true) : hvB (fun j => (((inL s a).getD j 0 : Nat) : Int)) (inL s a).length (x : Nat) = true := by
  have hmem : x ∈ inL s a := List.mem_filter.2 ⟨List.mem_range.2 (by omega), h⟩
  obtain ⟨j, hj, e⟩ := List.mem_iff_getElem.1 hmem
  refine hvB_iff.2 ⟨j, hj, ?_⟩
  rw [List.getD_eq_getElem?_getD, List.getElem?_eq_getElem hj, e]; rfl
theorem inL_len (s : MeS) (a : Nat) : (inL s a).length ≤ 9 := by
  have := List.length_filter_le (fun x => hasB s a x) (List.range 9)
  rwa [List.length_range] at this
/-- Four moves. -/
def fourM (i j x : Int) : Mv := ⟨fun q => if q = 0 then 1 else if q = 1 then 2 else 4, fun q => if q = 0 then i else if q = 1 then j else if q = 2 then i else j, fun q => if q = 0 then 0 else if q = 1 then 0 else if q = 2 then j else i, fun q => if q = 0 then x else if q = 1 then x else 0⟩
set_option maxHeartbeats 400000 in
theorem mergeWins_long (n i j x : Int) (A : Option Addr) (m cap : Nat) (w : World) (hm : m ≤ maxLen) (h : 40 < m) :
    Calls Try.prog 5 #[.int .i64 n, .slice A m cap, .int .i64 i, .int .i64 j, .int .i64 x] w fun e w' => e = .returned (.bool true) ∧ Below w.heap.size w w' := by
  unfold maxLen at hm
  go_enter Try.func5, Try.ntmps5
  go_wp2
  go_ret
  exact ⟨rfl, Below.refl _ _⟩
theorem four_cells (i j x : Int) : ∀ q, q < 16 → (#[.int .i64 1, .int .i64 i, .int .i64 0, .int .i64 x, .int .i64 2, .int .i64 j, .int .i64 0, .int .i64 x, .int .i64 4, .int .i64 i, .int .i64 j, .int .i64 0, .int .i64 4, .int .i64 j, .int .i64 i, .int .i64 0] : Array Value)[q]? = some (mvF (fourM i j x) q) := by
  intro q hq
  rcases (show q = 0 ∨ q = 1 ∨ q = 2 ∨ q = 3 ∨ q = 4 ∨ q = 5 ∨ q = 6 ∨ q = 7 ∨ q = 8 ∨ q = 9 ∨ q = 10 ∨ q = 11 ∨ q = 12 ∨ q = 13 ∨ q = 14 ∨ q = 15 by omega) with rfl | rfl | rfl | rfl | rfl | rfl | rfl | rfl | rfl | rfl | rfl | rfl | rfl | rfl | rfl | rfl <;> rfl
set_option maxHeartbeats 1600000 in
theorem mergeWins_bad (n i j x : Int) (A : Option Addr) (m cap : Nat) (M : Mv) (w : World) (hr : Rd w w.heap.size A (m * 4) (mvF M)) (hm : m ≤ 40) (hn : n < 1 ∨ 6 < n) :
    Calls Try.prog 5 #[.int .i64 n, .slice A m cap, .int .i64 i, .int .i64 j, .int .i64 x] w fun e w' => e = .returned (.bool true) ∧ Below w.heap.size w w' := by
  have HR := Lib.hid hr; clear hr
  have HL0 : Hid (Lay w (w.alloc (.cells #[] 37)) [mvs (some ⟨w.heap.size, 0, none⟩) 0 0 Z0]) := Lib.hid ((Lay.nil w).new #[] 37 4 0 (mvF Z0) _ rfl rfl (by unfold maxLen; omega) (fun j hj => absurd hj (by omega)))
  go_enter Try.func5, Try.ntmps5
  go_wp2_with (first
    | (at_builtin; refine wpList_apMvs rfl (.tmp 17) (.tmp 18) rfl w.heap.size rfl (HL0.out.own 0 _ rfl) rfl (HR.out.below HL0.out.bel) m (Nat.zero_add m) (by unfold maxLen; omega) (by omega) HL0.out.size ?_; intro A3 c3 w3 ho3 hg3 ha3
       have HL3 : Hid (Lay w w3 [mvs A3 m c3 (Z0.app 0 M)]) := Lib.hid (HL0.out.app 0 rfl ho3 hg3 ha3)
       clear ho3 hg3 ha3 HL0
       have HL4 := Lib.hid (HL3.out.alloc (.cells #[.int .i64 1, .int .i64 i, .int .i64 0, .int .i64 x, .int .i64 2, .int .i64 j, .int .i64 0, .int .i64 x, .int .i64 4, .int .i64 i, .int .i64 j, .int .i64 0, .int .i64 4, .int .i64 j, .int .i64 i, .int .i64 0] 37))
       have HX : Hid (Rd (w3.alloc (.cells #[.int .i64 1, .int .i64 i, .int .i64 0, .int .i64 x, .int .i64 2, .int .i64 j, .int .i64 0, .int .i64 x, .int .i64 4, .int .i64 i, .int .i64 j, .int .i64 0, .int .i64 4, .int .i64 j, .int .i64 i, .int .i64 0] 37)) (w3.heap.size + 1) (some ⟨w3.heap.size, 0, none⟩) (4 * 4) (mvF (fourM i j x))) := Lib.hid (cell_new w3 _ _ (n := 16) _ _ rfl (four_cells i j x)))
    | (at_builtin; refine wpList_apMvs rfl (.tmp 19) (.tmp 32) rfl w.heap.size rfl (HL4.out.own 0 _ rfl) rfl HX.out (m + 4) rfl (by unfold maxLen; omega) (by omega) HL4.out.size ?_; intro A5 c5 w5 ho5 hg5 ha5
       have HL5 : Hid (Lay w w5 [mvs A5 (m + 4) c5 ((Z0.app 0 M).app m (fourM i j x))]) := Lib.hid (HL4.out.app 0 rfl ho5 hg5 ha5)
       clear ho5 hg5 ha5 HL4 HL3 HX)
    | fail)
  refine (play_bad n (m + 4) c5 A5 w5 (by unfold maxLen; omega) (by omega)).mono ?_
  rintro e w6 ⟨rfl, hb6⟩
  have HB6 := Lib.hid (HL5.out.bel.trans (hb6.mono HL5.out.size)); clear hb6
  go_wp2
  all_goals first
    | (exfalso; omega)
    | (go_ret; exact ⟨rfl, HB6.out.alloc HB6.out.size _⟩)
set_option maxRecDepth 100000 in
set_option maxHeartbeats 3200000 in
theorem mergeWins_out (n : Nat) (i j x : Int) (A : Option Addr) (m cap : Nat) (M : Mv) (w : World) (hr : Rd w w.heap.size A (m * 4) (mvF M)) (hm : m ≤ 40) (hn1 : 1 ≤ n) (hn : n ≤ 6) (hin : ¬ ((0 ≤ i ∧ i < n) ∧ 0 ≤ j ∧ j < n)) :
    Calls Try.prog 5 #[.int .i64 n, .slice A m cap, .int .i64 i, .int .i64 j, .int .i64 x] w fun e w' => e = .returned (.bool true) ∧ Below w.heap.size w w' := by
  have hib : (decide (0 ≤ i) && decide (i < (n : Int)) && (decide (0 ≤ j) && decide (j < (n : Int)))) = false := by
    rw [Bool.eq_false_iff]; intro h; simp at h; omega
  clear hin
  have HR := Lib.hid hr; clear hr
  have HL0 : Hid (Lay w (w.alloc (.cells #[] 37)) [mvs (some ⟨w.heap.size, 0, none⟩) 0 0 Z0]) := Lib.hid ((Lay.nil w).new #[] 37 4 0 (mvF Z0) _ rfl rfl (by unfold maxLen; omega) (fun j hj => absurd hj (by omega)))
  go_enter Try.func5, Try.ntmps5
  go_wp2_with (first
    | (at_builtin; refine wpList_apMvs rfl (.tmp 17) (.tmp 18) rfl w.heap.size rfl (HL0.out.own 0 _ rfl) rfl (HR.out.below HL0.out.bel) m (Nat.zero_add m) (by unfold maxLen; omega) (by omega) HL0.out.size ?_; intro A3 c3 w3 ho3 hg3 ha3
       have HL3 : Hid (Lay w w3 [mvs A3 m c3 (Z0.app 0 M)]) := Lib.hid (HL0.out.app 0 rfl ho3 hg3 ha3)
       clear ho3 hg3 ha3 HL0
       have HL4 := Lib.hid (HL3.out.alloc (.cells #[.int .i64 1, .int .i64 i, .int .i64 0, .int .i64 x, .int .i64 2, .int .i64 j, .int .i64 0, .int .i64 x, .int .i64 4, .int .i64 i, .int .i64 j, .int .i64 0, .int .i64 4, .int .i64 j, .int .i64 i, .int .i64 0] 37))
       have HX : Hid (Rd (w3.alloc (.cells #[.int .i64 1, .int .i64 i, .int .i64 0, .int .i64 x, .int .i64 2, .int .i64 j, .int .i64 0, .int .i64 x, .int .i64 4, .int .i64 i, .int .i64 j, .int .i64 0, .int .i64 4, .int .i64 j, .int .i64 i, .int .i64 0] 37)) (w3.heap.size + 1) (some ⟨w3.heap.size, 0, none⟩) (4 * 4) (mvF (fourM i j x))) := Lib.hid (cell_new w3 _ _ (n := 16) _ _ rfl (four_cells i j x)))
    | (at_builtin; refine wpList_apMvs rfl (.tmp 19) (.tmp 32) rfl w.heap.size rfl (HL4.out.own 0 _ rfl) rfl HX.out (m + 4) rfl (by unfold maxLen; omega) (by omega) HL4.out.size ?_; intro A5 c5 w5 ho5 hg5 ha5
       have HL5 : Hid (Lay w w5 [mvs A5 (m + 4) c5 ((Z0.app 0 M).app m (fourM i j x))]) := Lib.hid (HL4.out.app 0 rfl ho5 hg5 ha5)
       clear ho5 hg5 ha5 HL4 HL3 HX)
    | fail)
  refine (play_good n (m + 4) c5 w5.heap.size A5 _ w5 hn1 hn (by omega) (Nat.le_refl _) (HL5.out.rd 0 rfl)).mono ?_
  rintro e w6 ⟨v6, rfl, hb6, AC, AI, AN, cC, cI, cN, gI, rfl, rC, rI, rN, hI⟩
  have HB6 := Lib.hid (HL5.out.bel.trans (hb6.mono HL5.out.size)); clear hb6 rC rN
  have HI := Lib.hid hI
  have HRI := Lib.hid rI
  clear hI rI
  go_wp2_with fail
  refine (merged_true AC AI AN (m + 4) n cC cI cN (w6.alloc (.cells #[.slice AC (m + 4) cC, .slice AI n cI, .slice AN n cN] 28)) (by omega) hn).mono ?_
  rintro e w8 ⟨rfl, hb8⟩
  have HB8 := Lib.hid hb8
  clear hb8
  have HB9 := Lib.hid ((HB6.out.alloc HB6.out.size (.cells #[.slice AC (m + 4) cC, .slice AI n cI, .slice AN n cN] 28)).trans (HB8.out.mono (by have := HB6.out.size; simp; omega)))
  go_wp2_with fail
  refine (inside2 false n (i) (j) w8 3 w8.heap.size rfl hib).mono ?_
  rintro e w9 ⟨rfl, rfl⟩
  have HB9 := Lib.hid (HB9.out.alloc HB9.out.size (.cells #[.int .i64 (i), .int .i64 (j)] 3))
  go_wp2
  go_ret
  exact ⟨rfl, HB9.out⟩
set_option maxRecDepth 100000 in
set_option maxHeartbeats 3200000 in
theorem mergeWins_eq (n : Nat) (i j x : Int) (A : Option Addr) (m cap : Nat) (M : Mv) (w : World) (hr : Rd w w.heap.size A (m * 4) (mvF M)) (hm : m ≤ 40) (hn1 : 1 ≤ n) (hn : n ≤ 6) (hin : (0 ≤ i ∧ i < n) ∧ 0 ≤ j ∧ j < n) (hij : i = j) :
    Calls Try.prog 5 #[.int .i64 n, .slice A m cap, .int .i64 i, .int .i64 j, .int .i64 x] w fun e w' => e = .returned (.bool true) ∧ Below w.heap.size w w' := by
  have hib : (decide (0 ≤ i) && decide (i < (n : Int)) && (decide (0 ≤ j) && decide (j < (n : Int)))) = true := by simp; omega
  have hijb : (i == j) = true := beq_iff_eq.2 hij
  clear hij hin
  have HR := Lib.hid hr; clear hr
  have HL0 : Hid (Lay w (w.alloc (.cells #[] 37)) [mvs (some ⟨w.heap.size, 0, none⟩) 0 0 Z0]) := Lib.hid ((Lay.nil w).new #[] 37 4 0 (mvF Z0) _ rfl rfl (by unfold maxLen; omega) (fun j hj => absurd hj (by omega)))
  go_enter Try.func5, Try.ntmps5
  go_wp2_with (first
    | (at_builtin; refine wpList_apMvs rfl (.tmp 17) (.tmp 18) rfl w.heap.size rfl (HL0.out.own 0 _ rfl) rfl (HR.out.below HL0.out.bel) m (Nat.zero_add m) (by unfold maxLen; omega) (by omega) HL0.out.size ?_; intro A3 c3 w3 ho3 hg3 ha3
       have HL3 : Hid (Lay w w3 [mvs A3 m c3 (Z0.app 0 M)]) := Lib.hid (HL0.out.app 0 rfl ho3 hg3 ha3)
       clear ho3 hg3 ha3 HL0
       have HL4 := Lib.hid (HL3.out.alloc (.cells #[.int .i64 1, .int .i64 i, .int .i64 0, .int .i64 x, .int .i64 2, .int .i64 j, .int .i64 0, .int .i64 x, .int .i64 4, .int .i64 i, .int .i64 j, .int .i64 0, .int .i64 4, .int .i64 j, .int .i64 i, .int .i64 0] 37))
       have HX : Hid (Rd (w3.alloc (.cells #[.int .i64 1, .int .i64 i, .int .i64 0, .int .i64 x, .int .i64 2, .int .i64 j, .int .i64 0, .int .i64 x, .int .i64 4, .int .i64 i, .int .i64 j, .int .i64 0, .int .i64 4, .int .i64 j, .int .i64 i, .int .i64 0] 37)) (w3.heap.size + 1) (some ⟨w3.heap.size, 0, none⟩) (4 * 4) (mvF (fourM i j x))) := Lib.hid (cell_new w3 _ _ (n := 16) _ _ rfl (four_cells i j x)))
    | (at_builtin; refine wpList_apMvs rfl (.tmp 19) (.tmp 32) rfl w.heap.size rfl (HL4.out.own 0 _ rfl) rfl HX.out (m + 4) rfl (by unfold maxLen; omega) (by omega) HL4.out.size ?_; intro A5 c5 w5 ho5 hg5 ha5
       have HL5 : Hid (Lay w w5 [mvs A5 (m + 4) c5 ((Z0.app 0 M).app m (fourM i j x))]) := Lib.hid (HL4.out.app 0 rfl ho5 hg5 ha5)
       clear ho5 hg5 ha5 HL4 HL3 HX)
    | fail)
  refine (play_good n (m + 4) c5 w5.heap.size A5 _ w5 hn1 hn (by omega) (Nat.le_refl _) (HL5.out.rd 0 rfl)).mono ?_
  rintro e w6 ⟨v6, rfl, hb6, AC, AI, AN, cC, cI, cN, gI, rfl, rC, rI, rN, hI⟩
  have HB6 := Lib.hid (HL5.out.bel.trans (hb6.mono HL5.out.size)); clear hb6 rC rN
  have HI := Lib.hid hI
  have HRI := Lib.hid rI
  clear hI rI
  go_wp2_with fail
  refine (merged_true AC AI AN (m + 4) n cC cI cN (w6.alloc (.cells #[.slice AC (m + 4) cC, .slice AI n cI, .slice AN n cN] 28)) (by omega) hn).mono ?_
  rintro e w8 ⟨rfl, hb8⟩
  have HB8 := Lib.hid hb8
  clear hb8
  have HB9 := Lib.hid ((HB6.out.alloc HB6.out.size (.cells #[.slice AC (m + 4) cC, .slice AI n cI, .slice AN n cN] 28)).trans (HB8.out.mono (by have := HB6.out.size; simp; omega)))
  go_wp2_with fail
  refine (inside2 true n (i) (j) w8 3 w8.heap.size rfl hib).mono ?_
  rintro e w9 ⟨rfl, rfl⟩
  have HB9 := Lib.hid (HB9.out.alloc HB9.out.size (.cells #[.int .i64 (i), .int .i64 (j)] 3))
  go_wp2
  go_ret
  exact ⟨rfl, HB9.out⟩
set_option maxRecDepth 100000 in
set_option maxHeartbeats 3200000 in
theorem mergeWins_x (n : Nat) (i j x : Int) (A : Option Addr) (m cap : Nat) (M : Mv) (w : World) (hr : Rd w w.heap.size A (m * 4) (mvF M)) (hm : m ≤ 40) (hn1 : 1 ≤ n) (hn : n ≤ 6) (hin : (0 ≤ i ∧ i < n) ∧ 0 ≤ j ∧ j < n) (hij : i ≠ j) (hx : x < 0 ∨ 8 < x) :
    Calls Try.prog 5 #[.int .i64 n, .slice A m cap, .int .i64 i, .int .i64 j, .int .i64 x] w fun e w' => e = .returned (.bool true) ∧ Below w.heap.size w w' := by
  have hib : (decide (0 ≤ i) && decide (i < (n : Int)) && (decide (0 ≤ j) && decide (j < (n : Int)))) = true := by simp; omega
  have hijb : (i == j) = false := beq_eq_false_iff_ne.2 hij
  clear hij hin
  have HR := Lib.hid hr; clear hr
  have HL0 : Hid (Lay w (w.alloc (.cells #[] 37)) [mvs (some ⟨w.heap.size, 0, none⟩) 0 0 Z0]) := Lib.hid ((Lay.nil w).new #[] 37 4 0 (mvF Z0) _ rfl rfl (by unfold maxLen; omega) (fun j hj => absurd hj (by omega)))
  go_enter Try.func5, Try.ntmps5
  go_wp2_with (first
    | (at_builtin; refine wpList_apMvs rfl (.tmp 17) (.tmp 18) rfl w.heap.size rfl (HL0.out.own 0 _ rfl) rfl (HR.out.below HL0.out.bel) m (Nat.zero_add m) (by unfold maxLen; omega) (by omega) HL0.out.size ?_; intro A3 c3 w3 ho3 hg3 ha3
       have HL3 : Hid (Lay w w3 [mvs A3 m c3 (Z0.app 0 M)]) := Lib.hid (HL0.out.app 0 rfl ho3 hg3 ha3)
       clear ho3 hg3 ha3 HL0
       have HL4 := Lib.hid (HL3.out.alloc (.cells #[.int .i64 1, .int .i64 i, .int .i64 0, .int .i64 x, .int .i64 2, .int .i64 j, .int .i64 0, .int .i64 x, .int .i64 4, .int .i64 i, .int .i64 j, .int .i64 0, .int .i64 4, .int .i64 j, .int .i64 i, .int .i64 0] 37))
       have HX : Hid (Rd (w3.alloc (.cells #[.int .i64 1, .int .i64 i, .int .i64 0, .int .i64 x, .int .i64 2, .int .i64 j, .int .i64 0, .int .i64 x, .int .i64 4, .int .i64 i, .int .i64 j, .int .i64 0, .int .i64 4, .int .i64 j, .int .i64 i, .int .i64 0] 37)) (w3.heap.size + 1) (some ⟨w3.heap.size, 0, none⟩) (4 * 4) (mvF (fourM i j x))) := Lib.hid (cell_new w3 _ _ (n := 16) _ _ rfl (four_cells i j x)))
    | (at_builtin; refine wpList_apMvs rfl (.tmp 19) (.tmp 32) rfl w.heap.size rfl (HL4.out.own 0 _ rfl) rfl HX.out (m + 4) rfl (by unfold maxLen; omega) (by omega) HL4.out.size ?_; intro A5 c5 w5 ho5 hg5 ha5
       have HL5 : Hid (Lay w w5 [mvs A5 (m + 4) c5 ((Z0.app 0 M).app m (fourM i j x))]) := Lib.hid (HL4.out.app 0 rfl ho5 hg5 ha5)
       clear ho5 hg5 ha5 HL4 HL3 HX)
    | fail)
  refine (play_good n (m + 4) c5 w5.heap.size A5 _ w5 hn1 hn (by omega) (Nat.le_refl _) (HL5.out.rd 0 rfl)).mono ?_
  rintro e w6 ⟨v6, rfl, hb6, AC, AI, AN, cC, cI, cN, gI, rfl, rC, rI, rN, hI⟩
  have HB6 := Lib.hid (HL5.out.bel.trans (hb6.mono HL5.out.size)); clear hb6 rC rN
  have HI := Lib.hid hI
  have HRI := Lib.hid rI
  clear hI rI
  go_wp2_with fail
  refine (merged_true AC AI AN (m + 4) n cC cI cN (w6.alloc (.cells #[.slice AC (m + 4) cC, .slice AI n cI, .slice AN n cN] 28)) (by omega) hn).mono ?_
  rintro e w8 ⟨rfl, hb8⟩
  have HB8 := Lib.hid hb8
  clear hb8
  have HB9 := Lib.hid ((HB6.out.alloc HB6.out.size (.cells #[.slice AC (m + 4) cC, .slice AI n cI, .slice AN n cN] 28)).trans (HB8.out.mono (by have := HB6.out.size; simp; omega)))
  go_wp2_with fail
  refine (inside2 true n (i) (j) w8 3 w8.heap.size rfl hib).mono ?_
  rintro e w9 ⟨rfl, rfl⟩
  have HB9 := Lib.hid (HB9.out.alloc HB9.out.size (.cells #[.int .i64 (i), .int .i64 (j)] 3))
  go_wp2
  all_goals first
    | (exfalso; omega)
    | (go_ret; exact ⟨rfl, HB9.out⟩)
set_option maxRecDepth 100000 in
set_option maxHeartbeats 3200000 in
theorem mergeWins_in (n : Nat) (i j x : Int) (A : Option Addr) (m cap : Nat) (M : Mv) (w : World) (hr : Rd w w.heap.size A (m * 4) (mvF M)) (hm : m ≤ 40) (hn1 : 1 ≤ n) (hn : n ≤ 6) (hin : (0 ≤ i ∧ i < n) ∧ 0 ≤ j ∧ j < n) (hij : i ≠ j) (hx0 : ¬ x < 0) (hx8 : ¬ 8 < x) :
    Calls Try.prog 5 #[.int .i64 n, .slice A m cap, .int .i64 i, .int .i64 j, .int .i64 x] w fun e w' => e = .returned (.bool true) ∧ Below w.heap.size w w' := by
  have hib : (decide (0 ≤ i) && decide (i < (n : Int)) && (decide (0 ≤ j) && decide (j < (n : Int)))) = true := by simp; omega
  have hijb : (i == j) = false := beq_eq_false_iff_ne.2 hij
  obtain ⟨ii, rfl⟩ := Int.eq_ofNat_of_zero_le hin.1.1
  obtain ⟨jj, rfl⟩ := Int.eq_ofNat_of_zero_le hin.2.1
  obtain ⟨xx, rfl⟩ := Int.eq_ofNat_of_zero_le (show 0 ≤ x by omega)
  obtain ⟨hw1, hw2⟩ := wins_plain (n := n) (m := m) (i := ii) (j := jj) (x := xx) (M := (Z0.app 0 M).app m (fourM ii jj xx)) (by omega) (by omega) (by omega) (by omega) (by omega)
    (by obtain ⟨h1, h2, h3, h4⟩ := app_new (Z0.app 0 M) m (fourM ii jj xx) 0; exact ⟨h1, h2, h4⟩) (by obtain ⟨h1, h2, h3, h4⟩ := app_new (Z0.app 0 M) m (fourM ii jj xx) 1; exact ⟨h1, h2, h4⟩)
    (by obtain ⟨h1, h2, h3, h4⟩ := app_new (Z0.app 0 M) m (fourM ii jj xx) 2; exact ⟨h1, h2, h3⟩) (by obtain ⟨h1, h2, h3, h4⟩ := app_new (Z0.app 0 M) m (fourM ii jj xx) 3; exact ⟨h1, h2, h3⟩)
  have HV1 := Lib.hid (inL_has (by omega) hw1)
  have HV2 := Lib.hid (inL_has (by omega) hw2)
  clear hw1 hw2
  have HR := Lib.hid hr; clear hr
  have HL0 : Hid (Lay w (w.alloc (.cells #[] 37)) [mvs (some ⟨w.heap.size, 0, none⟩) 0 0 Z0]) := Lib.hid ((Lay.nil w).new #[] 37 4 0 (mvF Z0) _ rfl rfl (by unfold maxLen; omega) (fun j hj => absurd hj (by omega)))
  go_enter Try.func5, Try.ntmps5
  go_wp2_with (first
    | (at_builtin; refine wpList_apMvs rfl (.tmp 17) (.tmp 18) rfl w.heap.size rfl (HL0.out.own 0 _ rfl) rfl (HR.out.below HL0.out.bel) m (Nat.zero_add m) (by unfold maxLen; omega) (by omega) HL0.out.size ?_; intro A3 c3 w3 ho3 hg3 ha3
       have HL3 : Hid (Lay w w3 [mvs A3 m c3 (Z0.app 0 M)]) := Lib.hid (HL0.out.app 0 rfl ho3 hg3 ha3)
       clear ho3 hg3 ha3 HL0
       have HL4 := Lib.hid (HL3.out.alloc (.cells #[.int .i64 1, .int .i64 (ii : Nat), .int .i64 0, .int .i64 (xx : Nat), .int .i64 2, .int .i64 (jj : Nat), .int .i64 0, .int .i64 (xx : Nat), .int .i64 4, .int .i64 (ii : Nat), .int .i64 (jj : Nat), .int .i64 0, .int .i64 4, .int .i64 (jj : Nat), .int .i64 (ii : Nat), .int .i64 0] 37))
       have HX : Hid (Rd (w3.alloc (.cells #[.int .i64 1, .int .i64 (ii : Nat), .int .i64 0, .int .i64 (xx : Nat), .int .i64 2, .int .i64 (jj : Nat), .int .i64 0, .int .i64 (xx : Nat), .int .i64 4, .int .i64 (ii : Nat), .int .i64 (jj : Nat), .int .i64 0, .int .i64 4, .int .i64 (jj : Nat), .int .i64 (ii : Nat), .int .i64 0] 37)) (w3.heap.size + 1) (some ⟨w3.heap.size, 0, none⟩) (4 * 4) (mvF (fourM ii jj xx))) := Lib.hid (cell_new w3 _ _ (n := 16) _ _ rfl (four_cells ii jj xx)))
    | (at_builtin; refine wpList_apMvs rfl (.tmp 19) (.tmp 32) rfl w.heap.size rfl (HL4.out.own 0 _ rfl) rfl HX.out (m + 4) rfl (by unfold maxLen; omega) (by omega) HL4.out.size ?_; intro A5 c5 w5 ho5 hg5 ha5
       have HL5 : Hid (Lay w w5 [mvs A5 (m + 4) c5 ((Z0.app 0 M).app m (fourM ii jj xx))]) := Lib.hid (HL4.out.app 0 rfl ho5 hg5 ha5)
       clear ho5 hg5 ha5 HL4 HL3 HX)
    | fail)
  refine (play_good n (m + 4) c5 w5.heap.size A5 _ w5 hn1 hn (by omega) (Nat.le_refl _) (HL5.out.rd 0 rfl)).mono ?_
  rintro e w6 ⟨v6, rfl, hb6, AC, AI, AN, cC, cI, cN, gI, rfl, rC, rI, rN, hI⟩
  have HB6 := Lib.hid (HL5.out.bel.trans (hb6.mono HL5.out.size)); clear hb6 rC rN
  have HI := Lib.hid hI
  have HRI := Lib.hid rI
  clear hI rI
  obtain ⟨X1, c1, g1, q1⟩ := HI.out ii (by omega)
  obtain ⟨X2, c2, g2, q2⟩ := HI.out jj (by omega)
  obtain ⟨adI, rfl, hbI, cellI⟩ := HRI.out (by omega)
  have y1 : w6.cell? (adI.add ii) = some (.slice X1 (inL (meSt n ((Z0.app 0 M).app m (fourM ii jj xx)) (m + 4)) ii).length c1) := by rw [← g1]; exact cellI ii (by omega)
  have y2 : w6.cell? (adI.add jj) = some (.slice X2 (inL (meSt n ((Z0.app 0 M).app m (fourM ii jj xx)) (m + 4)) jj).length c2) := by rw [← g2]; exact cellI jj (by omega)
  have hbI2 := hbI
  have HQ1 := Lib.hid q1
  have HQ2 := Lib.hid q2
  have hl1 := inL_len (meSt n ((Z0.app 0 M).app m (fourM ii jj xx)) (m + 4)) ii
  have hl2 := inL_len (meSt n ((Z0.app 0 M).app m (fourM ii jj xx)) (m + 4)) jj
  have hiN : ii < n := by omega
  have hjN : jj < n := by omega
  clear q1 q2 g1 g2 cellI hij hin
  have HBI := Lib.hid hbI2
  clear hbI hbI2
  generalize (inL (meSt n ((Z0.app 0 M).app m (fourM ii jj xx)) (m + 4)) ii).length = l1 at y1 hl1 HV1 HQ1
  generalize (inL (meSt n ((Z0.app 0 M).app m (fourM ii jj xx)) (m + 4)) jj).length = l2 at y2 hl2 HV2 HQ2
  go_wp2_with fail
  refine (merged_true AC (some adI) AN (m + 4) n cC cI cN (w6.alloc (.cells #[.slice AC (m + 4) cC, .slice (some adI) n cI, .slice AN n cN] 28)) (by omega) hn).mono ?_
  rintro e w8 ⟨rfl, hb8⟩
  have HB8 := Lib.hid hb8
  clear hb8
  have HB9 := Lib.hid ((HB6.out.alloc HB6.out.size (.cells #[.slice AC (m + 4) cC, .slice (some adI) n cI, .slice AN n cN] 28)).trans (HB8.out.mono (by have := HB6.out.size; simp; omega)))
  go_wp2_with fail
  refine (inside2 true n ((ii : Nat)) ((jj : Nat)) w8 3 w8.heap.size rfl hib).mono ?_
  rintro e w9 ⟨rfl, rfl⟩
  have HB9 := Lib.hid (HB9.out.alloc HB9.out.size (.cells #[.int .i64 ((ii : Nat)), .int .i64 ((jj : Nat))] 3))
  have o1 : w8.cell? ⟨w6.heap.size, 1, none⟩ = some (.slice (some adI) n cI) := (HB8.out.cell (by simp)).trans (by rw [World.cell?_alloc_new]; rfl)
  have o2 : w8.cell? (adI.add ii) = some (.slice X1 l1 c1) := (HB8.out.cell (by rw [addr_block]; have := HBI.out; simp; omega)).trans ((World.cell?_alloc_lt w6 _ _ (by rw [addr_block]; exact HBI.out)).trans y1)
  have o3 : w8.cell? (adI.add jj) = some (.slice X2 l2 c2) := (HB8.out.cell (by rw [addr_block]; have := HBI.out; simp; omega)).trans ((World.cell?_alloc_lt w6 _ _ (by rw [addr_block]; exact HBI.out)).trans y2)
  have HBB : Hid (Below w6.heap.size w6 (w8.alloc (.cells #[.int .i64 (ii : Nat), .int .i64 (jj : Nat)] 3))) := Lib.hid (by
    have h1 := ((Below.refl w6.heap.size w6).alloc (Nat.le_refl _) (.cells #[.slice AC (m + 4) cC, .slice (some adI) n cI, .slice AN n cN] 28)).trans (HB8.out.mono (by simp))
    exact h1.alloc h1.size _)
  have r1 := HQ1.out.below HBB.out
  have r2 := HQ2.out.below HBB.out
  have HR1 := Lib.hid r1
  have HR2 := Lib.hid r2
  have hsz : w6.heap.size < w8.heap.size := by
    have := HB8.out.size
    simp at this; omega
  have p1 : (w8.alloc (.cells #[.int .i64 (ii : Nat), .int .i64 (jj : Nat)] 3)).cell? ⟨w6.heap.size, 1, none⟩ = some (.slice (some adI) n cI) := (World.cell?_alloc_lt w8 _ _ (show w6.heap.size < w8.heap.size from hsz)).trans o1
  have p2 : (w8.alloc (.cells #[.int .i64 (ii : Nat), .int .i64 (jj : Nat)] 3)).cell? (adI.add ii) = some (.slice X1 l1 c1) := (World.cell?_alloc_lt w8 _ _ (by rw [addr_block]; have := HBI.out; omega)).trans o2
  have p3 : (w8.alloc (.cells #[.int .i64 (ii : Nat), .int .i64 (jj : Nat)] 3)).cell? (adI.add jj) = some (.slice X2 l2 c2) := (World.cell?_alloc_lt w8 _ _ (by rw [addr_block]; have := HBI.out; omega)).trans o3
  clear y1 y2 r1 r2 o1 o2 o3 hsz HBB
  generalize (w8.alloc (.cells #[.int .i64 (ii : Nat), .int .i64 (jj : Nat)] 3)) = W9 at p1 p2 p3 HR1 HR2 HB9 ⊢
  have HH1 := Lib.hid (hv_is true X1 l1 c1 w6.heap.size _ (xx : Nat) W9 (by unfold maxLen; omega) HR1.out HV1.out)
  have HH2 := Lib.hid (hv_is true X2 l2 c2 w6.heap.size _ (xx : Nat) W9 (by unfold maxLen; omega) HR2.out HV2.out)
  clear HQ1 HQ2 HV1 HV2 HR1 HR2 HBI HB8 HI HRI HL5
  go_wp2_with fail
  refine HH1.out.mono ?_
  rintro e w10 ⟨rfl, rfl⟩
  go_wp2_with fail
  refine HH2.out.mono ?_
  rintro e w10 ⟨rfl, rfl⟩
  go_wp2
  go_ret
  exact ⟨rfl, HB9.out⟩
theorem mergeWins_all (n : Int) (A : Option Addr) (m cap : Nat) (M : Mv) (i j x : Int) (w : World) (_ : (Lit.int .i64 n).wf = true) (hmc : m ≤ cap ∧ cap ≤ maxLen) (hr : Rd w w.heap.size A (m * 4) (mvF M)) (_ : (Lit.int .i64 i).wf = true) (_ : (Lit.int .i64 j).wf = true) (_ : (Lit.int .i64 x).wf = true) :
    Calls Try.prog 5 #[.int .i64 n, .slice A m cap, .int .i64 i, .int .i64 j, .int .i64 x] w fun e w' => e = .returned (.bool true) ∧ Below w.heap.size w w' := by
  by_cases hm : 40 < m
  · exact mergeWins_long n i j x A m cap w (by omega) hm
  · by_cases hn : n < 1 ∨ 6 < n
    · exact mergeWins_bad n i j x A m cap M w hr (by omega) hn
    · obtain ⟨n, rfl⟩ := Int.eq_ofNat_of_zero_le (show 0 ≤ n by omega)
      by_cases hin : (0 ≤ i ∧ i < n) ∧ 0 ≤ j ∧ j < n
      · by_cases hij : i = j
        · exact mergeWins_eq n i j x A m cap M w hr (by omega) (by omega) (by omega) hin hij
        · by_cases hx : x < 0 ∨ 8 < x
          · exact mergeWins_x n i j x A m cap M w hr (by omega) (by omega) (by omega) hin hij hx
          · exact mergeWins_in n i j x A m cap M w hr (by omega) (by omega) (by omega) hin hij (fun h => hx (.inl h)) (fun h => hx (.inr h))
      · exact mergeWins_out n i j x A m cap M w hr (by omega) (by omega) (by omega) hin
end Go.Proofs.Ytdgegbdkimdpjaa
