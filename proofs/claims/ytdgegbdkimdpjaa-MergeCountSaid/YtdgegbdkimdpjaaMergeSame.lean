/- The law MergeSame: walked. -/
import Derived.Test.YtdgegbdkimdpjaaMeJW
set_option linter.unusedVariables false
set_option linter.unusedSimpArgs false
namespace Go.Proofs.Ytdgegbdkimdpjaa
open Go.RowKit Go.Maps Go.MapKept

theorem joined_state {d m : Nat} (X M : Mv) (hd : d + 1 ≤ 6) : meSt (d + 1) ((X.app 0 M).app m (JM d)) (m + 4 * d) = jn d (meSt (d + 1) M m) (4 * d) := by
  refine run_joins hd (fun q hq => ?_) ?_ (4 * d) (Nat.le_refl _)
  · obtain ⟨e1, e2, e3, _⟩ := app_new (X.app 0 M) m (JM d) q
    exact ⟨e1, e2, e3⟩
  · refine meSt_congr fun j hj => ?_
    obtain ⟨x1, x2, x3, x4⟩ := app_old (X.app 0 M) m (JM d) hj
    obtain ⟨y1, y2, y3, y4⟩ := app_new X 0 M j
    rw [Nat.zero_add] at y1 y2 y3 y4
    exact ⟨x1.trans y1, x2.trans y2, x3.trans y3, x4.trans y4⟩
theorem flat_eqs {d : Nat} {s : MeS} (h : Flat d s) : ∃ L C, ∀ a, a ≤ d → (inL s a = L ∧ cntI s a (d + 1) = C) ∧ inL (jn d s (4 * d)) a = L ∧ cntI (jn d s (4 * d)) a (d + 1) = C := by
  have e0 : ∀ a, a ≤ d → inL s a = inL s 0 ∧ cntI s a (d + 1) = cntI s 0 (d + 1) := fun a ha => by
    have h0 := h a ha 0 (by omega)
    have h1 := h a ha 1 (by omega)
    exact ⟨meHas_eq h0.1 h1.1, cnt_eq h0.2 h1.2 _⟩
  refine ⟨inL s 0, cntI s 0 (d + 1), fun a ha => ⟨e0 a ha, ?_, ?_⟩⟩
  · rw [meHas_eq (flat_stays h a ha 0 (by omega)).1 (flat_stays h a ha 1 (by omega)).1]; exact (e0 a ha).1
  · rw [cnt_eq (flat_stays h a ha 0 (by omega)).2 (flat_stays h a ha 1 (by omega)).2]; exact (e0 a ha).2
set_option maxHeartbeats 400000 in
theorem mergeSame_long (n : Int) (A : Option Addr) (m cap : Nat) (w : World) (hm : m ≤ maxLen) (h : 20 < m) :
    Calls Try.prog 3 #[.int .i64 n, .slice A m cap] w fun e w' => e = .returned (.bool true) ∧ Below w.heap.size w w' := by
  unfold maxLen at hm
  go_enter Try.func3, Try.ntmps3
  go_wp2
  go_ret
  exact ⟨rfl, Below.refl _ _⟩
set_option maxRecDepth 100000 in
set_option maxHeartbeats 3200000 in
theorem mergeSame_bad (n : Int) (d : Nat) (A : Option Addr) (m cap : Nat) (M : Mv) (w : World) (hr : Rd w w.heap.size A (m * 4) (mvF M)) (hm : m ≤ 20) (hd : (n < 1 ∧ d = 0) ∨ (6 < n ∧ d = 5)) :
    Calls Try.prog 3 #[.int .i64 n, .slice A m cap] w fun e w' => e = .returned (.bool true) ∧ Below w.heap.size w w' := by
  have HR := Lib.hid hr; clear hr
  go_enter Try.func3, Try.ntmps3
  have HL0x : Hid (Lay w (w.alloc (.cells #[] 37)) [mvs (some ⟨w.heap.size, 0, none⟩) 0 0 Z0]) := Lib.hid ((Lay.nil w).new #[] 37 4 0 (mvF Z0) _ rfl rfl (by unfold maxLen; omega) (fun j hj => absurd hj (by omega)))
  go_wp2_with (first
    | (at_builtin; skip; refine wpList_apMvs rfl (.tmp 14) (.tmp 15) rfl w.heap.size rfl (HL0x.out.own 0 _ rfl) rfl (HR.out.below HL0x.out.bel) (m) (Nat.zero_add _) (by unfold maxLen; omega) (by omega) HL0x.out.size ?_; intro A3x c3x w3x ho3x hg3x ha3x
       have HL3x : Hid (Lay w w3x [mvs A3x (m) c3x (Z0.app 0 (M))]) := Lib.hid (HL0x.out.app 0 rfl ho3x hg3x ha3x)
       clear ho3x hg3x ha3x HL0x)
    | fail)
  refine (joins_any n d w3x (by omega)).mono ?_
  rintro e w4x ⟨JAx, jcx, rfl, hjx⟩
  have HL4x : Hid (Lay w w4x [mvs JAx (4 * d) jcx (JM d), mvs A3x (m) c3x (Z0.app 0 (M))]) := Lib.hid (HL3x.out.join hjx)
  have HRJx : Hid (Rd w4x w4x.heap.size JAx (4 * d * 4) (mvF (JM d))) := Lib.hid (HL4x.out.rd 0 rfl)
  clear hjx HL3x
  go_wp2_with (first
    | (at_builtin; refine wpList_apMvs rfl (.tmp 16) (.tmp 18) rfl w.heap.size rfl (HL4x.out.own 1 _ rfl) rfl HRJx.out (m + 4 * d) rfl (by unfold maxLen; omega) (by omega) HL4x.out.size ?_; intro A5x c5x w5x ho5x hg5x ha5x
       have HL5x : Hid (Lay w w5x [mvs JAx (4 * d) jcx (JM d), mvs A5x (m + 4 * d) c5x ((Z0.app 0 (M)).app (m) (JM d))]) := Lib.hid (HL4x.out.app 1 rfl ho5x hg5x ha5x)
       clear ho5x hg5x ha5x HL4x HRJx)
    | fail)
  refine (play_bad n (m + 4 * d) c5x A5x w5x (by unfold maxLen; omega) (by omega)).mono ?_
  rintro e w6 ⟨rfl, hb6⟩
  obtain ⟨w7, hw7⟩ : ∃ w7, w7 = w6.alloc (.cells #[.slice none 0 0, .slice none 0 0, .slice none 0 0] 28) := ⟨_, rfl⟩
  have hz7 : w7.heap.size = w6.heap.size + 1 := by rw [hw7]; simp
  have HB7 : Hid (Below w5x.heap.size w5x w7) := Lib.hid (by rw [hw7]; exact hb6.alloc hb6.size _)
  have HBw : Hid (Below w.heap.size w w7) := Lib.hid (HL5x.out.bel.trans (HB7.out.mono HL5x.out.size))
  have HR5 : Hid (Rd w7 w7.heap.size A5x ((m + 4 * d) * 4) (mvF ((Z0.app 0 M).app m (JM d)))) := Lib.hid (((HL5x.out.rd 1 rfl).below HB7.out).more HB7.out.size)
  clear hb6 HL5x HB7
  have HL0y : Hid (Lay w7 (w7.alloc (.cells #[] 37)) [mvs (some ⟨w7.heap.size, 0, none⟩) 0 0 Z0]) := Lib.hid ((Lay.nil w7).new #[] 37 4 0 (mvF Z0) _ rfl rfl (by unfold maxLen; omega) (fun j hj => absurd hj (by omega)))
  go_wp2_with (first
    | (at_builtin; rw [← hw7, ← hz7]; refine wpList_apMvs rfl (.tmp 28) (.tmp 29) rfl w7.heap.size rfl (HL0y.out.own 0 _ rfl) rfl (HR5.out.below HL0y.out.bel) (m + 4 * d) (Nat.zero_add _) (by unfold maxLen; omega) (by omega) HL0y.out.size ?_; intro A3y c3y w3y ho3y hg3y ha3y
       have HL3y : Hid (Lay w7 w3y [mvs A3y (m + 4 * d) c3y (Z0.app 0 ((Z0.app 0 M).app m (JM d)))]) := Lib.hid (HL0y.out.app 0 rfl ho3y hg3y ha3y)
       clear ho3y hg3y ha3y HL0y)
    | fail)
  refine (joins_any n d w3y (by omega)).mono ?_
  rintro e w4y ⟨JAy, jcy, rfl, hjy⟩
  have HL4y : Hid (Lay w7 w4y [mvs JAy (4 * d) jcy (JM d), mvs A3y (m + 4 * d) c3y (Z0.app 0 ((Z0.app 0 M).app m (JM d)))]) := Lib.hid (HL3y.out.join hjy)
  have HRJy : Hid (Rd w4y w4y.heap.size JAy (4 * d * 4) (mvF (JM d))) := Lib.hid (HL4y.out.rd 0 rfl)
  clear hjy HL3y
  go_wp2_with (first
    | (at_builtin; refine wpList_apMvs rfl (.tmp 30) (.tmp 32) rfl w7.heap.size rfl (HL4y.out.own 1 _ rfl) rfl HRJy.out (m + 4 * d + 4 * d) rfl (by unfold maxLen; omega) (by omega) HL4y.out.size ?_; intro A5y c5y w5y ho5y hg5y ha5y
       have HL5y : Hid (Lay w7 w5y [mvs JAy (4 * d) jcy (JM d), mvs A5y (m + 4 * d + 4 * d) c5y ((Z0.app 0 ((Z0.app 0 M).app m (JM d))).app (m + 4 * d) (JM d))]) := Lib.hid (HL4y.out.app 1 rfl ho5y hg5y ha5y)
       clear ho5y hg5y ha5y HL4y HRJy)
    | fail)
  refine (play_bad n (m + 4 * d + 4 * d) c5y A5y w5y (by unfold maxLen; omega) (by omega)).mono ?_
  rintro e w8 ⟨rfl, hb8⟩
  have HB8 := Lib.hid (HL5y.out.bel.trans (hb8.mono HL5y.out.size)); clear hb8
  have HB9 := Lib.hid (HBw.out.trans (HB8.out.mono HBw.out.size))
  go_wp2
  all_goals first
    | (exfalso; omega)
    | (go_ret; exact ⟨rfl, HB9.out.alloc HB9.out.size _⟩)
set_option maxRecDepth 100000 in
set_option maxHeartbeats 6400000 in
theorem mergeSame_good (n d : Nat) (A : Option Addr) (m cap : Nat) (M : Mv) (w : World) (hr : Rd w w.heap.size A (m * 4) (mvF M)) (hm : m ≤ 20) (hnd : n = d + 1) (hd : d ≤ 5) :
    Calls Try.prog 3 #[.int .i64 n, .slice A m cap] w fun e w' => e = .returned (.bool true) ∧ Below w.heap.size w w' := by
  have HR := Lib.hid hr; clear hr
  have HJ : Hid (((n : Int) < 1 ∧ d = 0) ∨ ((n : Int) = (d : Int) + 1 ∧ d ≤ 5) ∨ (6 < (n : Int) ∧ d = 5)) := Lib.hid (by omega)
  have hn1 : 1 ≤ n := by omega
  have hn : n ≤ 6 := by omega
  obtain ⟨L, C, hP⟩ := flat_eqs (flat_all d (meSt (d + 1) M m))
  have HP1 : Hid (∀ a, a < n → inL (meSt n ((Z0.app 0 M).app m (JM d)) (m + 4 * d)) a = L ∧ cntI (meSt n ((Z0.app 0 M).app m (JM d)) (m + 4 * d)) a n = C) := Lib.hid (by
    subst hnd; intro a ha; rw [joined_state _ _ (by omega)]; exact (hP a (by omega)).1)
  have HP2 : Hid (∀ a, a < n → inL (meSt n ((Z0.app 0 ((Z0.app 0 M).app m (JM d))).app (m + 4 * d) (JM d)) (m + 4 * d + 4 * d)) a = L ∧ cntI (meSt n ((Z0.app 0 ((Z0.app 0 M).app m (JM d))).app (m + 4 * d) (JM d)) (m + 4 * d + 4 * d)) a n = C) := Lib.hid (by
    subst hnd; intro a ha; rw [joined_state _ _ (by omega), joined_state _ _ (by omega)]; exact (hP a (by omega)).2)
  have hk : L.length ≤ 9 := by rw [← (HP1.out 0 (by omega)).1]; exact inL_len _ _
  clear hP hnd
  go_enter Try.func3, Try.ntmps3
  have HL0x : Hid (Lay w (w.alloc (.cells #[] 37)) [mvs (some ⟨w.heap.size, 0, none⟩) 0 0 Z0]) := Lib.hid ((Lay.nil w).new #[] 37 4 0 (mvF Z0) _ rfl rfl (by unfold maxLen; omega) (fun j hj => absurd hj (by omega)))
  go_wp2_with (first
    | (at_builtin; skip; refine wpList_apMvs rfl (.tmp 14) (.tmp 15) rfl w.heap.size rfl (HL0x.out.own 0 _ rfl) rfl (HR.out.below HL0x.out.bel) (m) (Nat.zero_add _) (by unfold maxLen; omega) (by omega) HL0x.out.size ?_; intro A3x c3x w3x ho3x hg3x ha3x
       have HL3x : Hid (Lay w w3x [mvs A3x (m) c3x (Z0.app 0 (M))]) := Lib.hid (HL0x.out.app 0 rfl ho3x hg3x ha3x)
       clear ho3x hg3x ha3x HL0x)
    | fail)
  refine (joins_any n d w3x (HJ.out)).mono ?_
  rintro e w4x ⟨JAx, jcx, rfl, hjx⟩
  have HL4x : Hid (Lay w w4x [mvs JAx (4 * d) jcx (JM d), mvs A3x (m) c3x (Z0.app 0 (M))]) := Lib.hid (HL3x.out.join hjx)
  have HRJx : Hid (Rd w4x w4x.heap.size JAx (4 * d * 4) (mvF (JM d))) := Lib.hid (HL4x.out.rd 0 rfl)
  clear hjx HL3x
  go_wp2_with (first
    | (at_builtin; refine wpList_apMvs rfl (.tmp 16) (.tmp 18) rfl w.heap.size rfl (HL4x.out.own 1 _ rfl) rfl HRJx.out (m + 4 * d) rfl (by unfold maxLen; omega) (by omega) HL4x.out.size ?_; intro A5x c5x w5x ho5x hg5x ha5x
       have HL5x : Hid (Lay w w5x [mvs JAx (4 * d) jcx (JM d), mvs A5x (m + 4 * d) c5x ((Z0.app 0 (M)).app (m) (JM d))]) := Lib.hid (HL4x.out.app 1 rfl ho5x hg5x ha5x)
       clear ho5x hg5x ha5x HL4x HRJx)
    | fail)
  refine (play_good n (m + 4 * d) c5x w5x.heap.size A5x _ w5x hn1 hn (by omega) (Nat.le_refl _) (HL5x.out.rd 1 rfl)).mono ?_
  rintro e w6 ⟨v6, rfl, hb6, AC, AI, AN, cC, cI, cN, gI, rfl, rC, rI, rN, hI⟩
  obtain ⟨w7, hw7⟩ : ∃ w7, w7 = w6.alloc (.cells #[.slice AC (m + 4 * d) cC, .slice AI n cI, .slice AN n cN] 28) := ⟨_, rfl⟩
  obtain ⟨q6, hq6⟩ : ∃ q6, q6 = w6.heap.size := ⟨_, rfl⟩
  have hz7 : w7.heap.size = q6 + 1 := by rw [hw7, hq6]; simp
  have hA : Below w6.heap.size w6 w7 := by rw [hw7]; exact (Below.refl _ _).alloc (Nat.le_refl _) _
  have HB7 : Hid (Below w5x.heap.size w5x w7) := Lib.hid (by rw [hw7]; exact hb6.alloc hb6.size _)
  have HBw : Hid (Below w.heap.size w w7) := Lib.hid (HL5x.out.bel.trans (HB7.out.mono HL5x.out.size))
  have HR5 : Hid (Rd w7 w7.heap.size A5x ((m + 4 * d) * 4) (mvF ((Z0.app 0 M).app m (JM d)))) := Lib.hid (((HL5x.out.rd 1 rfl).below HB7.out).more HB7.out.size)
  have HC0 : Hid (w7.cell? ⟨q6, 0, none⟩ = some (.slice AC (m + 4 * d) cC)) := Lib.hid (by rw [hw7, hq6, World.cell?_alloc_new]; rfl)
  have HC1 : Hid (w7.cell? ⟨q6, 1, none⟩ = some (.slice AI n cI)) := Lib.hid (by rw [hw7, hq6, World.cell?_alloc_new]; rfl)
  have HC2 : Hid (w7.cell? ⟨q6, 2, none⟩ = some (.slice AN n cN)) := Lib.hid (by rw [hw7, hq6, World.cell?_alloc_new]; rfl)
  have HI : Hid (∀ a, a < n → ∃ X c, gI a = .slice X L.length c ∧ Rd w7 w7.heap.size X L.length (fun j => .int .i64 ((L.getD j 0 : Nat) : Int))) := Lib.hid fun a ha => by
    obtain ⟨X, c, e1, e2⟩ := hI a ha
    rw [(HP1.out a ha).1] at e1 e2
    exact ⟨X, c, e1, (e2.below hA).more hA.size⟩
  have HRI := Lib.hid ((rI.below hA).more hA.size)
  have HRN : Hid (Rd w7 w7.heap.size AN n (fun _ => .int .i64 C)) := Lib.hid (((rN.congr fun j hj => by rw [(HP1.out j hj).2]).below hA).more hA.size)
  have hz6 : w6.heap.size + 1 = w7.heap.size := by rw [hz7, hq6]
  have HZ6 := Lib.hid hz6
  have HQ6 := Lib.hid hq6
  have HZ7 := Lib.hid hz7
  have HW7 := Lib.hid hw7
  clear hb6 HL5x HB7 rC rI rN hI HP1 hA hz6 hq6 hz7 hw7
  have HL0y : Hid (Lay w7 (w7.alloc (.cells #[] 37)) [mvs (some ⟨w7.heap.size, 0, none⟩) 0 0 Z0]) := Lib.hid ((Lay.nil w7).new #[] 37 4 0 (mvF Z0) _ rfl rfl (by unfold maxLen; omega) (fun j hj => absurd hj (by omega)))
  go_wp2_with (first
    | (at_builtin; rw [← HW7.out, HZ6.out, ← HQ6.out]; refine wpList_apMvs rfl (.tmp 28) (.tmp 29) rfl w7.heap.size rfl (HL0y.out.own 0 _ rfl) rfl (HR5.out.below HL0y.out.bel) (m + 4 * d) (Nat.zero_add _) (by unfold maxLen; omega) (by omega) HL0y.out.size ?_; intro A3y c3y w3y ho3y hg3y ha3y
       have HL3y : Hid (Lay w7 w3y [mvs A3y (m + 4 * d) c3y (Z0.app 0 ((Z0.app 0 M).app m (JM d)))]) := Lib.hid (HL0y.out.app 0 rfl ho3y hg3y ha3y)
       clear ho3y hg3y ha3y HL0y)
    | fail)
  refine (joins_any n d w3y (HJ.out)).mono ?_
  rintro e w4y ⟨JAy, jcy, rfl, hjy⟩
  have HL4y : Hid (Lay w7 w4y [mvs JAy (4 * d) jcy (JM d), mvs A3y (m + 4 * d) c3y (Z0.app 0 ((Z0.app 0 M).app m (JM d)))]) := Lib.hid (HL3y.out.join hjy)
  have HRJy : Hid (Rd w4y w4y.heap.size JAy (4 * d * 4) (mvF (JM d))) := Lib.hid (HL4y.out.rd 0 rfl)
  clear hjy HL3y
  go_wp2_with (first
    | (at_builtin; refine wpList_apMvs rfl (.tmp 30) (.tmp 32) rfl w7.heap.size rfl (HL4y.out.own 1 _ rfl) rfl HRJy.out (m + 4 * d + 4 * d) rfl (by unfold maxLen; omega) (by omega) HL4y.out.size ?_; intro A5y c5y w5y ho5y hg5y ha5y
       have HL5y : Hid (Lay w7 w5y [mvs JAy (4 * d) jcy (JM d), mvs A5y (m + 4 * d + 4 * d) c5y ((Z0.app 0 ((Z0.app 0 M).app m (JM d))).app (m + 4 * d) (JM d))]) := Lib.hid (HL4y.out.app 1 rfl ho5y hg5y ha5y)
       clear ho5y hg5y ha5y HL4y HRJy)
    | fail)
  have hz7 := HZ7.out
  clear HW7 HZ6 HQ6 HZ7
  refine (play_good n (m + 4 * d + 4 * d) c5y w5y.heap.size A5y _ w5y hn1 hn (by omega) (Nat.le_refl _) (HL5y.out.rd 1 rfl)).mono ?_
  rintro e w8 ⟨v8, rfl, hb8, AC2, AI2, AN2, cC2, cI2, cN2, gI2, rfl, rC2, rI2, rN2, hI2⟩
  obtain ⟨w9, hw9⟩ : ∃ w9, w9 = w8.alloc (.cells #[.slice AC2 (m + 4 * d + 4 * d) cC2, .slice AI2 n cI2, .slice AN2 n cN2] 28) := ⟨_, rfl⟩
  obtain ⟨q8, hq8⟩ : ∃ q8, q8 = w8.heap.size := ⟨_, rfl⟩
  have hA9 : Below w8.heap.size w8 w9 := by rw [hw9]; exact (Below.refl _ _).alloc (Nat.le_refl _) _
  have hz9 : w9.heap.size = q8 + 1 := by rw [hw9, hq8]; simp
  have hB8 : Below w7.heap.size w7 w8 := HL5y.out.bel.trans (hb8.mono HL5y.out.size)
  have HB9 : Hid (Below w7.heap.size w7 w9) := Lib.hid (hB8.trans (hA9.mono hB8.size))
  have a0 : w9.cell? ⟨q6, 0, none⟩ = some (.slice AC (m + 4 * d) cC) := (HB9.out.cell (by show q6 < _; omega)).trans HC0.out
  have a1 : w9.cell? ⟨q6, 1, none⟩ = some (.slice AI n cI) := (HB9.out.cell (by show q6 < _; omega)).trans HC1.out
  have a2 : w9.cell? ⟨q6, 2, none⟩ = some (.slice AN n cN) := (HB9.out.cell (by show q6 < _; omega)).trans HC2.out
  have b1 : w9.cell? ⟨q8, 1, none⟩ = some (.slice AI2 n cI2) := by rw [hw9, hq8, World.cell?_alloc_new]; rfl
  have b2 : w9.cell? ⟨q8, 2, none⟩ = some (.slice AN2 n cN2) := by rw [hw9, hq8, World.cell?_alloc_new]; rfl
  have hs7 : w7.heap.size ≤ q8 := by rw [hq8]; exact hB8.size
  have HI7 : Hid (∀ a, a < n → ∃ X c, gI a = .slice X L.length c ∧ Rd w9 q8 X L.length (fun j => .int .i64 ((L.getD j 0 : Nat) : Int))) := Lib.hid fun a ha => by
    obtain ⟨X, c, e1, e2⟩ := HI.out a ha
    exact ⟨X, c, e1, (e2.below HB9.out).more hs7⟩
  have HI9 : Hid (∀ a, a < n → ∃ X c, gI2 a = .slice X L.length c ∧ Rd w9 q8 X L.length (fun j => .int .i64 ((L.getD j 0 : Nat) : Int))) := Lib.hid fun a ha => by
    obtain ⟨X, c, e1, e2⟩ := hI2 a ha
    rw [(HP2.out a ha).1] at e1 e2
    rw [hq8]
    exact ⟨X, c, e1, e2.below hA9⟩
  have K1 := Lib.hid ((HRI.out.below HB9.out).more hs7)
  have K2 := Lib.hid ((HRN.out.below HB9.out).more hs7)
  have K3 : Hid (Rd w9 q8 AI2 n gI2) := Lib.hid (by rw [hq8]; exact rI2.below hA9)
  have K4 : Hid (Rd w9 q8 AN2 n (fun _ => .int .i64 C)) := Lib.hid (by rw [hq8]; exact (rN2.congr fun j hj => by rw [(HP2.out j hj).2]).below hA9)
  have HBF := Lib.hid (HBw.out.trans (HB9.out.mono HBw.out.size))
  have hq68 : q6 < q8 := by omega
  clear hb8 HL5y HI HRI HRN rC2 rI2 rN2 hI2 HP2 hA9 hB8 HB9 HC0 HC1 HC2 HR5 hs7 HBw hz7
  have g0 : (w8.alloc (.cells #[.slice AC2 (m + 4 * d + 4 * d) cC2, .slice AI2 n cI2, .slice AN2 n cN2] 28)).cell? ⟨q6, 0, none⟩ = some (.slice AC (m + 4 * d) cC) := by rw [← hw9]; exact a0
  have g1 : (w8.alloc (.cells #[.slice AC2 (m + 4 * d + 4 * d) cC2, .slice AI2 n cI2, .slice AN2 n cN2] 28)).cell? ⟨q6, 1, none⟩ = some (.slice AI n cI) := by rw [← hw9]; exact a1
  have g2 : (w8.alloc (.cells #[.slice AC2 (m + 4 * d + 4 * d) cC2, .slice AI2 n cI2, .slice AN2 n cN2] 28)).cell? ⟨q6, 2, none⟩ = some (.slice AN n cN) := by rw [← hw9]; exact a2
  have HW9 := Lib.hid hw9
  have HQ8 := Lib.hid hq8
  clear hw9 hq8
  go_wp2_with fail
  rw [← HW9.out, ← HQ8.out]
  clear HW9 HQ8 g0 g1 g2
  refine (merged_true AC AI AN (m + 4 * d) n cC cI cN w9 (by omega) hn).mono ?_
  rintro e w10 ⟨rfl, hb10⟩
  have K1 := Lib.hid (K1.out.below (hb10.mono (by omega)))
  have K2 := Lib.hid (K2.out.below (hb10.mono (by omega)))
  have K3 := Lib.hid (K3.out.below (hb10.mono (by omega)))
  have K4 := Lib.hid (K4.out.below (hb10.mono (by omega)))
  have HLI : Hid (∀ a, a < n → ∃ X c, gI a = .slice X L.length c ∧ Rd w10 q8 X L.length (fun j => .int .i64 ((L.getD j 0 : Nat) : Int))) := Lib.hid fun a ha => by
    obtain ⟨X, c, e1, e2⟩ := HI7.out a ha
    exact ⟨X, c, e1, e2.below (hb10.mono (by omega))⟩
  have HLI2 : Hid (∀ a, a < n → ∃ X c, gI2 a = .slice X L.length c ∧ Rd w10 q8 X L.length (fun j => .int .i64 ((L.getD j 0 : Nat) : Int))) := Lib.hid fun a ha => by
    obtain ⟨X, c, e1, e2⟩ := HI9.out a ha
    exact ⟨X, c, e1, e2.below (hb10.mono (by omega))⟩
  have c1 := (hb10.cell (show (⟨q6, 1, none⟩ : Addr).block < w9.heap.size by show q6 < _; omega)).trans a1
  have c2 := (hb10.cell (show (⟨q6, 2, none⟩ : Addr).block < w9.heap.size by show q6 < _; omega)).trans a2
  have d1 := (hb10.cell (show (⟨q8, 1, none⟩ : Addr).block < w9.heap.size by show q8 < _; omega)).trans b1
  have d2 := (hb10.cell (show (⟨q8, 2, none⟩ : Addr).block < w9.heap.size by show q8 < _; omega)).trans b2
  have HBF := Lib.hid (HBF.out.trans (hb10.mono HBF.out.size))
  have HLL := Lib.hid (fun _ : Nat => (show L.length ≤ 100 by omega))
  have HIE := Lib.hid (ints_eq n cN q8 AN (fun _ => C) cN2 q8 AN2 (fun _ => C) w10 (by unfold maxLen; omega) K2.out K4.out (fun _ _ => rfl))
  clear hb10 a0 a1 a2 b1 b2 HI7 HI9 K4 hz9
  go_wp2_with fail
  refine HIE.out.mono ?_
  rintro e w11 ⟨rfl, hs11⟩
  have c1' := (cell_sim hs11 _).trans c1
  have d1' := (cell_sim hs11 _).trans d1
  have HLS := Lib.hid (lists_eq n cI cI2 q8 AI AI2 gI gI2 (fun _ => L.length) (fun _ j => ((L.getD j 0 : Nat) : Int)) w11 hn HLL.out (K1.out.sim hs11) (K3.out.sim hs11) (fun a ha => by
    obtain ⟨X, c, e1, e2⟩ := HLI.out a ha
    exact ⟨X, c, e1, e2.sim hs11⟩) (fun a ha => by
    obtain ⟨X, c, e1, e2⟩ := HLI2.out a ha
    exact ⟨X, c, e1, e2.sim hs11⟩))
  have HS11 := Lib.hid hs11
  clear hs11 HLI2 K3 HIE
  go_wp2_with fail
  refine HLS.out.mono ?_
  rintro e w12 ⟨rfl, hs12⟩
  have HS12 : Hid (Sim w10 w12) := Lib.hid (sim_trans HS11.out hs12)
  clear hs12 HS11 HLS c1' d1' d1 d2
  generalize hkk : L.length = k at hk HLI HLL
  go_wp2
  go_loopw [10] (fun u wr => ∃ a : Nat, a ≤ n ∧ u = .int .i64 a ∧ Hid (Sim w10 wr)) (fun u _ => n - (intOf u).toNat)
  case atStart => exact ⟨0, by omega, rfl, HS12⟩
  case round =>
    obtain ⟨a, ha, rfl, HSR⟩ := hrel
    by_cases hlt : a < n
    · obtain ⟨X, cx, e1, r1⟩ := HLI.out a hlt
      obtain ⟨X0, cx0, e2, r2⟩ := HLI.out 0 (by omega)
      obtain ⟨adI, rfl, _, cellI⟩ := K1.out (by omega)
      obtain ⟨adN, rfl, _, cellN⟩ := K2.out (by omega)
      have z1 : w10.cell? (adI.add a) = some (.slice X k cx) := (cellI a hlt).trans (by rw [e1])
      have z0 : w10.cell? adI = some (.slice X0 k cx0) := by have := (cellI 0 (by omega)).trans (by rw [e2]); simpa [Addr.add] using this
      have n1 : w10.cell? (adN.add a) = some (.int .i64 C) := cellN a hlt
      have n0 : w10.cell? adN = some (.int .i64 C) := by have := cellN 0 (by omega); simpa [Addr.add] using this
      have HIE := Lib.hid (fun (W : World) (hs : Sim w10 W) => ints_eq k cx q8 X (fun j => ((L.getD j 0 : Nat) : Int)) cx0 q8 X0 (fun j => ((L.getD j 0 : Nat) : Int)) W (by unfold maxLen; omega) (r1.sim hs) (r2.sim hs) (fun _ _ => rfl))
      clear cellI cellN e1 e2 r1 r2
      go_wp2
      refine wp_phase (fun W => Sim w10 W) [true, true, true, true, true, true, true, true, true, false] ?A1 (by kernel_rfl) (by decide) (by kernel_rfl) (by repeat' (first | (with_reducible apply tame_then) | (with_reducible apply tame_block) | (with_reducible apply tame_scope) | exact tame_gives | exact tame_body (fun _ _ h => ⟨_, h.1⟩))) (sim_trans HSR.out ⟨rfl, rfl, rfl, rfl⟩) ?head1 ?tail1
      case head1 =>
        intro W5 hs
        have y1 := (cell_sim hs _).trans z1
        have y0 := (cell_sim hs _).trans z0
        have x1 := (cell_sim hs _).trans c1
        clear hs
        simp only [pick]
        go_wp2
        exact taken
      case tail1 =>
        simp only [pick, List.map_cons, List.map_nil, Bool.not_true, Bool.not_false]; refine chain_step ?_
        go_wp2_with fail
        refine (HIE.out wr.drew (sim_trans HSR.out ⟨rfl, rfl, rfl, rfl⟩)).mono ?_
        rintro e u3 ⟨rfl, hs3⟩
        have HS3 : Hid (Sim w10 u3) := Lib.hid (sim_trans (sim_trans HSR.out (show Sim wr wr.drew from ⟨rfl, rfl, rfl, rfl⟩)) hs3)
        have y1 := (cell_sim HS3.out _).trans n1
        have y0 := (cell_sim HS3.out _).trans n0
        have x1 := (cell_sim HS3.out _).trans c2
        clear hs3
        go_wp2
        refine holds HS3.out ?_
        refine chain_end ?_; simp only [List.length_cons, List.length_nil, Nat.zero_add, Nat.reduceAdd, List.drop_succ_cons, List.drop_zero]; go_wp2; refine headed ?_; go_wp2_with fail
        go_roundw
        case rel => exact ⟨a + 1, by omega, by go_num, HS3⟩
        case measure => simp [intOf]; omega
    · obtain rfl : a = n := by omega
      go_wp2
      go_ret
      exact ⟨rfl, below_sim HBF.out HSR.out⟩
theorem mergeSame_all (n : Int) (A : Option Addr) (m cap : Nat) (M : Mv) (w : World) (_ : (Lit.int .i64 n).wf = true) (hmc : m ≤ cap ∧ cap ≤ maxLen) (hr : Rd w w.heap.size A (m * 4) (mvF M)) :
    Calls Try.prog 3 #[.int .i64 n, .slice A m cap] w fun e w' => e = .returned (.bool true) ∧ Below w.heap.size w w' := by
  by_cases h : 20 < m
  · exact mergeSame_long n A m cap w (by omega) h
  · by_cases h1 : n < 1
    · exact mergeSame_bad n 0 A m cap M w hr (by omega) (.inl ⟨h1, rfl⟩)
    · by_cases h6 : 6 < n
      · exact mergeSame_bad n 5 A m cap M w hr (by omega) (.inr ⟨h6, rfl⟩)
      · obtain ⟨n, rfl⟩ := Int.eq_ofNat_of_zero_le (show 0 ≤ n by omega)
        exact mergeSame_good n (n - 1) A m cap M w hr (by omega) (by omega) (by omega)
end Go.Proofs.Ytdgegbdkimdpjaa
