/- The walks of logs' 'stand', 'vote'. -/
import Derived.Test.YtfhmabpalimcnaaLg3
set_option linter.unusedVariables false
set_option linter.unusedSimpArgs false
namespace Go.Proofs.Ytfhmabpalimcnaa
open Go.RowKit

section
variable (g gl n : Nat) (e : ES) (A : Option Addr) (cap : Nat) (R : List LRow) (w0 w : World)
theorem role_any (i : Nat) (hi : i < n) (x : Int) (hx : e.R i = x) (h : Lay w0 w (rowsE g gl n e A cap R)) :
    Calls Try.prog 16 #[.pointer (some ⟨g, 0, none⟩), .int .i64 i] w fun r w' => r = .returned (.int .i64 x) ∧ Lay w0 w' (rowsE g gl n e A cap R) := by
  subst hx
  have H := Lib.hid h; clear h
  obtain ⟨c0, c1⟩ := el_heads H.out
  obtain ⟨r0, r1, r2, r3⟩ := el_cells H.out (i := i) hi
  go_enter Try.func16, Try.ntmps16
  go_wp2
  go_ret
  exact ⟨rfl, H.out⟩
theorem term_any (i : Nat) (hi : i < n) (h : Lay w0 w (rowsE g gl n e A cap R)) :
    Calls Try.prog 15 #[.pointer (some ⟨g, 0, none⟩), .int .i64 i] w fun r w' => r = .returned (.int .i64 (e.T i : Nat)) ∧ Lay w0 w' (rowsE g gl n e A cap R) := by
  have H := Lib.hid h; clear h
  obtain ⟨c0, c1⟩ := el_heads H.out
  obtain ⟨r0, r1, r2, r3⟩ := el_cells H.out (i := i) hi
  go_enter Try.func15, Try.ntmps15
  go_wp2
  go_ret
  exact ⟨rfl, H.out⟩
end
section
variable (gg g gl lo n : Nat) (s : LS) (A : Option Addr) (cap : Nat) (a : LA) (R : List LRow) (w0 w : World)
set_option maxRecDepth 100000 in
set_option maxHeartbeats 1000000 in
theorem standL_any (i : Nat) (hi : i < n) (hn : n ≤ 6) (hB : LB n 100 s) (hd : LdOk n a s) (h : Lay w0 w (rowsG gg g gl lo n s A cap a R)) :
    Calls Try.prog 20 #[.pointer (some ⟨gg, 0, none⟩), .int .i64 i] w fun e w' => e = .returned (.int .i64 (standL n i s).1) ∧ ∃ A' cap' a', LdOk n a' (standL n i s).2 ∧ Lay w0 w' (rowsG gg g gl lo n (standL n i s).2 A' cap' a' R) := by
  have H := Lib.hid h; clear h
  obtain ⟨r, hr⟩ : ∃ r, r = standL n i s := ⟨_, rfl⟩
  rw [← hr]
  unfold standL at hr
  have hcode : (standS n i s.e).1 = 7 ∨ (standS n i s.e).1 = 0 := by unfold standS; split <;> simp
  obtain ⟨d0, d1⟩ := lg_heads H.out
  go_enter Try.func20, Try.ntmps20
  go_wp2_with fail
  refine (stand_any g gl n s.e A cap _ w0 _ i hi hn (hB.e.T i) (by have := hB.e.led; omega) H.out).mono ?_
  rintro e w1 ⟨rfl, A1, c1, h1⟩
  generalize standS n i s.e = q at hr hcode h1 ⊢
  obtain ⟨q1, q2⟩ := q
  have H1 : Hid (Lay w0 w1 (rowsG gg g gl lo n (setEL s q2) A1 c1 a R)) := Lib.hid h1
  have HR := Lib.hid hr
  clear h1 hr H d0 d1
  obtain ⟨d0, d1⟩ := lg_heads H1.out
  rcases hcode with rfl | rfl
  · have HR2 := Lib.hid (HR.out.trans (if_neg (fun h => absurd h.1 (by simp))))
    clear HR
    go_wp2
    go_ret
    have e9 := HR2.out
    subst e9
    exact ⟨rfl, A1, c1, a, hd, H1.out⟩
  · by_cases hR : q2.R i = 2
    · have HR2 := Lib.hid (HR.out.trans (if_pos ⟨rfl, hR⟩))
      clear HR
      go_wp2_with fail
      refine (role_any g gl n q2 A1 c1 _ w0 _ i hi 2 hR H1.out).mono ?_
      rintro e w2 ⟨rfl, h2⟩
      have H2 : Hid (Lay w0 w2 (rowsG gg g gl lo n (setEL s q2) A1 c1 a R)) := Lib.hid h2
      clear h2 H1
      go_wp2_with fail
      refine (lead_any gg g gl lo n (setEL s q2) A1 c1 a R w0 _ i hi hn (hB.len i) H2.out).mono ?_
      rintro e w3 ⟨rfl, b, b', h3⟩
      have H3 := Lib.hid h3
      clear h3 H2
      go_wp2
      go_ret
      have e9 := HR2.out
      subst e9
      exact ⟨rfl, A1, c1, _, LdOk.lead (s := setEL s q2) hd i b b', H3.out⟩
    · have HR2 := Lib.hid (HR.out.trans (if_neg (fun h => hR h.2)))
      clear HR
      have e1 : (q2.R i == 2) = false := by simpa using hR
      go_wp2_with fail
      refine (role_any g gl n q2 A1 c1 _ w0 _ i hi _ rfl H1.out).mono ?_
      rintro e w2 ⟨rfl, h2⟩
      have H2 : Hid (Lay w0 w2 (rowsG gg g gl lo n (setEL s q2) A1 c1 a R)) := Lib.hid h2
      clear h2 H1
      go_wp2
      go_ret
      have e9 := HR2.out
      subst e9
      exact ⟨rfl, A1, c1, a, hd, H2.out⟩
set_option maxRecDepth 100000 in
set_option maxHeartbeats 1000000 in
theorem voteL_any (i t : Nat) (hi : i < n) (ht : t < n) (hit : i ≠ t) (hn : n ≤ 6) (hB : LB n 100 s) (hd : LdOk n a s) (h : Lay w0 w (rowsG gg g gl lo n s A cap a R)) :
    Calls Try.prog 21 #[.pointer (some ⟨gg, 0, none⟩), .int .i64 i, .int .i64 t] w fun e w' => e = .returned (.int .i64 (voteL n i t s).1) ∧ ∃ A' cap' a', LdOk n a' (voteL n i t s).2 ∧ Lay w0 w' (rowsG gg g gl lo n (voteL n i t s).2 A' cap' a' R) := by
  have H := Lib.hid h; clear h
  obtain ⟨r, hr⟩ : ∃ r, r = voteL n i t s := ⟨_, rfl⟩
  rw [← hr]
  unfold voteL at hr
  have HR := Lib.hid hr
  clear hr
  obtain ⟨d0, d1⟩ := lg_heads H.out
  obtain ⟨b, hb⟩ : ∃ b, (s.e.R t == 2) = b := ⟨_, rfl⟩
  go_enter Try.func21, Try.ntmps21
  go_wp2_with fail
  refine (role_any g gl n s.e A cap _ w0 _ t ht _ rfl H.out).mono ?_
  rintro e w1 ⟨rfl, h1⟩
  have H1 : Hid (Lay w0 w1 (rowsG gg g gl lo n s A cap a R)) := Lib.hid h1
  clear h1 H d0 d1
  obtain ⟨d0, d1⟩ := lg_heads H1.out
  go_wp2
  refine wp_held_mask (fun W => W.cell? ⟨gg, 0, none⟩ = some (.pointer (some ⟨g, 0, none⟩)) ∧ W.cell? ⟨gg, 1, none⟩ = some (.slice (some ⟨lo, 0, none⟩) n n)) [true, true, true, true, true, true, true, true, true, true, true, true, true, true, true, true, true, true, false, false, false] ?A1 (by kernel_rfl) rfl (by kernel_rfl) (by repeat' (first | (with_reducible apply tame_then) | (with_reducible apply tame_block) | (with_reducible apply tame_scope) | exact tame_gives | exact tame_body (fun _ _ h => ⟨_, h.1⟩))) ⟨d0, d1⟩ ?head ?tail
  case head =>
    intro W5 ⟨s0, s1⟩
    simp only [pick]
    go_wp2
    exact taken
  case tail =>
    simp only [pick, List.map_cons, List.map_nil, Bool.not_true, Bool.not_false]
    refine tail_step ?_
    go_wp2_with fail
    refine (good_any gg g gl lo n s A cap a R w0 _ t i ht hi hB.len H1.out.drew).mono ?_
    rintro e w2 ⟨rfl, h2⟩
    have H2 := Lib.hid h2
    clear h2 H1
    go_wp2
    refine holds (lg_heads H2.out) ?_
    refine tail_step ?_
    go_wp2_with fail
    generalize goodL (s.lg t) (s.lg i) = gd at HR ⊢
    refine (vote_any g gl n s.e A cap _ w0 _ i t gd hi ht hit hn hB.e H2.out).mono ?_
    rintro e w3 ⟨rfl, A3, c3, h3⟩
    generalize voteS n i t gd s.e = q at HR h3 ⊢
    obtain ⟨q1, q2⟩ := q
    have H3 : Hid (Lay w0 w3 (rowsG gg g gl lo n (setEL s q2) A3 c3 a R)) := Lib.hid h3
    clear h3 H2 d0 d1
    go_wp2
    refine holds (lg_heads H3.out) ?_
    refine tail_last ?_
    obtain ⟨d0, d1⟩ := lg_heads H3.out
    cases b
    · have hne : s.e.R t ≠ 2 := by simpa using hb
      by_cases hR : q2.R t = 2
      · have HR2 := Lib.hid (HR.out.trans (if_pos ⟨hne, hR⟩))
        clear HR hne
        go_wp2_with fail
        refine (role_any g gl n q2 A3 c3 _ w0 _ t ht 2 hR H3.out).mono ?_
        rintro e w4 ⟨rfl, h4⟩
        have H4 : Hid (Lay w0 w4 (rowsG gg g gl lo n (setEL s q2) A3 c3 a R)) := Lib.hid h4
        clear h4 H3
        go_wp2_with fail
        refine (lead_any gg g gl lo n (setEL s q2) A3 c3 a R w0 _ t ht hn (hB.len t) H4.out).mono ?_
        rintro e w5 ⟨rfl, b, b', h5⟩
        have H5 := Lib.hid h5
        clear h5 H4
        go_wp2
        go_ret
        have e9 := HR2.out
        subst e9
        exact ⟨rfl, A3, c3, _, LdOk.lead (s := setEL s q2) hd t b b', H5.out⟩
      · have HR2 := Lib.hid (HR.out.trans (if_neg (fun h => hR h.2)))
        clear HR hne
        have e1 : (q2.R t == 2) = false := by simpa using hR
        go_wp2_with fail
        refine (role_any g gl n q2 A3 c3 _ w0 _ t ht _ rfl H3.out).mono ?_
        rintro e w4 ⟨rfl, h4⟩
        have H4 : Hid (Lay w0 w4 (rowsG gg g gl lo n (setEL s q2) A3 c3 a R)) := Lib.hid h4
        clear h4 H3
        go_wp2
        go_ret
        have e9 := HR2.out
        subst e9
        exact ⟨rfl, A3, c3, a, hd, H4.out⟩
    · have hR : s.e.R t = 2 := by simpa using hb
      have HR2 := Lib.hid (HR.out.trans (if_neg (fun h => h.1 hR)))
      clear HR hR
      go_wp2
      go_ret
      have e9 := HR2.out
      subst e9
      exact ⟨rfl, A3, c3, a, hd, H3.out⟩
end
end Go.Proofs.Ytfhmabpalimcnaa
