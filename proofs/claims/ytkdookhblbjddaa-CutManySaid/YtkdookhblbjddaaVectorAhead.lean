/- The laws VectorAhead and VectorOne, walked. -/
import Derived.Test.YtkdookhblbjddaaVectors
import Derived.Test.YtkdookhblbjddaaTickMirsky
import Derived.Test.YtkdookhblbjddaaPhase
set_option linter.unusedVariables false
set_option linter.unusedSimpArgs false
namespace Go.Proofs.Ytkdookhblbjddaa
open Go.RowKit

theorem less_any (b : Bool) (n cap B : Nat) (A : Option Addr) (f : Nat → Int) (cap2 B2 : Nat) (A2 : Option Addr) (g : Nat → Int) (w : World) (hn : 1 ≤ n ∧ n ≤ 6) (hr : Rd w B A n (numV f)) (hr2 : Rd w B2 A2 n (numV g)) (hc : vecCode f n g n = 0) (hb : (underB f g n && !underB g f n) = b) :
    Calls Try.prog 24 #[.slice A n cap, .slice A2 n cap2] w fun e w' => e = .returned (.tuple #[.bool b, .int .i64 0]) ∧ w = w' := by
  have HC := Lib.hid (int_is (vcheck_any f n cap B A g n cap2 B2 A2 w (by unfold maxLen; omega) (by unfold maxLen; omega) hr hr2) hc)
  obtain ⟨x, hx⟩ : ∃ x, underB f g n = x := ⟨_, rfl⟩
  obtain ⟨y, hy⟩ : ∃ y, underB g f n = y := ⟨_, rfl⟩
  have HU := Lib.hid (under_any n cap2 B2 A2 g cap B A f w y hn hr2 hr hy)
  have HU2 := Lib.hid (under_any n cap B A f cap2 B2 A2 g w x hn hr hr2 hx)
  rw [hx, hy] at hb
  subst hb
  clear hr hr2 hc hx hy
  go_enter Try.func24, Try.ntmps24
  go_wp2_with fail
  refine HC.out.mono ?_
  rintro e w1 ⟨rfl, rfl⟩
  go_wp2_with fail
  refine HU2.out.mono ?_
  rintro e w1 ⟨rfl, rfl⟩
  cases x
  · go_wp2
    go_ret2
    exact ⟨rfl, rfl⟩
  · go_wp2_with fail
    refine HU.out.mono ?_
    rintro e w1 ⟨rfl, rfl⟩
    go_wp2
    go_ret2
    exact ⟨rfl, rfl⟩
theorem nat_pos (f : Nat → Nat) (n : Nat) : negB (fun t => (f t : Int)) n = false := anyTo_no.2 fun j _ => by simp
theorem nat_code {n : Nat} (hn : 1 ≤ n ∧ n ≤ 6) (f g : Nat → Nat) : vecCode (fun t => (f t : Int)) n (fun t => (g t : Int)) n = 0 := vecCode_mk hn (nat_pos f n) (nat_pos g n)
theorem under_nat (f g : Nat → Nat) (n : Nat) : underB (fun t => (f t : Int)) (fun t => (g t : Int)) n = true ↔ ∀ t, t < n → f t ≤ g t := by
  unfold underB
  rw [Bool.not_eq_true', anyTo_no]
  refine forall_congr' fun t => forall_congr' fun _ => ?_
  rw [decide_eq_false_iff_not]
  dsimp only
  omega
theorem run_pos {n : Int} {E : Ev} {len : Nat} (hg : runCode n E len = 0) : (∀ i, i < len → 0 ≤ E.p i) ∧ ∀ i, i < len → E.p i < n := by
  obtain ⟨_, hok⟩ := runCode_ok hg
  exact ⟨fun i hi => (evCode_ok (hok i hi)).1.1, fun i hi => (evCode_ok (hok i hi)).1.2⟩
theorem less_hb {n : Nat} {E : Ev} {len i j : Nat} (hg : runCode n E len = 0) (hi : i < len) (hj : j < len) : (underB (fun t => (vecV E i t : Int)) (fun t => (vecV E j t : Int)) n && !underB (fun t => (vecV E j t : Int)) (fun t => (vecV E i t : Int)) n) = (pastW E j).testBit i := by
  obtain ⟨h1, h2⟩ := run_pos hg
  rw [Bool.eq_iff_iff, Bool.and_eq_true, Bool.not_eq_true', ← Bool.not_eq_true, under_nat, under_nat]
  exact (vec_less h1 hi hj h2).symm

set_option maxHeartbeats 800000 in
theorem vectorAhead_bad (n i j : Int) (A : Option Addr) (len cap : Nat) (E : Ev) (w : World) (hlc : len ≤ cap) (hm : len ≤ maxLen) (hr : Rd w w.heap.size A (len * 3) (evF E)) (hbad : runCode n E len ≠ 0) :
    Calls Try.prog 11 #[.int .i64 n, .slice A len cap, .int .i64 i, .int .i64 j] w fun e w' => e = .returned (.bool true) ∧ Below w.heap.size w w' := by
  have H1 := Lib.hid (vectors_bad n A len cap w.heap.size E w hm (Nat.le_refl _) hr hbad)
  have H2 := Lib.hid (fun (W : World) (hb : Below w.heap.size w W) => ahead_bad n i j A len cap w.heap.size E W hm hb.size (hr.below hb) hbad)
  have H3 := Lib.hid (fun (W : World) (hb : Below w.heap.size w W) => bool_is_b (ran_any n A len cap w.heap.size E W hlc hm hb.size (hr.below hb)) (beq_eq_false_iff_ne.2 hbad))
  have hb1 : (runCode n E len == 0) = false := beq_eq_false_iff_ne.2 hbad
  have hb2 : (runCode n E len != 0) = true := bne_iff_ne.2 hbad
  clear hbad hr
  generalize runCode n E len = c at *
  go_enter Try.func11, Try.ntmps11
  go_wp2_with fail
  refine H1.out.mono ?_
  rintro e w1 ⟨rfl, hb⟩
  have HB1 := Lib.hid hb; clear hb
  go_wp2_with fail
  refine (H2.out w1 HB1.out).mono ?_
  rintro e w2 ⟨rfl, hb⟩
  have HB2 := Lib.hid (HB1.out.trans (hb.mono HB1.out.size)); clear hb
  go_wp2_with fail
  refine (H3.out w2 HB2.out).mono ?_
  rintro e w3 ⟨rfl, hb⟩
  have HB3 := Lib.hid (HB2.out.trans (hb.mono HB2.out.size)); clear hb
  go_wp2
  go_ret
  exact ⟨rfl, HB3.out⟩
set_option maxHeartbeats 800000 in
theorem vectorOne_bad (n i j : Int) (A : Option Addr) (len cap : Nat) (E : Ev) (w : World) (hlc : len ≤ cap) (hm : len ≤ maxLen) (hr : Rd w w.heap.size A (len * 3) (evF E)) (hbad : runCode n E len ≠ 0) :
    Calls Try.prog 10 #[.int .i64 n, .slice A len cap, .int .i64 i, .int .i64 j] w fun e w' => e = .returned (.bool true) ∧ Below w.heap.size w w' := by
  have H1 := Lib.hid (vectors_bad n A len cap w.heap.size E w hm (Nat.le_refl _) hr hbad)
  have H3 := Lib.hid (fun (W : World) (hb : Below w.heap.size w W) => bool_is_b (ran_any n A len cap w.heap.size E W hlc hm hb.size (hr.below hb)) (beq_eq_false_iff_ne.2 hbad))
  have hb1 : (runCode n E len == 0) = false := beq_eq_false_iff_ne.2 hbad
  have hb2 : (runCode n E len != 0) = true := bne_iff_ne.2 hbad
  clear hbad hr
  generalize runCode n E len = c at *
  go_enter Try.func10, Try.ntmps10
  go_wp2_with fail
  refine H1.out.mono ?_
  rintro e w1 ⟨rfl, hb⟩
  have HB1 := Lib.hid hb; clear hb
  go_wp2_with fail
  refine (H3.out w1 HB1.out).mono ?_
  rintro e w3 ⟨rfl, hb⟩
  have HB3 := Lib.hid (HB1.out.trans (hb.mono HB1.out.size)); clear hb
  go_wp2
  go_ret
  exact ⟨rfl, HB3.out⟩
set_option maxRecDepth 100000 in
set_option maxHeartbeats 2000000 in
theorem vectorAhead_good (n : Nat) (i j : Int) (A : Option Addr) (len cap : Nat) (E : Ev) (w : World) (hlc : len ≤ cap) (hm : len ≤ maxLen) (hr : Rd w w.heap.size A (len * 3) (evF E)) (hg : runCode n E len = 0) :
    Calls Try.prog 11 #[.int .i64 (n : Nat), .slice A len cap, .int .i64 i, .int .i64 j] w fun e w' => e = .returned (.bool true) ∧ Below w.heap.size w w' := by
  obtain ⟨n1, n6, h30⟩ := (runCode_ok hg).1
  have H1 := Lib.hid (vectors_good n A len cap E w hr hg)
  have H3 := Lib.hid (fun (W : World) (hb : Below w.heap.size w W) => bool_is_b (ran_any n A len cap w.heap.size E W hlc hm hb.size (hr.below hb)) (show (runCode n E len == 0) = true by rw [hg]; rfl))
  have HAH : Hid (∀ (W : World) (b : Bool) (x y : Nat), Below w.heap.size w W → x < len → y < len → (pastW E y).testBit x = b → Calls Try.prog 15 #[.int .i64 (n : Nat), .slice A len cap, .int .i64 (x : Nat), .int .i64 (y : Nat)] W fun e w' => e = .returned (.tuple #[.bool b, .int .i64 0]) ∧ Below W.heap.size W w') :=
    Lib.hid fun W b x y hb hx hy hh => ahead_is b n x y A len cap w.heap.size E W hm hb.size (hr.below hb) hg hx hy hh
  have HAO : Hid (∀ (W : World), Below w.heap.size w W → ¬ ((0 ≤ i ∧ i < len) ∧ 0 ≤ j ∧ j < len) → ∃ c : Int, c ≠ 0 ∧ Calls Try.prog 15 #[.int .i64 (n : Nat), .slice A len cap, .int .i64 i, .int .i64 j] W fun e w' => e = .returned (.tuple #[.bool false, .int .i64 c]) ∧ Below W.heap.size W w') :=
    Lib.hid fun W hb h => ahead_no n i j A len cap w.heap.size E W hm hb.size (hr.below hb) (.inr h)
  have HLESS := Lib.hid (fun (x y : Nat) (hx : x < len) (hy : y < len) => less_hb (n := n) hg hx hy)
  clear hg hr hm
  go_enter Try.func11, Try.ntmps11
  go_wp2_with fail
  refine H1.out.mono ?_
  rintro e w1 ⟨v, rfl, u, rfl, VR, Ao, co, oF, rfl, hL, hV⟩
  have HL1 := Lib.hid hL
  have HV := Lib.hid hV
  clear hL hV H1
  by_cases hij : (0 ≤ i ∧ i < len) ∧ 0 ≤ j ∧ j < len
  · obtain ⟨⟨i0, i1⟩, j0, j1⟩ := hij
    obtain ⟨i, rfl⟩ := Int.eq_ofNat_of_zero_le i0
    obtain ⟨j, rfl⟩ := Int.eq_ofNat_of_zero_le j0
    have hi : i < len := by omega
    have hj : j < len := by omega
    obtain ⟨a, ha⟩ : ∃ a, (pastW E j).testBit i = a := ⟨_, rfl⟩
    have HA := Lib.hid ha
    have HLE := Lib.hid ((HLESS.out i j hi hj).trans ha)
    clear ha HLESS
    go_wp2_with fail
    refine (HAH.out w1 a i j HL1.out.bel hi hj HA.out).mono ?_
    rintro e w2 ⟨rfl, hb⟩
    have HL2 := Lib.hid (HL1.out.keep hb); clear hb HL1
    go_wp2_with fail
    refine (H3.out w2 HL2.out.bel).mono ?_
    rintro e w3 ⟨rfl, hb⟩
    have HL3 := Lib.hid (HL2.out.keep hb); clear hb HL2
    go_wp2_with fail
    refine (inside2 true len i j _ _ _ rfl (by simp; omega)).mono ?_
    rintro e w4 ⟨rfl, rfl⟩
    have HL4 := Lib.hid (HL3.out.alloc (.cells #[.int .i64 (i : Nat), .int .i64 (j : Nat)] 3))
    generalize w3.alloc (.cells #[.int .i64 (i : Nat), .int .i64 (j : Nat)] 3) = w4 at HL4 ⊢
    clear HL3
    obtain ⟨k1, g1, c1, hk1, hv1⟩ := HV.out i hi
    obtain ⟨k2, g2, c2, hk2, hv2⟩ := HV.out j hj
    obtain ⟨go, rfl, -⟩ := (HL4.out.own 0 _ rfl).pos (by show 0 < len; omega)
    have e1 := HL4.out.cell1 0 rfl hi
    have e2 := HL4.out.cell1 0 rfl hj
    rw [hv1] at e1
    rw [hv2] at e2
    have hgo := (HL4.out.at_ 0 rfl).2
    have HLL := Lib.hid (less_any a n c1 _ _ _ c2 _ _ _ w4.drew ⟨by omega, by omega⟩ (HL4.out.drew.rd1 (k1 + 1) hk1) (HL4.out.drew.rd1 (k2 + 1) hk2) (nat_code ⟨by omega, by omega⟩ _ _) HLE.out)
    have HB4 := Lib.hid HL4.out.bel.drew
    clear hk1 hk2 hv1 hv2 HL4
    go_wp2
    refine wp_phase (fun W => W.cell? ⟨go, i, none⟩ = some (.slice (some ⟨g1, 0, none⟩) n c1) ∧ W.cell? ⟨go, j, none⟩ = some (.slice (some ⟨g2, 0, none⟩) n c2)) [true, true, true, true, true, true, true, true, false] ?A1 (by kernel_rfl) (by decide) (by kernel_rfl) (by repeat' (first | (with_reducible apply tame_then) | (with_reducible apply tame_block) | (with_reducible apply tame_scope) | exact tame_gives | exact tame_body (fun _ _ h => ⟨_, h.1⟩))) ⟨e1, e2⟩ ?head1 ?tail1
    case head1 =>
      intro W5 ⟨s0, s1⟩
      simp only [pick]
      go_wp2
      exact taken
    case tail1 =>
      simp only [pick, List.map_cons, List.map_nil, Bool.not_true, Bool.not_false]; refine chain_step ?_
      go_wp2_with fail
      refine HLL.out.mono ?_
      rintro e u3 ⟨rfl, rfl⟩
      have HS5 : Hid (w4.drew.cell? ⟨go, i, none⟩ = some (.slice (some ⟨g1, 0, none⟩) n c1) ∧ w4.drew.cell? ⟨go, j, none⟩ = some (.slice (some ⟨g2, 0, none⟩) n c2)) := Lib.hid ⟨e1, e2⟩
      go_wp2
      refine holds HS5.out ?_
      refine chain_end ?_; simp only [List.length_cons, List.length_nil, Nat.zero_add, Nat.reduceAdd, List.drop_succ_cons, List.drop_zero]; go_wp2; refine headed ?_; go_wp2_with fail
      cases a
      all_goals
        go_wp2
        go_ret
        exact ⟨rfl, HB4.out⟩
  · obtain ⟨c, hc, hcall⟩ := HAO.out w1 HL1.out.bel hij
    have HCALL := Lib.hid hcall
    have hc2 : (c != 0) = true := bne_iff_ne.2 hc
    have HIJ := Lib.hid hij
    clear hcall hc hij
    go_wp2_with fail
    refine HCALL.out.mono ?_
    rintro e w2 ⟨rfl, hb⟩
    have HL2 := Lib.hid (HL1.out.keep hb); clear hb HL1
    go_wp2_with fail
    refine (H3.out w2 HL2.out.bel).mono ?_
    rintro e w3 ⟨rfl, hb⟩
    have HL3 := Lib.hid (HL2.out.keep hb); clear hb HL2
    go_wp2_with fail
    refine (inside2 false len i j _ _ _ rfl (by
      rw [← Bool.not_eq_true]
      simp only [Bool.and_eq_true, decide_eq_true_iff]
      exact HIJ.out)).mono ?_
    rintro e w4 ⟨rfl, rfl⟩
    go_wp2
    go_ret
    exact ⟨rfl, (HL3.out.alloc _).bel⟩
theorem vectorAhead_all (n : Int) (A : Option Addr) (len cap : Nat) (E : Ev) (i j : Int) (w : World) (_ : (Lit.int .i64 n).wf = true) (hmc : len ≤ cap ∧ cap ≤ maxLen) (hr : Rd w w.heap.size A (len * 3) (evF E))
    (_ : (Lit.int .i64 i).wf = true) (_ : (Lit.int .i64 j).wf = true) :
    Calls Try.prog 11 #[.int .i64 n, .slice A len cap, .int .i64 i, .int .i64 j] w fun e w' => e = .returned (.bool true) ∧ Below w.heap.size w w' := by
  by_cases hg : runCode n E len = 0
  · obtain ⟨k, rfl⟩ := Int.eq_ofNat_of_zero_le (by have := (runCode_ok hg).1.1; omega : 0 ≤ n)
    exact vectorAhead_good k i j A len cap E w hmc.1 (by omega) hr hg
  · exact vectorAhead_bad n i j A len cap E w hmc.1 (by omega) hr hg
end Go.Proofs.Ytkdookhblbjddaa
