/- The law VectorOne, walked. -/
import Derived.Test.YtkdookhblbjddaaVectorAhead
set_option linter.unusedVariables false
set_option linter.unusedSimpArgs false
namespace Go.Proofs.Ytkdookhblbjddaa
open Go.RowKit

set_option maxRecDepth 100000 in
set_option maxHeartbeats 2000000 in
theorem vectorOne_good (n : Nat) (i j : Int) (A : Option Addr) (len cap : Nat) (E : Ev) (w : World) (hlc : len ≤ cap) (hm : len ≤ maxLen) (hr : Rd w w.heap.size A (len * 3) (evF E)) (hg : runCode n E len = 0) :
    Calls Try.prog 10 #[.int .i64 (n : Nat), .slice A len cap, .int .i64 i, .int .i64 j] w fun e w' => e = .returned (.bool true) ∧ Below w.heap.size w w' := by
  obtain ⟨n1, n6, h30⟩ := (runCode_ok hg).1
  have H1 := Lib.hid (vectors_good n A len cap E w hr hg)
  have H3 := Lib.hid (fun (W : World) (hb : Below w.heap.size w W) => bool_is_b (ran_any n A len cap w.heap.size E W hlc hm hb.size (hr.below hb)) (show (runCode n E len == 0) = true by rw [hg]; rfl))
  have HAH : Hid (∀ (W : World) (b : Bool) (x y : Nat), Below w.heap.size w W → x < len → y < len → (pastW E y).testBit x = b → Calls Try.prog 15 #[.int .i64 (n : Nat), .slice A len cap, .int .i64 (x : Nat), .int .i64 (y : Nat)] W fun e w' => e = .returned (.tuple #[.bool b, .int .i64 0]) ∧ Below W.heap.size W w') :=
    Lib.hid fun W b x y hb hx hy hh => ahead_is b n x y A len cap w.heap.size E W hm hb.size (hr.below hb) hg hx hy hh
  have HONE := Lib.hid (fun (x y p : Nat) (hx : x < len) (hy : y < len) (hp : E.p x = p) (hne : E.p x ≠ E.p y) => vec_one (run_pos hg).1 hx hy hp hne)
  have HPR : Hid (∀ x, x < len → ∃ q : Nat, E.p x = q ∧ q < n) := Lib.hid fun x hx => ev_proc hg hx
  have HVL : Hid (∀ x, x < len → ∀ t, vecV E x t ≤ 30) := Lib.hid fun x hx t => by
    have := vec_le' (run_pos hg).1 hx t
    have := cntP_le E t len
    omega
  have HR := Lib.hid hr
  clear hg hr hm
  go_enter Try.func10, Try.ntmps10
  go_wp2_with fail
  refine H1.out.mono ?_
  rintro e w1 ⟨v, rfl, u, rfl, VR, Ao, co, oF, rfl, hL, hV⟩
  have HL1 := Lib.hid hL
  have HV := Lib.hid hV
  clear hL hV H1
  go_wp2_with fail
  refine (H3.out w1 HL1.out.bel).mono ?_
  rintro e w3 ⟨rfl, hb⟩
  have HL3 := Lib.hid (HL1.out.keep hb); clear hb HL1
  have HB4 : Hid (∀ o, Below w.heap.size w (w3.alloc o).drew) := Lib.hid fun o => ((HL3.out.alloc o).drew).bel
  by_cases hij : (0 ≤ i ∧ i < len) ∧ 0 ≤ j ∧ j < len
  · obtain ⟨⟨i0, i1⟩, j0, j1⟩ := hij
    obtain ⟨i, rfl⟩ := Int.eq_ofNat_of_zero_le i0
    obtain ⟨j, rfl⟩ := Int.eq_ofNat_of_zero_le j0
    have hi : i < len := by omega
    have hj : j < len := by omega
    have HIN : Hid ((decide (0 ≤ (i : Int) ∧ (i : Int) < len) && decide (0 ≤ (j : Int) ∧ (j : Int) < len)) = true) := Lib.hid (by simp; omega)
    have HRI : Hid (Rd (w3.alloc (.cells #[.int .i64 (i : Nat), .int .i64 (j : Nat)] 3)).drew (w3.heap.size + 1) (some ⟨w3.heap.size, 0, none⟩) 2 (fun t => Value.int .i64 (twoF i j t))) := Lib.hid ((cell_new w3 _ _ (fun t => Value.int .i64 (twoF i j t)) _ rfl (twoF_cells i j)).below (Below.refl _ _).drew)
    obtain ⟨ad, rfl, hbl, p0, -, -⟩ := (HR.out.below HL3.out.bel).rec3 hi
    obtain ⟨ad2, h2, -, q0, -, -⟩ := (HR.out.below HL3.out.bel).rec3 hj
    obtain rfl : ad = ad2 := by injection h2
    clear h2
    have hzz := HL3.out.size
    have hb1 : (ad.add (i * 3)).block < w3.heap.size := by rw [addr_block]; omega
    have hb2 : (ad.add (j * 3)).block < w3.heap.size := by rw [addr_block]; omega
    obtain ⟨p, hp, hpn⟩ := HPR.out i hi
    obtain ⟨q, hq, hqn⟩ := HPR.out j hj
    rw [hp] at p0
    rw [hq] at q0
    by_cases hpq : p = q
    · have hd : ((p : Int) == (q : Int)) = true := by simp [hpq]
      clear hp hq hpq
      go_wp2
      refine wp_phase (fun _ => True) [true, true, true, true, false, false] ?A1 (by kernel_rfl) (by decide) (by kernel_rfl) (by repeat' (first | (with_reducible apply tame_then) | (with_reducible apply tame_block) | (with_reducible apply tame_scope) | exact tame_gives | exact tame_body (fun _ _ h => ⟨_, h.1⟩))) trivial ?head1 ?tail1
      case head1 =>
        intro W5 _
        simp only [pick]
        go_wp2
        exact taken
      case' tail1 =>
        simp only [pick, List.map_cons, List.map_nil, Bool.not_true, Bool.not_false]; refine chain_step ?_
        go_wp2
        refine holds trivial ?_
        refine chain_step ?_
        go_wp2_with fail
        refine (inside_is true len _ 2 2 (w3.heap.size + 1) (twoF i j) _ htwo HRI.out (two_in HIN.out)).mono ?_
        rintro e u3 ⟨rfl, rfl⟩
        go_wp2
        refine holds trivial ?_
        refine chain_end ?_; simp only [List.length_cons, List.length_nil, Nat.zero_add, Nat.reduceAdd, List.drop_succ_cons, List.drop_zero]; go_wp2; refine headed ?_; go_wp2_with fail
      go_ret
      exact ⟨rfl, HB4.out _⟩
    · have hd : ((p : Int) == (q : Int)) = false := by rw [beq_eq_false_iff_ne]; exact fun h => hpq (Int.ofNat_inj.1 h)
      have HO := Lib.hid (HONE.out i j p hi hj hp (by rw [hp, hq]; exact fun h => hpq (Int.ofNat_inj.1 h)))
      clear hp hq hpq
      obtain ⟨k1, g1, c1, hk1, hv1⟩ := HV.out i hi
      obtain ⟨k2, g2, c2, hk2, hv2⟩ := HV.out j hj
      obtain ⟨go, rfl, -⟩ := (HL3.out.own 0 _ rfl).pos (by show 0 < len; omega)
      have e1 := HL3.out.cell1 0 rfl hi
      have e2 := HL3.out.cell1 0 rfl hj
      rw [hv1] at e1
      rw [hv2] at e2
      have hgo := (HL3.out.at_ 0 rfl).2
      have r1 := HL3.out.cell1 (k1 + 1) hk1 hpn
      have r2 := HL3.out.cell1 (k2 + 1) hk2 hpn
      have hg1 := (HL3.out.at_ (k1 + 1) hk1).2
      have hg2 := (HL3.out.at_ (k2 + 1) hk2).2
      unfold numN at r1 r2
      have b1 := HVL.out i hi p
      have b2 := HVL.out j hj p
      obtain ⟨a, ha⟩ : ∃ a, (pastW E j).testBit i = a := ⟨_, rfl⟩
      have HAX := Lib.hid (HAH.out _ a i j (HB4.out (.cells #[.int .i64 (i : Nat), .int .i64 (j : Nat)] 3)) hi hj ha)
      have HAB : Hid (a = true ↔ vecV E i p ≤ vecV E j p) := Lib.hid (by rw [← ha]; exact HO.out)
      clear ha hk1 hk2 hv1 hv2 HO
      generalize vecV E i p = x at r1 b1 HAB
      generalize vecV E j p = y at r2 b2 HAB
      go_wp2
      refine wp_phase (fun _ => True) [true, true, true, true, false, false] ?A2 (by kernel_rfl) (by decide) (by kernel_rfl) (by repeat' (first | (with_reducible apply tame_then) | (with_reducible apply tame_block) | (with_reducible apply tame_scope) | exact tame_gives | exact tame_body (fun _ _ h => ⟨_, h.1⟩))) trivial ?head2 ?tail2
      case head2 =>
        intro W5 _
        simp only [pick]
        go_wp2
        exact taken
      case' tail2 =>
        simp only [pick, List.map_cons, List.map_nil, Bool.not_true, Bool.not_false]; refine chain_step ?_
        go_wp2
        refine holds trivial ?_
        refine chain_step ?_
        go_wp2_with fail
        refine (inside_is true len _ 2 2 (w3.heap.size + 1) (twoF i j) _ htwo HRI.out (two_in HIN.out)).mono ?_
        rintro e u3 ⟨rfl, rfl⟩
        go_wp2
        refine holds trivial ?_
        refine chain_end ?_; simp only [List.length_cons, List.length_nil, Nat.zero_add, Nat.reduceAdd, List.drop_succ_cons, List.drop_zero]; go_wp2; refine headed ?_; go_wp2_with fail
      refine HAX.out.mono ?_
      rintro e w5 ⟨rfl, hb⟩
      have HB5 := Lib.hid ((HB4.out _).trans (hb.mono (HB4.out _).size))
      have e1' := (hb.cell (p := ⟨go, i, none⟩) (by simp; omega)).trans ((World.cell?_alloc_lt w3 _ _ hgo).trans e1)
      have e2' := (hb.cell (p := ⟨go, j, none⟩) (by simp; omega)).trans ((World.cell?_alloc_lt w3 _ _ hgo).trans e2)
      have r1' := (hb.cell (p := ⟨g1, p, none⟩) (by simp; omega)).trans ((World.cell?_alloc_lt w3 _ _ hg1).trans r1)
      have r2' := (hb.cell (p := ⟨g2, p, none⟩) (by simp; omega)).trans ((World.cell?_alloc_lt w3 _ _ hg2).trans r2)
      clear hb e1 e2 r1 r2 HRI
      cases a
      · have hxy : y < x := by
          apply Nat.lt_of_not_le
          intro h
          have := HAB.out.2 h
          cases this
        go_wp2
        refine wp_text_all (by kernel_rfl) (by kernel_rfl) (by kernel_rfl) (by repeat' (first | (with_reducible apply tame_then) | (with_reducible apply tame_block) | (with_reducible apply tame_scope) | exact tame_gives | exact tame_body (fun _ _ h => ⟨_, h.1⟩))) ?_
        go_wp2
        refine headed ?_
        go_wp2
        go_ret
        exact ⟨ret_bool (by simp; omega), HB5.out.drew⟩
      · have hxy : x ≤ y := HAB.out.1 rfl
        go_wp2
        refine wp_text_all (by kernel_rfl) (by kernel_rfl) (by kernel_rfl) (by repeat' (first | (with_reducible apply tame_then) | (with_reducible apply tame_block) | (with_reducible apply tame_scope) | exact tame_gives | exact tame_body (fun _ _ h => ⟨_, h.1⟩))) ?_
        go_wp2
        refine headed ?_
        go_wp2
        go_ret
        exact ⟨rfl, HB5.out.drew⟩
  · have HIN : Hid ((decide (0 ≤ i ∧ i < (len : Int)) && decide (0 ≤ j ∧ j < (len : Int))) = false) := Lib.hid (by
      rw [← Bool.not_eq_true, Bool.and_eq_true, decide_eq_true_iff, decide_eq_true_iff]
      exact hij)
    clear hij
    have HRI : Hid (Rd (w3.alloc (.cells #[.int .i64 i, .int .i64 j] 3)).drew (w3.heap.size + 1) (some ⟨w3.heap.size, 0, none⟩) 2 (fun t => Value.int .i64 (twoF i j t))) := Lib.hid ((cell_new w3 _ _ (fun t => Value.int .i64 (twoF i j t)) _ rfl (twoF_cells i j)).below (Below.refl _ _).drew)
    go_wp2
    refine wp_phase (fun _ => True) [true, true, true, true, false, false] ?A3 (by kernel_rfl) (by decide) (by kernel_rfl) (by repeat' (first | (with_reducible apply tame_then) | (with_reducible apply tame_block) | (with_reducible apply tame_scope) | exact tame_gives | exact tame_body (fun _ _ h => ⟨_, h.1⟩))) trivial ?head3 ?tail3
    case head3 =>
      intro W5 _
      simp only [pick]
      go_wp2
      exact taken
    case' tail3 =>
      simp only [pick, List.map_cons, List.map_nil, Bool.not_true, Bool.not_false]; refine chain_step ?_
      go_wp2
      refine holds trivial ?_
      refine chain_step ?_
      go_wp2_with fail
      refine (inside_is false len _ 2 2 (w3.heap.size + 1) (twoF i j) _ htwo HRI.out (two_in HIN.out)).mono ?_
      rintro e u3 ⟨rfl, rfl⟩
      go_wp2
      refine holds trivial ?_
      refine chain_end ?_; simp only [List.length_cons, List.length_nil, Nat.zero_add, Nat.reduceAdd, List.drop_succ_cons, List.drop_zero]; go_wp2; refine headed ?_; go_wp2_with fail
    go_ret
    exact ⟨rfl, HB4.out _⟩
theorem vectorOne_all (n : Int) (A : Option Addr) (len cap : Nat) (E : Ev) (i j : Int) (w : World) (_ : (Lit.int .i64 n).wf = true) (hmc : len ≤ cap ∧ cap ≤ maxLen) (hr : Rd w w.heap.size A (len * 3) (evF E))
    (_ : (Lit.int .i64 i).wf = true) (_ : (Lit.int .i64 j).wf = true) :
    Calls Try.prog 10 #[.int .i64 n, .slice A len cap, .int .i64 i, .int .i64 j] w fun e w' => e = .returned (.bool true) ∧ Below w.heap.size w w' := by
  by_cases hg : runCode n E len = 0
  · obtain ⟨k, rfl⟩ := Int.eq_ofNat_of_zero_le (by have := (runCode_ok hg).1.1; omega : 0 ≤ n)
    exact vectorOne_good k i j A len cap E w hmc.1 (by omega) hr hg
  · exact vectorOne_bad n i j A len cap E w hmc.1 (by omega) hr hg
end Go.Proofs.Ytkdookhblbjddaa
