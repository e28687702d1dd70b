/- The law TickMirsky, walked. -/
import Derived.Test.YtkdookhblbjddaaLongest
import Derived.Test.YtkdookhblbjddaaTickRises
import Derived.Test.YtkdookhblbjddaaPhase
set_option linter.unusedVariables false
set_option linter.unusedSimpArgs false
namespace Go.Proofs.Ytkdookhblbjddaa
open Go.RowKit

theorem htwo : (2 : Nat) ≤ maxLen := by decide
def maxT (E : Ev) : Nat → Nat
  | 0 => 0
  | i + 1 => max (maxT E i) (tickT E i)
theorem maxT_spec (E : Ev) (i : Nat) : (∀ j, j < i → tickT E j ≤ maxT E i) ∧ (maxT E i = 0 ∧ i = 0 ∨ ∃ j, j < i ∧ tickT E j = maxT E i) := by
  induction i with
  | zero => exact ⟨fun j hj => absurd hj (by omega), .inl ⟨rfl, rfl⟩⟩
  | succ i ih =>
    rw [maxT]
    refine ⟨fun j hj => ?_, .inr ?_⟩
    · rcases Nat.lt_succ_iff_lt_or_eq.1 hj with h | rfl
      · exact Nat.le_trans (ih.1 j h) (Nat.le_max_left _ _)
      · exact Nat.le_max_right _ _
    · have h1 := (ticks_le E i).2.2.1
      rcases Nat.le_total (maxT E i) (tickT E i) with h | h
      · rw [Nat.max_eq_right h]; exact ⟨i, by omega, rfl⟩
      · rw [Nat.max_eq_left h]
        rcases ih.2 with ⟨h2, _⟩ | ⟨j, hj, he⟩
        · omega
        · exact ⟨j, by omega, he⟩
theorem maxT_most {E : Ev} {len : Nat} {L : Nat → Nat} {most : Nat} (h : LAll E len 0 L most) : maxT E len = most := by
  obtain ⟨a1, a2⟩ := most_ticks h
  obtain ⟨b1, b2⟩ := maxT_spec E len
  have h1 : maxT E len ≤ most := by
    rcases b2 with ⟨h0, _⟩ | ⟨j, hj, he⟩
    · omega
    · have := a1 j hj; omega
  have h2 : most ≤ maxT E len := by
    rcases a2 with ⟨h0, _⟩ | ⟨j, hj, he⟩
    · omega
    · have := b1 j hj; omega
  omega
theorem maxT_le (E : Ev) (i : Nat) : maxT E i ≤ i := by
  induction i with
  | zero => exact Nat.le_refl _
  | succ i ih => rw [maxT]; have := (ticks_le E i).2.2.2; omega
theorem two_in {b : Bool} {n i j : Int} (hb : (decide (0 ≤ i ∧ i < n) && decide (0 ≤ j ∧ j < n)) = b) : insideB n (twoF i j) 2 = b := by
  rw [← hb, Bool.eq_iff_iff, insideB_iff]
  simp only [Bool.and_eq_true, decide_eq_true_iff]
  constructor
  · intro h
    have h0 := h 0 (by omega)
    have h1 := h 1 (by omega)
    simp [twoF] at h0 h1
    exact ⟨h0, h1⟩
  · rintro ⟨h0, h1⟩ t ht
    unfold twoF
    split
    · exact h0
    · exact h1
theorem eg_Ahead : ∀ args w, (callFunc 15 args).run Try.prog w = .ok (.enter 15 args) w := by intro args w; rfl
theorem eg_inside : ∀ args w, (callFunc 17 args).run Try.prog w = .ok (.enter 17 args) w := by intro args w; rfl
set_option maxHeartbeats 800000 in
theorem tickMirsky_bad (n i j : Int) (A : Option Addr) (len cap : Nat) (E : Ev) (w : World) (hlc : len ≤ cap) (hm : len ≤ maxLen) (hr : Rd w w.heap.size A (len * 3) (evF E)) (hbad : runCode n E len ≠ 0) :
    Calls Try.prog 8 #[.int .i64 n, .slice A len cap, .int .i64 i, .int .i64 j] w fun e w' => e = .returned (.bool true) ∧ Below w.heap.size w w' := by
  have H1 := Lib.hid (tickCall_bad n A len cap w.heap.size E w hm (Nat.le_refl _) hr hbad)
  have H2 := Lib.hid (fun (W : World) (hb : Below w.heap.size w W) => longest_bad n A len cap w.heap.size E W hm hb.size (hr.below hb) hbad)
  have H3 := Lib.hid (fun (W : World) (hb : Below w.heap.size w W) => bool_is_b (ran_any n A len cap w.heap.size E W hlc hm hb.size (hr.below hb)) (beq_eq_false_iff_ne.2 hbad))
  have hb1 : (runCode n E len == 0) = false := beq_eq_false_iff_ne.2 hbad
  have hb2 : (runCode n E len != 0) = true := bne_iff_ne.2 hbad
  clear hbad hr
  generalize runCode n E len = c at *
  go_enter Try.func8, Try.ntmps8
  go_wp2_with fail
  refine H1.out.mono ?_
  rintro e w1 ⟨rfl, hb⟩
  have HB1 := Lib.hid hb; clear hb
  go_wp2_with fail
  refine (H2.out w1 HB1.out).mono ?_
  rintro e w2 ⟨rfl, hb⟩
  have HB2 := Lib.hid (HB1.out.trans (hb.mono HB1.out.size)); clear hb
  go_wp2_with fail
  refine (H3.out w2 HB2.out).mono ?_
  rintro e w3 ⟨rfl, hb⟩
  have HB3 := Lib.hid (HB2.out.trans (hb.mono HB2.out.size)); clear hb
  go_wp2
  go_ret
  exact ⟨rfl, HB3.out⟩
set_option maxRecDepth 100000 in
set_option maxHeartbeats 4000000 in
theorem tickMirsky_good (n : Nat) (i j : Int) (A : Option Addr) (len cap : Nat) (E : Ev) (w : World) (hlc : len ≤ cap) (hm : len ≤ maxLen) (hr : Rd w w.heap.size A (len * 3) (evF E)) (hg : runCode n E len = 0) :
    Calls Try.prog 8 #[.int .i64 (n : Nat), .slice A len cap, .int .i64 i, .int .i64 j] w fun e w' => e = .returned (.bool true) ∧ Below w.heap.size w w' := by
  have h30 := (runCode_ok hg).1.2.2
  have H1 := Lib.hid (tickCall_good n A len cap w.heap.size E w hm (Nat.le_refl _) hr hg)
  have H2 := Lib.hid (fun (W : World) (hb : Below w.heap.size w W) => longest_good n A len cap E W ((hr.below hb).more hb.size) hg)
  have H3 := Lib.hid (fun (W : World) (hb : Below w.heap.size w W) => bool_is_b (ran_any n A len cap w.heap.size E W hlc hm hb.size (hr.below hb)) (show (runCode n E len == 0) = true by rw [hg]; rfl))
  have HAH : Hid (∀ (W : World) (b : Bool) (x y : Nat), Below w.heap.size w W → x < len → y < len → (pastW E y).testBit x = b → Calls Try.prog 15 #[.int .i64 (n : Nat), .slice A len cap, .int .i64 (x : Nat), .int .i64 (y : Nat)] W fun e w' => e = .returned (.tuple #[.bool b, .int .i64 0]) ∧ Below W.heap.size W w') :=
    Lib.hid fun W b x y hb hx hy hh => ahead_is b n x y A len cap w.heap.size E W hm hb.size (hr.below hb) hg hx hy hh
  clear hg hr hm
  go_enter Try.func8, Try.ntmps8
  go_wp2_with fail
  refine H1.out.mono ?_
  rintro e w1 ⟨g, rfl, -, -, ho, hb⟩
  have HL1 : Hid (Lay w w1 [lst (some ⟨g, 0, none⟩) 3 len len (outF E len)]) := Lib.hid (((Lay.nil w).keep hb).cons ho (fun i s hi => by simp at hi))
  clear hb ho H1
  go_wp2_with fail
  refine (H2.out w1 HL1.out.bel).mono ?_
  rintro e w2 ⟨v, rfl, Ao, k, co, O, L, most, rfl, hL, hA, hS⟩
  have HL2 := Lib.hid (HL1.out.join hL)
  have HKM := Lib.hid (scan_end hA hS)
  have HMX := Lib.hid (maxT_most hA)
  have HON : Hid (∀ t, t < k → O t < len) := Lib.hid fun t ht => (hS.on t ht).1
  have HHB : Hid (∀ t, t + 1 < k → (pastW E (O (t + 1))).testBit (O t) = true) := Lib.hid hS.hb
  have hk30 : k ≤ 30 := by
    have := maxT_le E len
    rw [HMX.out, ← HKM.out] at this
    omega
  clear hL hA hS H2 HL1
  go_wp2_with fail
  refine (H3.out w2 HL2.out.bel).mono ?_
  rintro e w3 ⟨rfl, hb⟩
  have HL3 := Lib.hid (HL2.out.keep hb); clear hb H3 HL2
  have HIC : Hid (Calls Try.prog 17 #[.int .i64 (len : Nat), .slice Ao k co] w3 fun e w' => e = .returned (.bool true) ∧ w3 = w') := Lib.hid (inside_is true len Ao k co w3.heap.size (fun t => (O t : Nat)) w3 (by unfold maxLen; omega) (HL3.out.rd1 0 rfl) (insideB_iff.2 fun t ht => by have := HON.out t ht; omega))
  go_wp2_with fail
  refine HIC.out.mono ?_
  rintro e w4 ⟨rfl, rfl⟩
  clear HIC
  go_wp2
  go_loop [13, 65] (fun m y => ∃ t : Nat, t ≤ len ∧ y = .int .i64 t ∧ m = .int .i64 (maxT E t : Nat)) (fun _ y => len - (intOf y).toNat)
  case atStart => exact ⟨0, by omega, rfl, rfl⟩
  case round =>
    obtain ⟨t, ht, rfl, rfl⟩ := hrel
    by_cases hlt : t < len
    · have hc := HL3.out.cell1 1 rfl hlt
      simp only [outF, hlt, if_true] at hc
      have hga := (HL3.out.at_ 1 rfl).2
      have HN : Hid (maxT E (t + 1) = max (maxT E t) (tickT E t)) := Lib.hid rfl
      generalize maxT E t = x at HN ⊢
      generalize tickT E t = y at HN hc
      by_cases hxy : x < y
      · rw [Nat.max_eq_right (by omega)] at HN
        go_wp2
        go_round
        case rel => exact ⟨t + 1, by omega, by go_num, by rw [HN.out]⟩
        case measure => simp [intOf]; omega
      · rw [Nat.max_eq_left (by omega)] at HN
        go_wp2
        go_round
        case rel => exact ⟨t + 1, by omega, by go_num, by rw [HN.out]⟩
        case measure => simp [intOf]; omega
    · obtain rfl : t = len := by omega
      rw [HMX.out, ← HKM.out]
      clear HMX HKM
      go_wp2
      go_loopw [16] (fun y wr => ∃ x : Nat, y = .int .i64 (x : Nat) ∧ 1 ≤ x ∧ Hid (Below w3.heap.size w3 wr)) (fun y _ => k - (intOf y).toNat)
      case atStart => exact ⟨1, rfl, by omega, Below.refl _ _⟩
      case round =>
        obtain ⟨x, rfl, hx, HB⟩ := hrel
        have HL4 := Lib.hid (HL3.out.keep HB.out)
        have HBW := Lib.hid HL4.out.bel
        by_cases hxk : x < k
        · obtain ⟨y, hy⟩ : ∃ y, x = y + 1 := ⟨x - 1, by omega⟩
          obtain ⟨ga, rfl, -⟩ := (HL4.out.own 0 _ rfl).pos (by show 0 < k; omega)
          have hyk : y < k := by omega
          have hy1 : (x : Int) - 1 = (y : Int) := by omega
          have hyw : IntKind.i64.wrap (y : Int) = (y : Int) := IntWalk.i64_in _ (by omega)
          have c0 := HL4.out.cell1 0 rfl (j := y) (by omega)
          have c1 := HL4.out.cell1 0 rfl (j := x) hxk
          unfold numN at c0 c1
          have hgo := (HL4.out.at_ 0 rfl).2
          have HAX := Lib.hid (fun (W : World) (hb : Below w.heap.size w W) => HAH.out W true (O y) (O x) hb (HON.out y (by omega)) (HON.out x hxk) (by subst hy; exact HHB.out y hxk))
          generalize O y = p at c0 HAX
          generalize O x = q at c1 HAX
          clear hy
          go_wp2
          refine wp_phase (fun W => W.cell? ⟨ga, y, none⟩ = some (.int .i64 (p : Nat)) ∧ W.cell? ⟨ga, x, none⟩ = some (.int .i64 (q : Nat))) [true, true, true, true, true, true, true, true, true, true, true, false] ?A1 (by kernel_rfl) (by decide) (by kernel_rfl) (by repeat' (first | (with_reducible apply tame_then) | (with_reducible apply tame_block) | (with_reducible apply tame_scope) | exact tame_gives | exact tame_body (fun _ _ h => ⟨_, h.1⟩))) ⟨c0, c1⟩ ?head1 ?tail1
          case head1 =>
            intro W5 ⟨s0, s1⟩
            simp only [pick]
            go_wp2
            exact taken
          case tail1 =>
            simp only [pick, List.map_cons, List.map_nil, Bool.not_true, Bool.not_false]; refine chain_step ?_
            go_wp2_with fail
            refine (HAX.out _ HBW.out.drew).mono ?_
            rintro e u3 ⟨rfl, hw3⟩
            have HB5 := Lib.hid (HB.out.drew.trans (hw3.mono HB.out.drew.size))
            have HS5 : Hid (u3.cell? ⟨ga, y, none⟩ = some (.int .i64 (p : Nat)) ∧ u3.cell? ⟨ga, x, none⟩ = some (.int .i64 (q : Nat))) := Lib.hid ⟨(hw3.cell hgo).trans c0, (hw3.cell hgo).trans c1⟩
            clear hw3
            go_wp2
            refine holds HS5.out ?_
            refine chain_end ?_; simp only [List.length_cons, List.length_nil, Nat.zero_add, Nat.reduceAdd, List.drop_succ_cons, List.drop_zero]; go_wp2; refine headed ?_; go_wp2_with fail
            go_roundw
            case rel => exact ⟨x + 1, by go_num, by omega, HB5⟩
            case measure => simp [intOf]; omega
        · have HBW2 := Lib.hid (HBW.out.drew)
          clear HB
          by_cases hij : (0 ≤ i ∧ i < t) ∧ (0 ≤ j ∧ j < t)
          · obtain ⟨⟨i0, i1⟩, j0, j1⟩ := hij
            obtain ⟨i, rfl⟩ := Int.eq_ofNat_of_zero_le i0
            obtain ⟨j, rfl⟩ := Int.eq_ofNat_of_zero_le j0
            have hi : i < t := by omega
            have hj : j < t := by omega
            have HIN : Hid ((decide (0 ≤ (i : Int) ∧ (i : Int) < t) && decide (0 ≤ (j : Int) ∧ (j : Int) < t)) = true) := Lib.hid (by simp; omega)
            have HRI : Hid (Rd (wr.alloc (.cells #[.int .i64 (i : Nat), .int .i64 (j : Nat)] 3)).drew (wr.heap.size + 1) (some ⟨wr.heap.size, 0, none⟩) 2 (fun t => Value.int .i64 (twoF i j t))) := Lib.hid ((cell_new wr _ _ (fun t => Value.int .i64 (twoF i j t)) _ rfl (twoF_cells i j)).below (Below.refl _ _).drew)
            have c0 := HL4.out.cell1 1 rfl hi
            have c1 := HL4.out.cell1 1 rfl hj
            simp only [outF, hi, hj, if_true] at c0 c1
            have hga := (HL4.out.at_ 1 rfl).2
            have HB4 : Hid (Below w.heap.size w (wr.alloc (.cells #[.int .i64 (i : Nat), .int .i64 (j : Nat)] 3)).drew) := Lib.hid (HBW.out.alloc HBW.out.size _).drew
            have HAX := Lib.hid (fun (b : Bool) hb => HAH.out _ b i j HB4.out hi hj hb)
            obtain ⟨d, hd⟩ : ∃ d, ((tickT E i : Int) == (tickT E j : Int)) = d := ⟨_, rfl⟩
            have HD : Hid (d = true → (pastW E j).testBit i = false) := Lib.hid fun h => by
              rw [h, beq_iff_eq] at hd
              cases hb : (pastW E j).testBit i
              · rfl
              · have := (tick_rises E j).2.2 i hb
                omega
            generalize tickT E i = p at c0 hd
            generalize tickT E j = q at c1 hd
            clear HL4 HL3
            cases d
            · go_wp2
              refine wp_phase (fun _ => True) [true, true, true, true, false, false] ?A2 (by kernel_rfl) (by decide) (by kernel_rfl) (by repeat' (first | (with_reducible apply tame_then) | (with_reducible apply tame_block) | (with_reducible apply tame_scope) | exact tame_gives | exact tame_body (fun _ _ h => ⟨_, h.1⟩))) trivial ?head2 ?tail2
              case head2 =>
                intro W5 _
                simp only [pick]
                go_wp2
                exact taken
              case' tail2 =>
                simp only [pick, List.map_cons, List.map_nil, Bool.not_true, Bool.not_false]; refine chain_step ?_
                go_wp2
                refine holds trivial ?_
                refine chain_step ?_
                go_wp2_with fail
                refine (inside_is true t _ 2 2 (wr.heap.size + 1) (twoF i j) _ htwo HRI.out (two_in HIN.out)).mono ?_
                rintro e u3 ⟨rfl, rfl⟩
                go_wp2
                refine holds trivial ?_
                refine chain_end ?_; simp only [List.length_cons, List.length_nil, Nat.zero_add, Nat.reduceAdd, List.drop_succ_cons, List.drop_zero]; go_wp2; refine headed ?_; go_wp2_with fail
              go_ret
              exact ⟨rfl, HB4.out⟩
            · have HAY := Lib.hid (HAX.out false (HD.out rfl))
              go_wp2
              refine wp_phase (fun _ => True) [true, true, true, true, false, false] ?A3 (by kernel_rfl) (by decide) (by kernel_rfl) (by repeat' (first | (with_reducible apply tame_then) | (with_reducible apply tame_block) | (with_reducible apply tame_scope) | exact tame_gives | exact tame_body (fun _ _ h => ⟨_, h.1⟩))) trivial ?head3 ?tail3
              case head3 =>
                intro W5 _
                simp only [pick]
                go_wp2
                exact taken
              case' tail3 =>
                simp only [pick, List.map_cons, List.map_nil, Bool.not_true, Bool.not_false]; refine chain_step ?_
                go_wp2
                refine holds trivial ?_
                refine chain_step ?_
                go_wp2_with fail
                refine (inside_is true t _ 2 2 (wr.heap.size + 1) (twoF i j) _ htwo HRI.out (two_in HIN.out)).mono ?_
                rintro e u3 ⟨rfl, rfl⟩
                go_wp2
                refine holds trivial ?_
                refine chain_end ?_; simp only [List.length_cons, List.length_nil, Nat.zero_add, Nat.reduceAdd, List.drop_succ_cons, List.drop_zero]; go_wp2; refine headed ?_; go_wp2_with fail
              refine HAY.out.mono ?_
              rintro e w5 ⟨rfl, hb⟩
              have HB5 := Lib.hid (HB4.out.trans (hb.mono HB4.out.size))
              clear hb
              go_wp2
              go_ret
              exact ⟨rfl, HB5.out⟩
          · have HIN : Hid ((decide (0 ≤ i ∧ i < (t : Int)) && decide (0 ≤ j ∧ j < (t : Int))) = false) := Lib.hid (by
              rw [← Bool.not_eq_true, Bool.and_eq_true, decide_eq_true_iff, decide_eq_true_iff]
              exact hij)
            clear hij
            have HRI : Hid (Rd (wr.alloc (.cells #[.int .i64 i, .int .i64 j] 3)).drew (wr.heap.size + 1) (some ⟨wr.heap.size, 0, none⟩) 2 (fun t => Value.int .i64 (twoF i j t))) := Lib.hid ((cell_new wr _ _ (fun t => Value.int .i64 (twoF i j t)) _ rfl (twoF_cells i j)).below (Below.refl _ _).drew)
            have HB4 : Hid (Below w.heap.size w (wr.alloc (.cells #[.int .i64 i, .int .i64 j] 3)).drew) := Lib.hid (HBW.out.alloc HBW.out.size _).drew
            clear HL4 HL3
            go_wp2
            refine wp_phase (fun _ => True) [true, true, true, true, false, false] ?A4 (by kernel_rfl) (by decide) (by kernel_rfl) (by repeat' (first | (with_reducible apply tame_then) | (with_reducible apply tame_block) | (with_reducible apply tame_scope) | exact tame_gives | exact tame_body (fun _ _ h => ⟨_, h.1⟩))) trivial ?head4 ?tail4
            case head4 =>
              intro W5 _
              simp only [pick]
              go_wp2
              exact taken
            case' tail4 =>
              simp only [pick, List.map_cons, List.map_nil, Bool.not_true, Bool.not_false]; refine chain_step ?_
              go_wp2
              refine holds trivial ?_
              refine chain_step ?_
              go_wp2_with fail
              refine (inside_is false t _ 2 2 (wr.heap.size + 1) (twoF i j) _ htwo HRI.out (two_in HIN.out)).mono ?_
              rintro e u3 ⟨rfl, rfl⟩
              go_wp2
              refine holds trivial ?_
              refine chain_end ?_; simp only [List.length_cons, List.length_nil, Nat.zero_add, Nat.reduceAdd, List.drop_succ_cons, List.drop_zero]; go_wp2; refine headed ?_; go_wp2_with fail
            go_ret
            exact ⟨rfl, HB4.out⟩
theorem tickMirsky_all (n : Int) (A : Option Addr) (len cap : Nat) (E : Ev) (i j : Int) (w : World) (_ : (Lit.int .i64 n).wf = true) (hmc : len ≤ cap ∧ cap ≤ maxLen) (hr : Rd w w.heap.size A (len * 3) (evF E))
    (_ : (Lit.int .i64 i).wf = true) (_ : (Lit.int .i64 j).wf = true) :
    Calls Try.prog 8 #[.int .i64 n, .slice A len cap, .int .i64 i, .int .i64 j] w fun e w' => e = .returned (.bool true) ∧ Below w.heap.size w w' := by
  by_cases hg : runCode n E len = 0
  · obtain ⟨k, rfl⟩ := Int.eq_ofNat_of_zero_le (by have := (runCode_ok hg).1.1; omega : 0 ≤ n)
    exact tickMirsky_good k i j A len cap E w hmc.1 (by omega) hr hg
  · exact tickMirsky_bad n i j A len cap E w hmc.1 (by omega) hr hg
end Go.Proofs.Ytkdookhblbjddaa
