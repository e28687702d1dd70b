/- The law LineOrder, walked. -/
import Derived.Test.YthlpfacgdhdpiaaLn3
import Derived.Test.YthlpfacgdhdpiaaLnArg
import Derived.Test.YthlpfacgdhdpiaaHas
set_option linter.unusedVariables false
set_option linter.unusedSimpArgs false
namespace Go.Proofs.Ythlpfacgdhdpiaa
open Go.RowKit

abbrev gF (l : List Nat) (q : Nat) : Int := (atL l q : Nat)
theorem lnF_at (l : List Nat) (q : Nat) : lnF l q = .int .i64 (gF l q) := rfl
set_option maxHeartbeats 800000 in
theorem once_is (o : Opl) (hn : o.n ≤ 8) (l : List Nat) (hg : Good o l) (A : Option Addr) (cap B : Nat) (w : World) (hr : Rd w B A l.length (lnF l)) :
    Calls Try.prog 11 #[.int .i64 o.n, .slice A l.length cap] w fun e w' => e = .returned (.bool true) ∧ w = w' := by
  have HR : Hid (Rd w B A l.length (fun j => .int .i64 (gF l j))) := hr
  have HG := Lib.hid hg
  have hlen := hg.len
  rw [hlen] at HR ⊢
  clear hr hg hlen
  obtain ⟨nn, hnn⟩ : ∃ nn, o.n = nn := ⟨_, rfl⟩
  have HNN := Lib.hid hnn
  rw [hnn] at hn HR ⊢
  clear hnn
  go_enter Try.func11, Try.ntmps11
  go_wp2
  go_loop [5] (fun x => ∃ i : Nat, i ≤ nn ∧ x = .int .i64 i) (fun x => nn - (intOf x).toNat)
  case atStart => exact ⟨0, by omega, rfl⟩
  case round =>
    obtain ⟨i, hi, rfl⟩ := hrel
    by_cases hlt : i < nn
    · have HB : Hid (hasB (gF l) nn i = true) := by
        obtain ⟨q, h1, h2⟩ := HG.out.has i (by rw [HNN.out]; exact hlt)
        exact hasB_iff.2 ⟨q, by rw [← HNN.out]; exact h1, by show (i : Int) = (atL l q : Nat); rw [h2]⟩
      go_wp2_with (go_at_call 18; refine (has_is _ _ _ _ _ (gF l) i _ (by unfold maxLen; omega) HR.out HB.out).mono ?_; rintro e w' ⟨rfl, rfl⟩)
      go_round
      case rel => exact ⟨i + 1, by omega, by go_num⟩
      case measure => simp [intOf]; omega
    · obtain rfl : i = nn := by omega
      go_wp2
      go_ret
      exact ⟨rfl, rfl⟩

set_option maxRecDepth 100000 in
set_option maxHeartbeats 3200000 in
theorem lineOrder_good (o : Opl) (hok : o.Ok) (A : Option Addr) (cap : Nat) (w : World) (hcap : o.n ≤ cap ∧ cap ≤ maxLen) (ho : OpsIn w A o) :
    Calls Try.prog 6 #[.slice A o.n cap] w fun e w' => e = .returned (.bool true) ∧ Below w.heap.size w w' := by
  have H1 := Lib.hid (Order_good o hok A cap w hcap ho)
  have H2 := Lib.hid (fun (W : World) (hb : Below w.heap.size w W) => line_good o hok A cap W hcap (ho.below hb))
  have H3 := Lib.hid (fun (W : World) (hb : Below w.heap.size w W) => int_is_b (lcheck2_any o A cap W hcap (ho.below hb)) (ok_code hok))
  have HO := Lib.hid ho
  have hn8 := hok.n8
  clear ho hcap hok
  go_enter Try.func6, Try.ntmps6
  go_wp2_with fail
  refine H1.out.mono ?_
  rintro e w1 ⟨v, rfl, ⟨l, A', c', rfl, hrun, hl⟩ | ⟨rfl, hno, hw1⟩⟩
  case inr =>
    have HW1 := Lib.hid hw1
    have HNO := Lib.hid hno
    clear hw1 hno H1
    go_wp2_with fail
    refine (H2.out w1 HW1.out).mono ?_
    rintro e w2 ⟨v, rfl, b2, rfl, hb2, hw2⟩
    have HW2 := Lib.hid (HW1.out.trans (hw2.mono HW1.out.size))
    obtain rfl : b2 = false := by
      cases b2
      · rfl
      · exact absurd (hb2.1 rfl) HNO.out
    clear hw2 hb2 H2 HW1
    go_wp2_with fail
    refine (H3.out w2 HW2.out).mono ?_
    rintro e w3 ⟨rfl, hw3⟩
    have HW3 := Lib.hid (HW2.out.trans (hw3.mono HW2.out.size))
    clear hw3 H3 HW2
    go_wp2
    go_ret
    exact ⟨rfl, HW3.out⟩
  have HF := Lib.hid (show Fin o (lineB o) 0 (-1) from ⟨l, hrun⟩)
  have HG := Lib.hid (run_good hrun)
  have HL1 := Lib.hid hl
  clear hrun hl H1
  go_wp2_with fail
  refine (H2.out w1 HL1.out.bel).mono ?_
  rintro e w2 ⟨v, rfl, b2, rfl, hb2, hw2⟩
  have HL2 := Lib.hid (HL1.out.keep hw2)
  obtain rfl : b2 = true := hb2.2 HF.out
  clear hw2 hb2 H2 HL1 HF
  go_wp2_with fail
  refine (H3.out w2 HL2.out.bel).mono ?_
  rintro e w3 ⟨rfl, hw3⟩
  have HL3 := Lib.hid (HL2.out.keep hw3)
  clear hw3 H3 HL2
  go_wp2_with fail
  refine (once_is o hn8 l HG.out A' c' _ w3 (HL3.out.rd1 0 rfl)).mono ?_
  rintro e w4 ⟨rfl, rfl⟩
  have hll := HG.out.len
  obtain ⟨nn, hnn⟩ : ∃ nn, o.n = nn := ⟨_, rfl⟩
  have HNN := Lib.hid hnn
  have hcc := (HL3.out.own 0 _ rfl).le
  rw [hnn] at hll hn8
  rw [hnn] at ⊢
  simp only [hll] at HL3 hcc ⊢
  obtain ⟨hcc1, hcc2⟩ := hcc
  unfold maxLen at hcc2
  clear hnn hll
  go_wp2
  go_loopw [51, 7] (fun x y wr => ∃ q : Nat, q ≤ nn ∧ x = .int .i64 q ∧ y = .int .i64 (nwS o (atL l) q) ∧ Hid (Lay w wr [lst A' 3 nn c' (lnF l)])) (fun x _ _ => nn - (intOf x).toNat)
  case atStart => exact ⟨0, by omega, rfl, rfl, HL3.out⟩
  case round =>
    clear HL3
    obtain ⟨q, hq, rfl, rfl, HL⟩ := hrel
    by_cases hlt : q < nn
    · obtain ⟨ga, rfl, -⟩ := (HL.out.own 0 _ rfl).pos1 (show 0 < nn by omega)
      have hcq : _ = some (Value.int .i64 ((atL l q : Nat) : Int)) := HL.out.cell1 0 rfl hlt
      have hgq := HG.out.lt q (by rw [HNN.out]; exact hlt)
      have hgn : atL l q < nn := by rw [← HNN.out]; exact hgq
      obtain ⟨ad, rfl, c0, c1, c2, c3, c4⟩ := HO.out wr HL.out.bel (atL l q) hgq
      have HN : Hid (nwS o (atL l) (q + 1) = if o.wr (atL l q) then o.vl (atL l q) else nwS o (atL l) q) := rfl
      have HV := Lib.hid (HG.out.val q (by rw [HNN.out]; exact hlt))
      cases hwr : o.wr (atL l q)
      · rw [hwr] at c3 HN HV
        have e1 : (o.vl (atL l q) != nwS o (atL l) q) = false := by rw [bne_eq_false_iff_eq]; exact HV.out.resolve_left (by simp)
        clear hwr
        go_wp2
        clear c0 c1 c2 c3 c4 hcq
        go_loopw [77] (fun x wr => ∃ p : Nat, p ≤ q ∧ x = .int .i64 p ∧ Hid (Lay w wr [lst (some ⟨ga, 0, none⟩) 3 nn c' (lnF l)])) (fun x _ => q - (intOf x).toNat)
        case atStart => exact ⟨0, by omega, rfl, HL.out⟩
        case round =>
          clear HL
          obtain ⟨p, hp, rfl, HL⟩ := hrel
          by_cases hlp : p < q
          · have hcp : _ = some (Value.int .i64 ((atL l p : Nat) : Int)) := HL.out.cell1 0 rfl (show p < nn by omega)
            have hgp := HG.out.lt p (by rw [HNN.out]; omega)
            have hgpn : atL l p < nn := by rw [← HNN.out]; exact hgp
            obtain ⟨ad1, e1, _, _, d2, _, _⟩ := HO.out wr HL.out.bel (atL l q) hgq
            obtain ⟨ad2, e2, _, f1, _, _, _⟩ := HO.out wr HL.out.bel (atL l p) hgp
            injection e1 with e1
            subst e1
            injection e2 with e2
            subst e2
            have hle := HG.out.ended hlp (by rw [HNN.out]; exact hlt)
            go_wp2
            refine wp_text_all (by kernel_rfl) (by kernel_rfl) (by kernel_rfl) (by repeat' (first | (with_reducible apply tame_then) | (with_reducible apply tame_block) | (with_reducible apply tame_scope) | exact tame_gives | exact tame_body (fun _ _ h => ⟨_, h.1⟩))) ?_
            go_wp2
            refine headed ?_
            go_wp2
            go_roundw
            case rel => exact ⟨p + 1, by omega, by go_num, HL.out.sim ⟨rfl, rfl, rfl, rfl⟩⟩
            case measure => simp [intOf]; omega
          · obtain rfl : p = q := by omega
            go_wp2
            go_roundw
            case rel => exact ⟨p + 1, by omega, by go_num, by rw [HN.out]; rfl, HL.out⟩
            case measure => simp [intOf]; omega
      · rw [hwr] at c3 HN HV
        have e1 : (o.vl (atL l q) != o.vl (atL l q)) = false := by simp
        clear hwr
        go_wp2
        clear c0 c1 c2 c3 c4 hcq
        go_loopw [77] (fun x wr => ∃ p : Nat, p ≤ q ∧ x = .int .i64 p ∧ Hid (Lay w wr [lst (some ⟨ga, 0, none⟩) 3 nn c' (lnF l)])) (fun x _ => q - (intOf x).toNat)
        case atStart => exact ⟨0, by omega, rfl, HL.out⟩
        case round =>
          clear HL
          obtain ⟨p, hp, rfl, HL⟩ := hrel
          by_cases hlp : p < q
          · have hcp : _ = some (Value.int .i64 ((atL l p : Nat) : Int)) := HL.out.cell1 0 rfl (show p < nn by omega)
            have hgp := HG.out.lt p (by rw [HNN.out]; omega)
            have hgpn : atL l p < nn := by rw [← HNN.out]; exact hgp
            obtain ⟨ad1, e1, _, _, d2, _, _⟩ := HO.out wr HL.out.bel (atL l q) hgq
            obtain ⟨ad2, e2, _, f1, _, _, _⟩ := HO.out wr HL.out.bel (atL l p) hgp
            injection e1 with e1
            subst e1
            injection e2 with e2
            subst e2
            have hle := HG.out.ended hlp (by rw [HNN.out]; exact hlt)
            go_wp2
            refine wp_text_all (by kernel_rfl) (by kernel_rfl) (by kernel_rfl) (by repeat' (first | (with_reducible apply tame_then) | (with_reducible apply tame_block) | (with_reducible apply tame_scope) | exact tame_gives | exact tame_body (fun _ _ h => ⟨_, h.1⟩))) ?_
            go_wp2
            refine headed ?_
            go_wp2
            go_roundw
            case rel => exact ⟨p + 1, by omega, by go_num, HL.out.sim ⟨rfl, rfl, rfl, rfl⟩⟩
            case measure => simp [intOf]; omega
          · obtain rfl : p = q := by omega
            go_wp2
            go_roundw
            case rel => exact ⟨p + 1, by omega, by go_num, by rw [HN.out]; rfl, HL.out⟩
            case measure => simp [intOf]; omega
    · obtain rfl : q = nn := by omega
      go_wp2
      go_ret
      exact ⟨rfl, HL.out.bel⟩
set_option maxRecDepth 100000 in
set_option maxHeartbeats 1600000 in
theorem lineOrder_bad (o : Opl) (hbad : lCode o ≠ 0) (A : Option Addr) (cap : Nat) (w : World) (hcap : o.n ≤ cap ∧ cap ≤ maxLen) (ho : OpsIn w A o) :
    Calls Try.prog 6 #[.slice A o.n cap] w fun e w' => e = .returned (.bool true) ∧ Below w.heap.size w w' := by
  have H1 := Lib.hid (Order_bad o A cap w hcap ho hbad)
  have H2 := Lib.hid (fun (W : World) (hb : Below w.heap.size w W) => line_bad o A cap W hcap (ho.below hb) hbad)
  have H3 := Lib.hid (fun (W : World) (hb : Below w.heap.size w W) => lcheck2_any o A cap W hcap (ho.below hb))
  generalize lCode o = c at H1 H2 H3 hbad
  have he : (c != 0) = true := by simpa using hbad
  clear ho hcap hbad
  go_enter Try.func6, Try.ntmps6
  go_wp2_with fail
  refine H1.out.mono ?_
  rintro e w1 ⟨v, rfl, rfl, hw1⟩
  have HW1 := Lib.hid hw1
  clear hw1 H1
  go_wp2_with fail
  refine (H2.out w1 HW1.out).mono ?_
  rintro e w2 ⟨v, rfl, rfl, hw2⟩
  have HW2 := Lib.hid (HW1.out.trans (hw2.mono HW1.out.size))
  clear hw2 H2 HW1
  go_wp2_with fail
  refine (H3.out w2 HW2.out).mono ?_
  rintro e w3 ⟨rfl, hw3⟩
  have HW3 := Lib.hid (HW2.out.trans (hw3.mono HW2.out.size))
  clear hw3 H3 HW2
  go_wp2
  go_ret
  exact ⟨rfl, HW3.out⟩
theorem lineOrder_all (A : Option Addr) (cap : Nat) (o : Opl) (w : World) (hcap : o.n ≤ cap ∧ cap ≤ maxLen) (hr : Rd w w.heap.size A (o.n * 5) (opF o)) :
    Calls Try.prog 6 #[.slice A o.n cap] w fun e w' => e = .returned (.bool true) ∧ Below w.heap.size w w' := by
  by_cases h : lCode o = 0
  · exact lineOrder_good o (lCode_ok h) A cap w hcap (ops_in (Nat.le_refl _) hr)
  · exact lineOrder_bad o h A cap w hcap (ops_in (Nat.le_refl _) hr)
end Go.Proofs.Ythlpfacgdhdpiaa
