/- The law LineEach, walked. -/
import Derived.Test.YthlpfacgdhdpiaaLn3
import Derived.Test.YthlpfacgdhdpiaaLnArg
set_option linter.unusedVariables false
set_option linter.unusedSimpArgs false
namespace Go.Proofs.Ythlpfacgdhdpiaa
open Go.RowKit

def oneOp : Opl := ⟨1, fun _ => 0, fun _ => 0, fun _ => 1, fun _ => false, fun _ => 1⟩
theorem oneOp_ok : oneOp.Ok := ⟨by decide, fun i _ => by show (0 : Int) < 1; decide, fun i j hi hj hne => by
  have hi : i < 1 := hi
  have hj : j < 1 := hj
  omega⟩
theorem oneOp_no : ¬ Fin oneOp (lineB oneOp) 0 (-1) := by
  refine fin_no (by decide) fun i _ h => ?_
  have := h.1
  unfold canB at this
  simp [oneOp, nowV] at this
theorem oneOp_in (W : World) : OpsIn (W.alloc (.cells #[.int .i64 0, .int .i64 0, .int .i64 1, .bool false, .int .i64 1] 28)) (some ⟨W.heap.size, 0, none⟩) oneOp :=
  ops_in (Nat.le_refl _) (((Lay.nil W).new #[.int .i64 0, .int .i64 0, .int .i64 1, .bool false, .int .i64 1] 28 5 1 (opF oneOp) _ rfl rfl (by unfold maxLen; omega) (fun j hj => by
    have hj : j < 5 := by simpa using hj
    rcases (by omega : j = 0 ∨ j = 1 ∨ j = 2 ∨ j = 3 ∨ j = 4) with rfl | rfl | rfl | rfl | rfl <;> rfl)).rd 0 rfl)

set_option maxRecDepth 100000 in
set_option maxHeartbeats 1600000 in
theorem lineEach_good (o : Opl) (hok : o.Ok) (A : Option Addr) (cap : Nat) (w : World) (hcap : o.n ≤ cap ∧ cap ≤ maxLen) (ho : OpsIn w A o) :
    Calls Try.prog 5 #[.slice A o.n cap] w fun e w' => e = .returned (.bool true) ∧ Below w.heap.size w w' := by
  have H1 := Lib.hid (line_good o hok A cap w hcap ho)
  have H2 := Lib.hid (fun (W : World) (hb : Below w.heap.size w W) => each_good o hok A cap W hcap (ho.below hb))
  have H3 := Lib.hid (fun (W : World) (hb : Below w.heap.size w W) => int_is_b (lcheck2_any o A cap W hcap (ho.below hb)) (ok_code hok))
  clear ho hcap hok
  go_enter Try.func5, Try.ntmps5
  go_wp2_with fail
  refine H1.out.mono ?_
  rintro e w1 ⟨v, rfl, b1, rfl, hb1, hw1⟩
  have HW1 := Lib.hid hw1
  have HB1 := Lib.hid hb1
  clear hw1 hb1 H1
  go_wp2_with fail
  refine (H2.out w1 HW1.out).mono ?_
  rintro e w2 ⟨v, rfl, b2, rfl, hb2, hw2⟩
  have HW2 := Lib.hid (HW1.out.trans (hw2.mono HW1.out.size))
  have HB2 : Hid (b1 = true → b2 = true) := fun h => hb2.2 (fin_each (HB1.out.1 h))
  clear hw2 hb2 H2 HB1 HW1
  go_wp2_with fail
  refine (H3.out w2 HW2.out).mono ?_
  rintro e w3 ⟨rfl, hw3⟩
  have HW3 := Lib.hid (HW2.out.trans (hw3.mono HW2.out.size))
  clear hw3 H3 HW2
  go_wp2_with fail
  refine (line_good oneOp oneOp_ok (some ⟨w3.heap.size, 0, none⟩) 1 _ ⟨Nat.le_refl _, by unfold maxLen; omega⟩ (oneOp_in w3)).mono ?_
  rintro e w4 ⟨v, rfl, b3, rfl, hb3, hw4⟩
  have HW4 := Lib.hid ((HW3.out.alloc HW3.out.size _).trans (hw4.mono (by have := HW3.out.size; simp; omega)))
  obtain rfl : b3 = false := by
    cases b3
    · rfl
    · exact absurd (hb3.1 rfl) oneOp_no
  clear hw4 hb3 HW3
  cases b1
  · go_wp2
    go_ret
    exact ⟨rfl, HW4.out⟩
  · obtain rfl : b2 = true := HB2.out rfl
    go_wp2
    go_ret
    exact ⟨rfl, HW4.out⟩
set_option maxRecDepth 100000 in
set_option maxHeartbeats 1600000 in
theorem lineEach_bad (o : Opl) (hbad : lCode o ≠ 0) (A : Option Addr) (cap : Nat) (w : World) (hcap : o.n ≤ cap ∧ cap ≤ maxLen) (ho : OpsIn w A o) :
    Calls Try.prog 5 #[.slice A o.n cap] w fun e w' => e = .returned (.bool true) ∧ Below w.heap.size w w' := by
  have H1 := Lib.hid (line_bad o A cap w hcap ho hbad)
  have H2 := Lib.hid (fun (W : World) (hb : Below w.heap.size w W) => each_bad o A cap W hcap (ho.below hb) hbad)
  have H3 := Lib.hid (fun (W : World) (hb : Below w.heap.size w W) => lcheck2_any o A cap W hcap (ho.below hb))
  generalize lCode o = c at H1 H2 H3 hbad
  have he : (c != 0) = true := by simpa using hbad
  clear ho hcap hbad
  go_enter Try.func5, Try.ntmps5
  go_wp2_with fail
  refine H1.out.mono ?_
  rintro e w1 ⟨v, rfl, rfl, hw1⟩
  have HW1 := Lib.hid hw1
  clear hw1 H1
  go_wp2_with fail
  refine (H2.out w1 HW1.out).mono ?_
  rintro e w2 ⟨v, rfl, rfl, hw2⟩
  have HW2 := Lib.hid (HW1.out.trans (hw2.mono HW1.out.size))
  clear hw2 H2 HW1
  go_wp2_with fail
  refine (H3.out w2 HW2.out).mono ?_
  rintro e w3 ⟨rfl, hw3⟩
  have HW3 := Lib.hid (HW2.out.trans (hw3.mono HW2.out.size))
  clear hw3 H3 HW2
  go_wp2
  go_ret
  exact ⟨rfl, HW3.out⟩
theorem lineEach_all (A : Option Addr) (cap : Nat) (o : Opl) (w : World) (hcap : o.n ≤ cap ∧ cap ≤ maxLen) (hr : Rd w w.heap.size A (o.n * 5) (opF o)) :
    Calls Try.prog 5 #[.slice A o.n cap] w fun e w' => e = .returned (.bool true) ∧ Below w.heap.size w w' := by
  by_cases h : lCode o = 0
  · exact lineEach_good o (lCode_ok h) A cap w hcap (ops_in (Nat.le_refl _) hr)
  · exact lineEach_bad o h A cap w hcap (ops_in (Nat.le_refl _) hr)
end Go.Proofs.Ythlpfacgdhdpiaa
