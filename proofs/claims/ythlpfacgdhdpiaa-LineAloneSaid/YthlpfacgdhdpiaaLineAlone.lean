/- The law LineAlone, walked. -/
import Derived.Test.YthlpfacgdhdpiaaLn3
import Derived.Test.YthlpfacgdhdpiaaLnArg
set_option linter.unusedVariables false
set_option linter.unusedSimpArgs false
namespace Go.Proofs.Ythlpfacgdhdpiaa
open Go.RowKit

theorem infoOp : (Try.prog.info? 28).map (fun i => (i.zero, i.size, i.bytes)) = some (some (.agg #[.int .i64 0, .int .i64 0, .int .i64 0, .bool false, .int .i64 0]), 5, 40) := by kernel_rfl
/-- Was each read of the first q right? -/
def rightB (o : Opl) (q : Nat) : Bool := !anyTo (fun i => !o.wr i && (o.vl i != nwS o id i)) q
theorem rightB_iff {o : Opl} {q : Nat} : rightB o q = true ↔ ∀ i, i < q → o.wr i = true ∨ o.vl i = nwS o id i := by
  unfold rightB
  rw [Bool.not_eq_true', anyTo_no]
  refine forall_congr' fun i => forall_congr' fun _ => ?_
  cases o.wr i <;> simp
theorem rightB_wr {o : Opl} {q : Nat} (h : o.wr q = true) : rightB o (q + 1) = rightB o q := by simp [rightB, anyTo, h]
theorem rightB_ok {o : Opl} {q : Nat} (h : (o.vl q != nwS o id q) = false) : rightB o (q + 1) = rightB o q := by simp only [rightB, anyTo, h, Bool.and_false, Bool.or_false]
theorem rightB_no {o : Opl} {q : Nat} (h1 : o.wr q = false) (h : (o.vl q != nwS o id q) = true) : rightB o (q + 1) = false := by simp only [rightB, anyTo, h1, h, Bool.not_false, Bool.and_self, Bool.or_true, Bool.not_true]

theorem alone_cells (n : Nat) (wf : Nat → Bool) (vl : Nat → Int) (q : Nat) : ∀ j, j < 1 * 5 → (#[Value.int .i64 ((q : Int) % 2), .int .i64 (3 * (q : Int)), .int .i64 (3 * (q : Int) + 1), .bool (wf q), .int .i64 (vl q)])[j]? = some (opF (aloneO n wf vl) (q * 5 + j)) := by
  intro j hj
  rcases (by omega : j = 0 ∨ j = 1 ∨ j = 2 ∨ j = 3 ∨ j = 4) with rfl | rfl | rfl | rfl | rfl
  · rw [Nat.add_zero, opF_0]; rfl
  · rw [opF_1]; rfl
  · rw [opF_2]; rfl
  · rw [opF_3]; rfl
  · rw [opF_4]; rfl
theorem op_one (o : Opl) (j : Nat) : (opF o j).oneCell' = true := by
  unfold opF
  repeat' split
  all_goals rfl

set_option maxRecDepth 100000 in
set_option maxHeartbeats 3200000 in
theorem lineAlone_good (n cap0 cap1 m : Nat) (A0 A1 : Option Addr) (vl : Nat → Int) (wf : Nat → Bool) (w : World) (hn : n ≤ 8) (hm : n ≤ m) (hm2 : m ≤ maxLen) (h0 : Rd w w.heap.size A0 n (fun i => .int .i64 (vl i))) (h1 : Rd w w.heap.size A1 m (fun i => .bool (wf i))) :
    Calls Try.prog 4 #[.slice A0 n cap0, .slice A1 m cap1] w fun e w' => e = .returned (.bool true) ∧ Below w.heap.size w w' := by
  unfold maxLen at hm2
  obtain ⟨iO, hiO, hzO0, hzO1, hzO2⟩ := info_parts infoOp
  obtain ⟨o, ho⟩ : ∃ o, o = aloneO n wf vl := ⟨_, rfl⟩
  have HOE := Lib.hid ho
  have hok : o.Ok := by rw [ho]; exact aloneO_ok hn
  have HOK := Lib.hid hok
  have HV : Hid (∀ W, Below w.heap.size w W → ∀ i, i < n → ∃ ad, A0 = some ad ∧ W.cell? (ad.add i) = some (.int .i64 (vl i))) := by
    show ∀ W, _
    intro W hb i hi
    obtain ⟨ad, e, _, hc⟩ := (h0.below hb) (by omega)
    exact ⟨ad, e, hc i hi⟩
  have HB : Hid (∀ W, Below w.heap.size w W → ∀ i, i < n → ∃ ad, A1 = some ad ∧ W.cell? (ad.add i) = some (.bool (wf i))) := by
    show ∀ W, _
    intro W hb i hi
    obtain ⟨ad, e, _, hc⟩ := (h1.below hb) (by omega)
    exact ⟨ad, e, hc i (by omega)⟩
  have HN0 : Hid (o.n = n) := by show o.n = n; rw [ho]; rfl
  have HWR : Hid (∀ i, o.wr i = wf i) := by show ∀ i, _; rw [ho]; exact fun _ => rfl
  have HVL : Hid (∀ i, o.vl i = vl i) := by show ∀ i, _; rw [ho]; exact fun _ => rfl
  have HFIN : Hid (Fin o (lineB o) 0 (-1) ↔ rightB o n = true) := by
    show _ ↔ _
    rw [rightB_iff, ho]; exact alone_iff hn
  have e8 : decide ((8 : Int) < (n : Int)) = false := decide_eq_false (by omega)
  have e9 : decide (m < n) = false := decide_eq_false (by omega)
  clear hok h0 h1 ho
  go_enter Try.func4, Try.ntmps4
  go_wp2
  go_loopw [24, 5, 6, 7] (fun x y z t wr => ∃ (q : Nat) (A : Option Addr) (cap : Nat), q ≤ n ∧ x = .int .i64 q ∧ y = .slice A q cap ∧ z = .int .i64 (nwS o id q) ∧ t = .bool (rightB o q) ∧ Hid (Lay w wr [⟨A, 28, 5, q, cap, opF o⟩])) (fun x _ _ _ _ => n - (intOf x).toNat)
  case atStart => exact ⟨0, none, 0, by omega, rfl, rfl, rfl, rfl, (Lay.nil w).lnil _ _ _⟩
  case round =>
    obtain ⟨q, A, cap, hq, rfl, rfl, rfl, rfl, HL⟩ := hrel
    by_cases hlt : q < n
    · obtain ⟨ad, rfl, c0⟩ := HV.out wr HL.out.bel q hlt
      obtain ⟨ad1, rfl, c1⟩ := HB.out wr HL.out.bel q hlt
      have HS : Hid (nwS o id (q + 1) = if o.wr q then o.vl q else nwS o id q) := rfl
      cases hw : wf q
      · have HW := Lib.hid hw
        have HWO : Hid (o.wr q = false) := (HWR.out q).trans hw
        rw [hw] at c1
        cases hv : (vl q != nwS o id q)
        · have HR : Hid (rightB o (q + 1) = rightB o q) := rightB_ok (by rw [HVL.out q]; exact hv)
          clear hw
          go_wp2_with (at_builtin; refine wpList_ap rfl (.tmp 29) (.tmp 43) _ rfl 28 iO _ 5 40 Try.underlying22 hiO hzO0 hzO1 hzO2 rfl (by omega) w.heap.size rfl ((HL.out.alloc _).own 0 _ rfl) rfl (m := 1) (cell_new _ _ _ _ _ rfl (by have := alone_cells n wf vl q; rw [HW.out, ← HOE.out] at this; exact this))
                                     (fun j _ => op_one o _) (opF o) (fun _ _ => rfl) (fun _ _ => rfl) (q + 1) rfl (by unfold maxLen; omega) (by omega) (by have := HL.out.size; simp; omega) ?_
                       intro A2 cap2 w2 ho2 hg2 he2
                       have HL2 : Hid (Lay w w2 [⟨A2, 28, 5, q + 1, cap2, opF o⟩]) := (HL.out.alloc _).app 0 rfl ho2 hg2 he2
                       have d1 : w2.cell? (ad1.add q) = some (.bool false) := by
                         obtain ⟨ad', e', hc'⟩ := HB.out w2 HL2.out.bel q hlt
                         injection e' with e'
                         subst e'
                         rw [HW.out] at hc'
                         exact hc'
                       clear ho2 hg2 he2)
          go_roundw
          case measure => simp [intOf]; omega
          case rel => exact ⟨q + 1, A2, cap2, by omega, by go_num, rfl, by rw [HS.out, HWO.out]; rfl, by rw [HR.out], HL2.out⟩
        · have HR : Hid (rightB o (q + 1) = false) := rightB_no HWO.out (by rw [HVL.out q]; exact hv)
          clear hw
          go_wp2_with (at_builtin; refine wpList_ap rfl (.tmp 29) (.tmp 43) _ rfl 28 iO _ 5 40 Try.underlying22 hiO hzO0 hzO1 hzO2 rfl (by omega) w.heap.size rfl ((HL.out.alloc _).own 0 _ rfl) rfl (m := 1) (cell_new _ _ _ _ _ rfl (by have := alone_cells n wf vl q; rw [HW.out, ← HOE.out] at this; exact this))
                                     (fun j _ => op_one o _) (opF o) (fun _ _ => rfl) (fun _ _ => rfl) (q + 1) rfl (by unfold maxLen; omega) (by omega) (by have := HL.out.size; simp; omega) ?_
                       intro A2 cap2 w2 ho2 hg2 he2
                       have HL2 : Hid (Lay w w2 [⟨A2, 28, 5, q + 1, cap2, opF o⟩]) := (HL.out.alloc _).app 0 rfl ho2 hg2 he2
                       have d1 : w2.cell? (ad1.add q) = some (.bool false) := by
                         obtain ⟨ad', e', hc'⟩ := HB.out w2 HL2.out.bel q hlt
                         injection e' with e'
                         subst e'
                         rw [HW.out] at hc'
                         exact hc'
                       clear ho2 hg2 he2)
          go_roundw
          case measure => simp [intOf]; omega
          case rel => exact ⟨q + 1, A2, cap2, by omega, by go_num, rfl, by rw [HS.out, HWO.out]; rfl, by rw [HR.out], HL2.out⟩
      · have HW := Lib.hid hw
        have HWO : Hid (o.wr q = true) := (HWR.out q).trans hw
        rw [hw] at c1
        have HR := Lib.hid (rightB_wr HWO.out)
        clear hw
        go_wp2_with (at_builtin; refine wpList_ap rfl (.tmp 29) (.tmp 43) _ rfl 28 iO _ 5 40 Try.underlying22 hiO hzO0 hzO1 hzO2 rfl (by omega) w.heap.size rfl ((HL.out.alloc _).own 0 _ rfl) rfl (m := 1) (cell_new _ _ _ _ _ rfl (by have := alone_cells n wf vl q; rw [HW.out, ← HOE.out] at this; exact this))
                                   (fun j _ => op_one o _) (opF o) (fun _ _ => rfl) (fun _ _ => rfl) (q + 1) rfl (by unfold maxLen; omega) (by omega) (by have := HL.out.size; simp; omega) ?_
                     intro A2 cap2 w2 ho2 hg2 he2
                     have HL2 : Hid (Lay w w2 [⟨A2, 28, 5, q + 1, cap2, opF o⟩]) := (HL.out.alloc _).app 0 rfl ho2 hg2 he2
                     have d1 : w2.cell? (ad1.add q) = some (.bool true) := by
                       obtain ⟨ad', e', hc'⟩ := HB.out w2 HL2.out.bel q hlt
                       injection e' with e'
                       subst e'
                       rw [HW.out] at hc'
                       exact hc'
                     clear ho2 hg2 he2)
        go_roundw
        case measure => simp [intOf]; omega
        case rel => exact ⟨q + 1, A2, cap2, by omega, by go_num, rfl, by rw [HS.out, HWO.out, HVL.out q]; rfl, by rw [HR.out], HL2.out⟩
    · obtain rfl : q = n := by omega
      have HLINE : Hid (Calls Try.prog 7 #[.slice A q cap] wr (Gives fun v w' => ∃ b, v = .tuple #[.bool b, .int .i64 0] ∧ (b = true ↔ rightB o q = true) ∧ Below wr.heap.size wr w')) := by
        have hle := (HL.out.own 0 _ rfl).le
        have := line_good o HOK.out A cap wr (by rw [HN0.out]; exact hle) (ops_in (Nat.le_refl _) (by rw [HN0.out]; exact HL.out.rd 0 rfl))
        rw [HN0.out] at this
        exact this.mono fun e w' ⟨v, h1, b, h2, h3, h4⟩ => ⟨v, h1, b, h2, h3.trans HFIN.out, h4⟩
      go_wp2_with fail
      refine HLINE.out.mono ?_
      rintro e w3 ⟨v, rfl, b, rfl, hb, hw3⟩
      have HW3 := Lib.hid (HL.out.bel.trans (hw3.mono HL.out.size))
      obtain rfl : b = rightB o q := Bool.eq_iff_iff.2 hb
      clear hw3 hb HLINE
      cases hrb : rightB o q
      all_goals
        clear hrb
        go_wp2
        go_ret
        exact ⟨rfl, HW3.out⟩
set_option maxRecDepth 100000 in
theorem lineAlone_all (A0 : Option Addr) (n cap0 : Nat) (vl : Nat → Int) (A1 : Option Addr) (m cap1 : Nat) (wf : Nat → Bool) (w : World) (hn : n ≤ cap0 ∧ cap0 ≤ maxLen) (_ : ∀ j, j < n → (Lit.int .i64 (vl j)).wf = true) (h0 : Rd w w.heap.size A0 n (fun i => .int .i64 (vl i)))
    (hm : m ≤ cap1 ∧ cap1 ≤ maxLen) (h1 : Rd w w.heap.size A1 m (fun i => .bool (wf i))) :
    Calls Try.prog 4 #[.slice A0 n cap0, .slice A1 m cap1] w fun e w' => e = .returned (.bool true) ∧ Below w.heap.size w w' := by
  by_cases h : n ≤ 8 ∧ n ≤ m
  · exact lineAlone_good n cap0 cap1 m A0 A1 vl wf w h.1 h.2 (by omega) h0 h1
  · have hx : 8 < n ∨ (n ≤ 8 ∧ m < n) := by omega
    clear h h0 h1
    unfold maxLen at hn hm
    rcases hx with hx | ⟨hx, hy⟩
    all_goals
      go_enter Try.func4, Try.ntmps4
      go_wp2
      go_ret
      exact ⟨rfl, Below.refl _ _⟩
end Go.Proofs.Ythlpfacgdhdpiaa
