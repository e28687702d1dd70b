/- The walks of order, Line, Each and Order. -/
import Derived.Test.YtoakgoigamigjaaLn2
set_option linter.unusedVariables false
set_option linter.unusedSimpArgs false
namespace Go.Proofs.Ytoakgoigamigjaa
open Go.RowKit Go.Maps Go.MapKept

set_option maxRecDepth 100000 in
set_option maxHeartbeats 1600000 in
theorem order_any (o : Opl) (hO : o.n ≤ 8) (B : Nat → Nat → Bool) (k : FuncId) (HB : Asks k o B) (heg : ∀ args w, (callFunc k args).run Try.prog w = .ok (.enter k args) w) (A : Option Addr) (cap : Nat) (w : World) (ho : OpsIn w A o) :
    Calls Try.prog 14 #[.slice A o.n cap, fnV k] w (Gives fun v w' =>
      (∃ l A' cap', v = .tuple #[.slice A' l.length cap', .bool true] ∧ RunO o B 0 (-1) l ∧ Lay w w' [lst A' 3 l.length cap' (lnF l)]) ∨ (v = .tuple #[.slice none 0 0, .bool false] ∧ ¬ Fin o B 0 (-1) ∧ Below w.heap.size w w')) := by
  have hmm := @run_makeMap Try.prog
  have HM : Hid (LayM w (w.alloc (.map #[] 0)) [] [⟨w.heap.size, badφ o B⟩]) := (Lay.nil w).toM.newM (badφ o B) ⟨0, _, EMap.empty _ _ _ _ _, fun p => .inl rfl⟩ _ rfl
  have HF := Lib.hid (HM.out.newB [.slice A o.n cap, fnV k, .map (some w.heap.size)] 65 3 rfl (w.heap.size + 1) (size_push _ _).symm)
  have HFIND := Lib.hid (find_any o hO B k HB heg A cap (w.heap.size + 1) w.heap.size w ho o.n 0 (-1) _ [] (Nat.two_pow_pos _) (by omega) (by omega) HF.out)
  clear HM HF ho HB heg
  go_enter Try.func14, Try.ntmps14
  go_wp2_with fail
  refine (show Calls _ _ #[.pointer (some ⟨w.heap.size + 1, 0, none⟩), .int .u32 0, .int .i64 (-1)] _ _ from HFIND.out).mono ?_
  rintro e w1 ⟨v, rfl, ⟨l, A', c', rfl, hrun, hl⟩ | ⟨rfl, hno, hl⟩⟩
  · have HR := Lib.hid hrun
    have HL := Lib.hid hl.lay.tail
    clear hrun hl hmm HFIND
    go_wp2
    go_ret2
    exact ⟨_, rfl, .inl ⟨l, A', c', rfl, HR.out, HL.out⟩⟩
  · have HR := Lib.hid hno
    have HL := Lib.hid hl.lay.bel
    clear hno hl hmm HFIND
    go_wp2
    go_ret2
    exact ⟨_, rfl, .inr ⟨rfl, HR.out, HL.out⟩⟩

theorem asks_line (o : Opl) : Asks 15 o (lineB o) := fun i j w => lineC_any o i j w
theorem asks_same (o : Opl) : Asks 17 o (sameB o) := fun i j w => same_any o i j w
theorem eg_line : ∀ args w, (callFunc 15 args).run Try.prog w = .ok (.enter 15 args) w := by
  intro args w
  first | rfl | (simp [callFunc, go_sem]; rfl)
theorem eg_same : ∀ args w, (callFunc 17 args).run Try.prog w = .ok (.enter 17 args) w := by
  intro args w
  first | rfl | (simp [callFunc, go_sem]; rfl)

set_option maxRecDepth 100000 in
set_option maxHeartbeats 1600000 in
theorem line_good (o : Opl) (hok : o.Ok) (A : Option Addr) (cap : Nat) (w : World) (hcap : o.n ≤ cap ∧ cap ≤ maxLen) (ho : OpsIn w A o) :
    Calls Try.prog 10 #[.slice A o.n cap] w (Gives fun v w' => ∃ b, v = .tuple #[.bool b, .int .i64 0] ∧ (b = true ↔ Fin o (lineB o) 0 (-1)) ∧ Below w.heap.size w w') := by
  have HC := Lib.hid (int_is_b (lcheck_any o A cap w hcap ho) (ok_code hok))
  have HOR := Lib.hid (fun (W : World) (hb : Below w.heap.size w W) => order_any o hok.n8 (lineB o) _ (asks_line o) eg_line A cap W (ho.below hb))
  clear ho hcap hok
  go_enter Try.func10, Try.ntmps10
  go_wp2_with fail
  refine HC.out.mono ?_
  rintro e w1 ⟨rfl, hw1⟩
  have HW1 := Lib.hid hw1; clear hw1
  go_wp2_with fail
  refine (HOR.out w1 HW1.out).mono ?_
  rintro e w2 ⟨v, rfl, ⟨l, A', c', rfl, hrun, hl⟩ | ⟨rfl, hno, hl⟩⟩
  · have HR := Lib.hid (show Fin o (lineB o) 0 (-1) from ⟨l, hrun⟩)
    have HL := Lib.hid (HW1.out.trans (hl.bel.mono HW1.out.size))
    clear hrun hl HOR HC
    go_wp2
    go_ret2
    exact ⟨_, rfl, true, rfl, ⟨fun _ => HR.out, fun _ => rfl⟩, HL.out⟩
  · have HR := Lib.hid hno
    have HL := Lib.hid (HW1.out.trans (hl.mono HW1.out.size))
    clear hno hl HOR HC
    go_wp2
    go_ret2
    exact ⟨_, rfl, false, rfl, ⟨(fun h => by cases h), fun h => absurd h HR.out⟩, HL.out⟩
set_option maxRecDepth 100000 in
theorem line_bad (o : Opl) (A : Option Addr) (cap : Nat) (w : World) (hcap : o.n ≤ cap ∧ cap ≤ maxLen) (ho : OpsIn w A o) (hbad : lCode o ≠ 0) :
    Calls Try.prog 10 #[.slice A o.n cap] w (Gives fun v w' => v = .tuple #[.bool false, .int .i64 (lCode o)] ∧ Below w.heap.size w w') := by
  have HC := Lib.hid (lcheck_any o A cap w hcap ho)
  generalize lCode o = e at HC hbad ⊢
  have he : (e != 0) = true := by simpa using hbad
  clear ho hcap hbad
  go_enter Try.func10, Try.ntmps10
  go_wp2_with fail
  refine HC.out.mono ?_
  rintro e w1 ⟨rfl, hw1⟩
  have HW1 := Lib.hid hw1; clear hw1
  go_wp2
  go_ret2
  exact ⟨_, rfl, rfl, HW1.out⟩
end Go.Proofs.Ytoakgoigamigjaa
