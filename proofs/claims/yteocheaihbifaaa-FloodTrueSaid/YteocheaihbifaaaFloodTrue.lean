/- The law FloodTrue, walked. -/
import Derived.Test.YteocheaihbifaaaFloodAgree
import Derived.Test.YteocheaihbifaaaHas
set_option linter.unusedVariables false
set_option linter.unusedSimpArgs false
namespace Go.Proofs.Yteocheaihbifaaa
open Go.RowKit

set_option maxRecDepth 100000 in
set_option maxHeartbeats 3200000 in
theorem floodTrue_good (A0 : Option Addr) (cap0 : Nat) (v : Nat → Int) (A : Option Addr) (cap : Nat) (c : Crs) (hc : c.Ok) (w : World) (hcap : c.m ≤ cap ∧ cap ≤ maxLen)
    (hv : Rd w w.heap.size A0 c.n (fun i => .int .i64 (v i))) (hr : Rd w w.heap.size A (c.m * 3) (crF (fun i => (c.p i : Nat)) (fun i => (c.r i : Nat)) (fun i => (c.q i : Nat)))) :
    Calls Try.prog 5 #[.slice A0 c.n cap0, .slice A c.m cap, .int .i64 c.R] w fun e w' => e = .returned (.bool true) ∧ Below w.heap.size w w' := by
  have HP := Lib.hid (play_good A0 cap0 _ v A cap _ c hc w hcap (Nat.le_refl _) (Nat.le_refl _) hv hr)
  have HR := Lib.hid hr
  have HV := Lib.hid hv
  have HCAP := Lib.hid hcap
  have hn1 := hc.n1; have hn6 := hc.n6; have hR8 := hc.r8; have hcm := hc.m_le
  have HCC := Lib.hid (crs_code hc)
  have hAll := all_at hn1 hn6
  obtain ⟨T, hT⟩ : ∃ T, (kn c c.R).2 = T := ⟨_, rfl⟩
  have HW := Lib.hid (w32 hn6 (kn_there_lt (c := c) c.R))
  have HT : Hid (∀ i, bitB T (i : Nat) = true → outF c v i ≤ v i ∧ hasB v c.n (outF c v i) = true) := by
    show ∀ i, _
    intro i hi
    rw [bitB_nat, ← hT] at hi
    obtain ⟨j, h1, h2⟩ := out_has hc v hi
    exact ⟨out_le v hi, hasB_iff.2 ⟨j, h1, h2⟩⟩
  have HG : Hid (∀ i, bitB T (i : Nat) = false → outF c v i = 0) := by
    show ∀ i, _
    intro i hi
    rw [bitB_nat, ← hT] at hi
    exact out_gone v hi
  have HE : Hid (c.m = 0 → T = allW c.n) := by
    show _ → _
    intro h
    rw [← hT]; exact there_all h c.R
  rw [hT] at HW HP
  clear hr hcap hc hT hv
  go_enter Try.func5, Try.ntmps5
  go_wp2_with fail
  refine HP.out.mono ?_
  rintro e w1 ⟨u, rfl, g, rfl, hl1⟩
  have HL1 := Lib.hid hl1; clear hl1 HP
  go_wp2_with fail
  refine (int_is_b (check_any A0 c.n cap0 A c.m cap w.heap.size c.R (fun i => (c.p i : Nat)) (fun i => (c.r i : Nat)) c.q w1 HCAP.out HL1.out.size (by unfold maxLen; omega) (HR.out.below HL1.out.bel)) HCC.out).mono ?_
  rintro e w2 ⟨rfl, hw2⟩
  have HL2 := Lib.hid (HL1.out.keep hw2); clear hw2 HL1 HCC HR HCAP
  go_wp2
  go_loopw [38] (fun x wr => ∃ i : Nat, i ≤ c.n ∧ x = .int .i64 i ∧ Hid (Lay w wr [arr g 3 c.n (fun i => .int .i64 (outF c v i))])) (fun x _ => c.n - (intOf x).toNat)
  case atStart => exact ⟨0, by omega, rfl, HL2.out⟩
  case round =>
    clear HL2
    obtain ⟨i, hi, rfl, HI⟩ := hrel
    by_cases hlt : i < c.n
    · have ci := HI.out.cell1 0 rfl hlt
      have HVI := Lib.hid (HV.out.below HI.out.bel)
      obtain ⟨av, ea, _, hcv⟩ := HV.out (show 0 < c.n by omega)
      have hcv : wr.cell? (av.add i) = some (.int .i64 (v i)) := by
        obtain ⟨av', ea', _, hcv'⟩ := HVI.out (show 0 < c.n by omega)
        have : av' = av := by rw [ea] at ea'; exact (Option.some.inj ea').symm
        rw [← this]; exact hcv' i hlt
      obtain ⟨b, hb⟩ : ∃ b, bitB T (i : Int) = b := ⟨_, rfl⟩
      have HBI := Lib.hid hb
      clear hb
      subst ea
      cases b
      · have e0 := HG.out i HBI.out
        rw [e0] at ci
        clear e0
        go_wp2_with (first
          | (go_at_call 9; refine (bit_is _ _ _ _ HW.out HBI.out).mono ?_; rintro e w' ⟨rfl, rfl⟩)
          | fail)
        go_roundw
        case rel => exact ⟨i + 1, by omega, by go_num, HI.out⟩
        case measure => simp [intOf]; omega
      · obtain ⟨h1, h2⟩ := HT.out i HBI.out
        have HH := Lib.hid h2
        obtain ⟨x, hx⟩ : ∃ x, outF c v i = x := ⟨_, rfl⟩
        rw [hx] at ci h1 HH
        clear hx h2
        go_wp2_with (first
          | (go_at_call 9; refine (bit_is _ _ _ _ HW.out HBI.out).mono ?_; rintro e w' ⟨rfl, rfl⟩)
          | (go_at_call 10; refine (has_is _ _ _ _ _ v x _ (by unfold maxLen; omega) HVI.out HH.out).mono ?_; rintro e w' ⟨rfl, rfl⟩)
          | fail)
        go_roundw
        case rel => exact ⟨i + 1, by omega, by go_num, HI.out⟩
        case measure => simp [intOf]; omega
    · obtain rfl : i = c.n := by omega
      by_cases hm0 : c.m = 0
      · have e1 := HE.out hm0
        subst e1
        have hm1 : decide ((0 : Int) < (c.m : Int)) = false := by simp; omega
        go_wp2
        go_ret
        exact ⟨rfl, HI.out.bel⟩
      · have hm1 : 0 < c.m := by omega
        go_wp2
        go_ret
        exact ⟨rfl, HI.out.bel⟩

set_option maxRecDepth 100000 in
theorem floodTrue_bad (A0 : Option Addr) (n cap0 : Nat) (A : Option Addr) (m cap : Nat) (R : Int) (p r : Nat → Int) (q : Nat → Nat) (w : World) (hn : n ≤ maxLen) (hcap : m ≤ cap ∧ cap ≤ maxLen)
    (hr : Rd w w.heap.size A (m * 3) (crF p r (fun i => (q i : Nat)))) (hbad : crCode n m R p r q ≠ 0) :
    Calls Try.prog 5 #[.slice A0 n cap0, .slice A m cap, .int .i64 R] w fun e w' => e = .returned (.bool true) ∧ Below w.heap.size w w' := by
  have HP := Lib.hid (play_bad A0 n cap0 A m cap _ R p r q w hn hcap (Nat.le_refl _) hr hbad)
  have HC := Lib.hid (fun (W : World) (hb : Below w.heap.size w W) => check_any A0 n cap0 A m cap w.heap.size R p r q W hcap hb.size hn (hr.below hb))
  generalize crCode n m R p r q = e at HP HC hbad
  have he : (e != 0) = true := by simpa using hbad
  clear hr hbad hcap hn
  go_enter Try.func5, Try.ntmps5
  go_wp2_with fail
  refine HP.out.mono ?_
  rintro e w1 ⟨u, rfl, rfl, hw1⟩
  have HW1 := Lib.hid hw1; clear hw1 HP
  go_wp2_with fail
  refine (HC.out w1 HW1.out).mono ?_
  rintro e w2 ⟨rfl, hw2⟩
  have HW2 := Lib.hid (HW1.out.trans (hw2.mono HW1.out.size)); clear hw2
  go_wp2
  go_ret
  exact ⟨rfl, HW2.out⟩
theorem floodTrue_all (A0 : Option Addr) (n cap0 : Nat) (v : Nat → Int) (A : Option Addr) (m cap : Nat) (p r : Nat → Int) (q : Nat → Int) (R : Int) (w : World) (hn : n ≤ cap0 ∧ cap0 ≤ maxLen) (_ : ∀ j, j < n → (Lit.int .i64 (v j)).wf = true) (hv : Rd w w.heap.size A0 n (fun i => .int .i64 (v i)))
    (hm : m ≤ cap ∧ cap ≤ maxLen) (hq : ∀ i, i < m → (Lit.int .u32 (q i)).wf = true) (hr : Rd w w.heap.size A (m * 3) (crF p r q)) (_ : (Lit.int .i64 R).wf = true) :
    Calls Try.prog 5 #[.slice A0 n cap0, .slice A m cap, .int .i64 R] w fun e w' => e = .returned (.bool true) ∧ Below w.heap.size w w' := by
  obtain ⟨q', hr⟩ := crq_nat hq hr
  by_cases h : crCode n m R p r q' = 0
  · have := floodTrue_good A0 cap0 v A cap (crsOf n m R p r q') (crs_ok h) w hm hv (crs_rd h hr)
    rw [← crs_R h] at this
    exact this
  · exact floodTrue_bad A0 n cap0 A m cap R p r q' w (by omega) hm hr h
end Go.Proofs.Yteocheaihbifaaa
