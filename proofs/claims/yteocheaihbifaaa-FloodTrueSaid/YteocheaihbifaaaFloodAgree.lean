/- The law FloodAgree, walked. -/
import Derived.Test.YteocheaihbifaaaFl2
import Derived.Test.YteocheaihbifaaaFl3
import Derived.Test.YteocheaihbifaaaQuiet
set_option linter.unusedVariables false
set_option linter.unusedSimpArgs false
namespace Go.Proofs.Yteocheaihbifaaa
open Go.RowKit

def crsOf (n m : Nat) (R : Int) (p r : Nat → Int) (q : Nat → Nat) : Crs := ⟨n, m, R.toNat, fun i => (p i).toNat, fun i => (r i).toNat, q⟩
theorem crs_rd {n m : Nat} {R : Int} {p r : Nat → Int} {q : Nat → Nat} (h : crCode n m R p r q = 0) {w : World} {B : Nat} {A : Option Addr} (hr : Rd w B A (m * 3) (crF p r (fun i => (q i : Nat)))) :
    Rd w B A ((crsOf n m R p r q).m * 3) (crF (fun i => ((crsOf n m R p r q).p i : Nat)) (fun i => ((crsOf n m R p r q).r i : Nat)) (fun i => ((crsOf n m R p r q).q i : Nat))) := by
  obtain ⟨_, h3, h4, _⟩ := crCode_good h
  refine hr.congr fun j hj => ?_
  have hd : j / 3 < m := by omega
  have e1 := h3 _ hd
  have e2 := h4 _ hd
  unfold crF crsOf
  simp only
  rw [Int.toNat_of_nonneg e1.1, Int.toNat_of_nonneg (by omega : 0 ≤ r (j / 3))]
theorem crs_R {n m : Nat} {R : Int} {p r : Nat → Int} {q : Nat → Nat} (h : crCode n m R p r q = 0) : R = ((crsOf n m R p r q).R : Nat) := by
  have := (crCode_good h).1.2.1
  exact (Int.toNat_of_nonneg this).symm
theorem crq_nat {m : Nat} {p r q : Nat → Int} (hq : ∀ i, i < m → (Lit.int .u32 (q i)).wf = true) {w : World} {B : Nat} {A : Option Addr} (hr : Rd w B A (m * 3) (crF p r q)) : ∃ q' : Nat → Nat, Rd w B A (m * 3) (crF p r (fun i => (q' i : Nat))) := by
  refine ⟨fun i => (q i).toNat, hr.congr fun j hj => ?_⟩
  obtain ⟨k, h1, _⟩ := u32_nat (hq (j / 3) (by omega))
  unfold crF
  simp only [h1, Int.toNat_natCast]

set_option maxRecDepth 100000 in
set_option maxHeartbeats 3200000 in
theorem floodAgree_good (A0 : Option Addr) (cap0 : Nat) (v : Nat → Int) (A : Option Addr) (cap : Nat) (c : Crs) (hc : c.Ok) (w : World) (hcap : c.m ≤ cap ∧ cap ≤ maxLen)
    (hv : Rd w w.heap.size A0 c.n (fun i => .int .i64 (v i))) (hr : Rd w w.heap.size A (c.m * 3) (crF (fun i => (c.p i : Nat)) (fun i => (c.r i : Nat)) (fun i => (c.q i : Nat)))) :
    Calls Try.prog 3 #[.slice A0 c.n cap0, .slice A c.m cap, .int .i64 c.R] w fun e w' => e = .returned (.bool true) ∧ Below w.heap.size w w' := by
  have HP := Lib.hid (play_good A0 cap0 _ v A cap _ c hc w hcap (Nat.le_refl _) (Nat.le_refl _) hv hr)
  have HR := Lib.hid hr
  have HCAP := Lib.hid hcap
  have hn1 := hc.n1; have hn6 := hc.n6; have hR8 := hc.r8; have hcm := hc.m_le
  have HCC := Lib.hid (crs_code hc)
  obtain ⟨T, hT⟩ : ∃ T, (kn c c.R).2 = T := ⟨_, rfl⟩
  have hpop := there_pop hc
  have HW := Lib.hid (w32 hn6 (kn_there_lt (c := c) c.R))
  have HT : Hid (c.m < c.R → ∀ i j, bitB T (i : Nat) = true → bitB T (j : Nat) = true → outF c v i = outF c v j) := by
    show _ → _
    intro h i j hi hj
    rw [bitB_nat, ← hT] at hi hj
    obtain ⟨r, h1, h2⟩ := quiet_round h
    exact agree hc v h1 h2 hi hj
  rw [hT] at HW HP hpop
  obtain ⟨z, hz⟩ : ∃ z, pop T = z := ⟨_, rfl⟩
  have HZ := Lib.hid hz
  rw [hz] at hpop
  have hzi : ((z : Int) != (c.n : Int) - (c.m : Int)) = false := by rw [bne_eq_false_iff_eq]; omega
  clear hr hcap hc hT hz hv hpop
  go_enter Try.func3, Try.ntmps3
  go_wp2_with fail
  refine HP.out.mono ?_
  rintro e w1 ⟨u, rfl, g, rfl, hl1⟩
  have HL1 := Lib.hid hl1; clear hl1 HP
  go_wp2_with fail
  refine (int_is_b (check_any A0 c.n cap0 A c.m cap w.heap.size c.R (fun i => (c.p i : Nat)) (fun i => (c.r i : Nat)) c.q w1 HCAP.out HL1.out.size (by unfold maxLen; omega) (HR.out.below HL1.out.bel)) HCC.out).mono ?_
  rintro e w2 ⟨rfl, hw2⟩
  have HL2 := Lib.hid (HL1.out.keep hw2); clear hw2 HL1 HCC HR HCAP
  by_cases hRm : c.R ≤ c.m
  · go_wp2_with (go_at_call 8; refine (size_is z _ _ HW.out HZ.out).mono ?_; rintro e w' ⟨rfl, rfl⟩)
    go_ret
    exact ⟨rfl, HL2.out.bel⟩
  · have hRm1 : c.m < c.R := by omega
    have HT := Lib.hid (HT.out hRm1)
    have hRd : decide (c.R ≤ c.m) = false := decide_eq_false hRm
    clear hRm hRm1
    go_wp2_with (go_at_call 8; refine (size_is z _ _ HW.out HZ.out).mono ?_; rintro e w' ⟨rfl, rfl⟩)
    clear hzi
    go_loopw [10] (fun x wr => ∃ i : Nat, i ≤ c.n ∧ x = .int .i64 i ∧ Hid (Lay w wr [arr g 3 c.n (fun i => .int .i64 (outF c v i))])) (fun x _ => c.n - (intOf x).toNat)
    case atStart => exact ⟨0, by omega, rfl, HL2.out⟩
    case round =>
      clear HL2
      obtain ⟨i, hi, rfl, HI⟩ := hrel
      by_cases hlt : i < c.n
      · obtain ⟨b, hb⟩ : ∃ b, bitB T (i : Int) = b := ⟨_, rfl⟩
        have HBI := Lib.hid hb
        clear hb
        go_wp2
        go_loopw [11] (fun x wr => ∃ j : Nat, j ≤ i ∧ x = .int .i64 j ∧ Hid (Lay w wr [arr g 3 c.n (fun i => .int .i64 (outF c v i))])) (fun x _ => i - (intOf x).toNat)
        case atStart => exact ⟨0, by omega, rfl, HI.out⟩
        case round =>
          clear HI
          obtain ⟨j, hj, rfl, HJ⟩ := hrel
          by_cases hlj : j < i
          · obtain ⟨b2, hb2⟩ : ∃ b2, bitB T (j : Int) = b2 := ⟨_, rfl⟩
            have HBJ := Lib.hid hb2
            clear hb2
            have ci := HJ.out.cell1 0 rfl hlt
            have cj := HJ.out.cell1 0 rfl (show j < c.n by omega)
            obtain ⟨y, hy⟩ : ∃ y, outF c v j = y := ⟨_, rfl⟩
            obtain ⟨x, hx⟩ : ∃ x, outF c v i = x := ⟨_, rfl⟩
            have HXY : Hid (b = true → b2 = true → x = y) := by
              show _ → _
              intro e1 e2
              subst e1 e2
              rw [← hx, ← hy]
              exact HT.out i j HBI.out HBJ.out
            rw [hx] at ci
            rw [hy] at cj
            clear hx hy
            cases b
            case false =>
              go_wp2
              go_quiet ((first | (go_at_call 9; (with_reducible exact bit_quiet _ _ _ _ _ HW.out HBI.out)) | (go_at_call 9; (with_reducible exact bit_quiet _ _ _ _ _ HW.out HBJ.out))))
              go_wp2
              go_roundw
              case rel => exact ⟨j + 1, by omega, by go_num, HJ.out.sim ⟨rfl, rfl, rfl, rfl⟩⟩
              case measure => simp [intOf]; omega
            cases b2
            case false =>
              go_wp2
              go_quiet ((first | (go_at_call 9; (with_reducible exact bit_quiet _ _ _ _ _ HW.out HBI.out)) | (go_at_call 9; (with_reducible exact bit_quiet _ _ _ _ _ HW.out HBJ.out))))
              go_wp2
              go_roundw
              case rel => exact ⟨j + 1, by omega, by go_num, HJ.out.sim ⟨rfl, rfl, rfl, rfl⟩⟩
              case measure => simp [intOf]; omega
            obtain rfl : x = y := HXY.out rfl rfl
            go_wp2
            go_quiet ((first | (go_at_call 9; (with_reducible exact bit_quiet _ _ _ _ _ HW.out HBI.out)) | (go_at_call 9; (with_reducible exact bit_quiet _ _ _ _ _ HW.out HBJ.out))))
            go_wp2
            go_roundw
            case rel => exact ⟨j + 1, by omega, by go_num, HJ.out.sim ⟨rfl, rfl, rfl, rfl⟩⟩
            case measure => simp [intOf]; omega
          · obtain rfl : j = i := by omega
            go_wp2
            go_roundw
            case rel => exact ⟨j + 1, by omega, by go_num, HJ.out⟩
            case measure => simp [intOf]; omega
      · obtain rfl : i = c.n := by omega
        go_wp2
        go_ret
        exact ⟨rfl, HI.out.bel⟩

set_option maxRecDepth 100000 in
theorem floodAgree_bad (A0 : Option Addr) (n cap0 : Nat) (A : Option Addr) (m cap : Nat) (R : Int) (p r : Nat → Int) (q : Nat → Nat) (w : World) (hn : n ≤ maxLen) (hcap : m ≤ cap ∧ cap ≤ maxLen)
    (hr : Rd w w.heap.size A (m * 3) (crF p r (fun i => (q i : Nat)))) (hbad : crCode n m R p r q ≠ 0) :
    Calls Try.prog 3 #[.slice A0 n cap0, .slice A m cap, .int .i64 R] w fun e w' => e = .returned (.bool true) ∧ Below w.heap.size w w' := by
  have HP := Lib.hid (play_bad A0 n cap0 A m cap _ R p r q w hn hcap (Nat.le_refl _) hr hbad)
  have HC := Lib.hid (fun (W : World) (hb : Below w.heap.size w W) => check_any A0 n cap0 A m cap w.heap.size R p r q W hcap hb.size hn (hr.below hb))
  generalize crCode n m R p r q = e at HP HC hbad
  have he : (e != 0) = true := by simpa using hbad
  clear hr hbad hcap hn
  go_enter Try.func3, Try.ntmps3
  go_wp2_with fail
  refine HP.out.mono ?_
  rintro e w1 ⟨u, rfl, rfl, hw1⟩
  have HW1 := Lib.hid hw1; clear hw1 HP
  go_wp2_with fail
  refine (HC.out w1 HW1.out).mono ?_
  rintro e w2 ⟨rfl, hw2⟩
  have HW2 := Lib.hid (HW1.out.trans (hw2.mono HW1.out.size)); clear hw2
  go_wp2
  go_ret
  exact ⟨rfl, HW2.out⟩
theorem floodAgree_all (A0 : Option Addr) (n cap0 : Nat) (v : Nat → Int) (A : Option Addr) (m cap : Nat) (p r : Nat → Int) (q : Nat → Int) (R : Int) (w : World) (hn : n ≤ cap0 ∧ cap0 ≤ maxLen) (_ : ∀ j, j < n → (Lit.int .i64 (v j)).wf = true) (hv : Rd w w.heap.size A0 n (fun i => .int .i64 (v i)))
    (hm : m ≤ cap ∧ cap ≤ maxLen) (hq : ∀ i, i < m → (Lit.int .u32 (q i)).wf = true) (hr : Rd w w.heap.size A (m * 3) (crF p r q)) (_ : (Lit.int .i64 R).wf = true) :
    Calls Try.prog 3 #[.slice A0 n cap0, .slice A m cap, .int .i64 R] w fun e w' => e = .returned (.bool true) ∧ Below w.heap.size w w' := by
  obtain ⟨q', hr⟩ := crq_nat hq hr
  by_cases h : crCode n m R p r q' = 0
  · have := floodAgree_good A0 cap0 v A cap (crsOf n m R p r q') (crs_ok h) w hm hv (crs_rd h hr)
    rw [← crs_R h] at this
    exact this
  · exact floodAgree_bad A0 n cap0 A m cap R p r q' w (by omega) hm hr h
end Go.Proofs.Yteocheaihbifaaa
