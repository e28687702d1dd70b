/- The law GeneralAgree, walked. -/
import Derived.Test.YtjdibhablkhjnaaGeneralTrue
set_option linter.unusedVariables false
set_option linter.unusedSimpArgs false
namespace Go.Proofs.Ytjdibhablkhjnaa
open Go.RowKit

theorem bit_quiet (b : Bool) (a : Nat) (i : Int) (w : World) (n : Nat) (ha : a < 4294967296) (hb : bitB a i = b) :
    Calls Try.prog 7 #[.int .u32 a, .int .i64 i] (w.drewN n) fun e w'' => e = .returned (.bool b) ∧ ∃ m, w'' = w.drewN m :=
  Calls.quiet_of_same ((bit_is b a i (w.drewN n) ha hb).mono fun e w' ⟨h1, h2⟩ => ⟨h1, h2.symm⟩)
set_option maxRecDepth 100000 in
set_option maxHeartbeats 3200000 in
theorem generalAgree_good (c : Camp) (hc : CampOk c) (A : Option Addr) (cap B : Nat) (w : World) (hB : B ≤ w.heap.size) (hr : Rd w B A c.nl (fun j => .bool (c.lies j))) :
    Calls Try.prog 3 #[.int .i64 c.n, .int .i64 c.d, .bool c.ord, .int .u32 c.L, .slice A c.nl cap] w fun e w' => e = .returned (.bool true) ∧ Below w.heap.size w w' := by
  have HR := Lib.hid hr; clear hr
  have HO := Lib.hid hc
  have h1 := hc.n.1
  have h7 := hc.n.2
  have hd := hc.d
  have HL := Lib.hid hc.l32
  obtain ⟨q, hq⟩ : ∃ q, pop c.L = q := ⟨_, rfl⟩
  have hq7 := hc.pop7
  rw [hq] at hq7
  have HQ := Lib.hid hq
  have HT : Hid (q ≤ c.d → 3 * c.d < c.n → ∀ i j, i < c.n → j < c.n → i ≠ 0 → j ≠ 0 → bitB c.L (i : Int) = false → bitB c.L (j : Int) = false → gb c i = gb c j) := by
    show _ → _
    intro h2 h3 i j hi hj hi0 hj0 hli hlj
    rw [bitB_nat] at hli hlj
    unfold gb
    rw [if_neg hi0, if_neg hj0]
    exact gen_agree h1 hc.L (by omega) (by omega) h3 hi hj hi0 hj0 hli hlj
  clear hc hq
  go_enter Try.func3, Try.ntmps3
  go_wp2_with fail
  refine (gen_good c HO.out A cap B w hB HR.out).mono ?_
  rintro e w1 ⟨v, rfl, A', cap', rfl, ho1, hb1⟩
  obtain ⟨g, rfl, hg1, hg2, hcl, _⟩ := ho1.pos1 h1
  have HB1 := Lib.hid hb1
  have HCL := Lib.hid hcl
  clear ho1 hb1 hcl hg1
  by_cases hm : q ≤ c.d ∧ 3 * c.d < c.n
  · have HT := Lib.hid (HT.out hm.1 hm.2)
    obtain ⟨hm1, hm2⟩ := hm
    have hd1 : decide (c.d < q) = false := by simp; omega
    have hd2 : decide ((c.n : Int) ≤ 3 * (c.d : Int)) = false := by simp; omega
    go_wp2_with (go_at_call 6; refine (size_is q _ _ HL.out HQ.out).mono ?_; rintro e w' ⟨rfl, rfl⟩)
    go_loopw [13] (fun i wr => ∃ j : Nat, j ≤ c.n ∧ i = .int .i64 j ∧ Hid (Sim w1 wr)) (fun i _ => c.n - (intOf i).toNat)
    case atStart => exact ⟨0, by omega, rfl, rfl, rfl, rfl, rfl⟩
    case round =>
      obtain ⟨i, hi, rfl, HS⟩ := hrel
      by_cases hlt : i < c.n
      · obtain ⟨b, hb⟩ : ∃ b, bitB c.L (i : Int) = b := ⟨_, rfl⟩
        have HBI := Lib.hid hb
        clear hb
        go_wp2
        go_loopw [14] (fun x wr => ∃ j : Nat, 1 ≤ j ∧ (j ≤ i ∨ j = 1) ∧ x = .int .i64 j ∧ Hid (Sim w1 wr)) (fun x _ => i - (intOf x).toNat)
        case atStart => exact ⟨1, by omega, by omega, rfl, HS⟩
        case round =>
          clear HS
          obtain ⟨j, hj1, hj, rfl, HS⟩ := hrel
          by_cases hlj : j < i
          · obtain ⟨b2, hb2⟩ : ∃ b2, bitB c.L (j : Int) = b2 := ⟨_, rfl⟩
            have HBJ := Lib.hid hb2
            clear hb2
            have ci := (cell_sim HS.out _).trans (HCL.out i hlt)
            have cj := (cell_sim HS.out _).trans (HCL.out j (by omega))
            obtain ⟨y, hy⟩ : ∃ y, gb c j = y := ⟨_, rfl⟩
            obtain ⟨x, hx⟩ : ∃ x, gb c i = x := ⟨_, rfl⟩
            have HXY : Hid (b = false → b2 = false → x = y) := by
              show _ → _
              intro e1 e2
              subst e1 e2
              rw [← hx, ← hy]
              exact HT.out i j hlt (by omega) (by omega) (by omega) HBI.out HBJ.out
            rw [hx] at ci
            rw [hy] at cj
            clear hx hy
            cases b
            · cases b2
              · obtain rfl : x = y := HXY.out rfl rfl
                go_wp2
                go_quiet ((first | (go_at_call 7; (with_reducible exact bit_quiet _ _ _ _ _ HL.out HBI.out)) | (go_at_call 7; (with_reducible exact bit_quiet _ _ _ _ _ HL.out HBJ.out))))
                go_wp2
                go_roundw
                case rel => exact ⟨j + 1, by omega, by omega, by go_num, HS.out⟩
                case measure => simp [intOf]; omega
              · go_wp2
                go_quiet ((first | (go_at_call 7; (with_reducible exact bit_quiet _ _ _ _ _ HL.out HBI.out)) | (go_at_call 7; (with_reducible exact bit_quiet _ _ _ _ _ HL.out HBJ.out))))
                go_wp2
                go_roundw
                case rel => exact ⟨j + 1, by omega, by omega, by go_num, HS.out⟩
                case measure => simp [intOf]; omega
            · go_wp2
              go_quiet ((first | (go_at_call 7; (with_reducible exact bit_quiet _ _ _ _ _ HL.out HBI.out)) | (go_at_call 7; (with_reducible exact bit_quiet _ _ _ _ _ HL.out HBJ.out))))
              go_wp2
              go_roundw
              case rel => exact ⟨j + 1, by omega, by omega, by go_num, HS.out⟩
              case measure => simp [intOf]; omega
          · go_wp2
            go_roundw
            case rel => exact ⟨i + 1, by omega, by go_num, HS⟩
            case measure => simp [intOf]; omega
      · obtain rfl : i = c.n := by omega
        go_wp2
        go_ret
        exact ⟨rfl, below_sim HB1.out HS.out⟩
  · have hm' : c.d < q ∨ c.n ≤ 3 * c.d := by omega
    clear hm
    rcases hm' with hm | hm
    all_goals
      go_wp2_with (go_at_call 6; refine (size_is q _ _ HL.out HQ.out).mono ?_; rintro e w' ⟨rfl, rfl⟩)
      all_goals
        go_ret
        exact ⟨rfl, HB1.out⟩
set_option maxRecDepth 100000 in
set_option maxHeartbeats 1600000 in
theorem generalAgree_bad (n d : Int) (o : Bool) (L : Nat) (A : Option Addr) (nl cap : Nat) (w : World) (hL : L < 4294967296) (hnl : nl ≤ maxLen) (hbad : ¬ (1 ≤ n ∧ n ≤ 7 ∧ 0 ≤ d ∧ d ≤ 2 ∧ L < 2 ^ n.toNat ∧ (L ≠ 0 → 0 < nl))) :
    Calls Try.prog 3 #[.int .i64 n, .int .i64 d, .bool o, .int .u32 L, .slice A nl cap] w fun e w' => e = .returned (.bool true) ∧ Below w.heap.size w w' := by
  have HB := Lib.hid hbad; clear hbad
  have HL := Lib.hid hL; clear hL
  have HN := Lib.hid hnl; clear hnl
  go_enter Try.func3, Try.ntmps3
  go_wp2_with fail
  refine (gen_bad n d o L A nl cap w HL.out HN.out HB.out).mono ?_
  rintro e w1 ⟨x, rfl, hx, rfl⟩
  go_wp2
  go_ret
  exact ⟨rfl, Below.refl _ _⟩
theorem generalAgree_all (n d : Int) (o : Bool) (x : Int) (A : Option Addr) (nl cap : Nat) (f : Nat → Bool) (w : World) (hn : (Lit.int .i64 n).wf = true) (hd : (Lit.int .i64 d).wf = true) (hx : (Lit.int .u32 x).wf = true) (hm : nl ≤ cap ∧ cap ≤ maxLen) (hr : Rd w w.heap.size A nl (fun j => .bool (f j))) :
    Calls Try.prog 3 #[.int .i64 n, .int .i64 d, .bool o, .int .u32 x, .slice A nl cap] w fun e w' => e = .returned (.bool true) ∧ Below w.heap.size w w' := by
  obtain ⟨L, rfl, hL⟩ := u32_nat hx
  by_cases h : 1 ≤ n ∧ n ≤ 7 ∧ 0 ≤ d ∧ d ≤ 2 ∧ L < 2 ^ n.toNat ∧ (L ≠ 0 → 0 < nl)
  · obtain ⟨h1, h2, h3, h4, h5, h6⟩ := h
    obtain ⟨k, rfl⟩ := Int.eq_ofNat_of_zero_le (by omega : 0 ≤ n)
    obtain ⟨d', rfl⟩ := Int.eq_ofNat_of_zero_le (by omega : 0 ≤ d)
    exact generalAgree_good ⟨k, d', o, L, f, nl⟩ ⟨⟨by show 1 ≤ k; omega, by show k ≤ 7; omega⟩, by simpa using h5, by show d' ≤ 2; omega, h6, by show nl ≤ _; have := hm; unfold maxLen at this; omega⟩ A cap w.heap.size w (Nat.le_refl _) hr
  · exact generalAgree_bad n d o L A nl cap w hL (by omega) h
end Go.Proofs.Ytjdibhablkhjnaa
