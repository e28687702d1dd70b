/- The law GeneralTrue, walked. -/
import Derived.Test.YtjdibhablkhjnaaGen3
set_option linter.unusedVariables false
set_option linter.unusedSimpArgs false
namespace Go.Proofs.Ytjdibhablkhjnaa
open Go.RowKit

theorem CampOk.pop7 {c : Camp} (h : CampOk c) : pop c.L ≤ 7 := Nat.le_trans (pop_le h.L (by have := h.n.2; omega)) h.n.2
set_option maxRecDepth 100000 in
set_option maxHeartbeats 3200000 in
theorem generalTrue_good (c : Camp) (hc : CampOk c) (A : Option Addr) (cap B : Nat) (w : World) (hB : B ≤ w.heap.size) (hr : Rd w B A c.nl (fun j => .bool (c.lies j))) :
    Calls Try.prog 4 #[.int .i64 c.n, .int .i64 c.d, .bool c.ord, .int .u32 c.L, .slice A c.nl cap] w fun e w' => e = .returned (.bool true) ∧ Below w.heap.size w w' := by
  have HR := Lib.hid hr; clear hr
  have HO := Lib.hid hc
  have h1 := hc.n.1
  have h7 := hc.n.2
  have hd := hc.d
  have HL := Lib.hid hc.l32
  obtain ⟨q, hq⟩ : ∃ q, pop c.L = q := ⟨_, rfl⟩
  have hq7 := hc.pop7
  rw [hq] at hq7
  have HQ := Lib.hid hq
  have HT : Hid (c.L.testBit 0 = false → 2 * q + c.d < c.n → ∀ i, i < c.n → gb c i = c.ord) := by
    show _ → _
    intro h0 hm i hi
    unfold gb
    split
    · rfl
    · exact gen_true h1 hc.L (by omega) h0 (by omega) hi ‹_›
  clear hc hq
  go_enter Try.func4, Try.ntmps4
  go_wp2_with fail
  refine (gen_good c HO.out A cap B w hB HR.out).mono ?_
  rintro e w1 ⟨v, rfl, A', cap', rfl, ho1, hb1⟩
  obtain ⟨g, rfl, hg1, hg2, hcl, _⟩ := ho1.pos1 h1
  have HB1 := Lib.hid hb1
  have HCL := Lib.hid hcl
  have c0 : w1.cell? ⟨g, 0, none⟩ = some (.bool c.ord) := hcl 0 h1
  clear ho1 hb1 hcl hg1
  cases hb0 : c.L.testBit 0
  · have HB0 : Hid (bitB c.L ((0 : Nat) : Int) = false) := by show _ = _; rw [bitB_nat]; exact hb0
    have HT := Lib.hid (HT.out hb0)
    clear hb0
    by_cases hm : 2 * q + c.d < c.n
    · have HT := Lib.hid (HT.out hm)
      go_wp2_with (first | (go_at_call 7; refine (bit_is _ _ _ _ HL.out HB0.out).mono ?_; rintro e w' ⟨rfl, rfl⟩) | (go_at_call 6; refine (size_is q _ _ HL.out HQ.out).mono ?_; rintro e w' ⟨rfl, rfl⟩))
      go_loop [57] (fun i => ∃ j : Nat, j ≤ c.n ∧ i = .int .i64 j) (fun i => c.n - (intOf i).toNat)
      case atStart => exact ⟨0, by omega, rfl⟩
      case round =>
        obtain ⟨j, hj, rfl⟩ := hrel
        by_cases hlt : j < c.n
        · have cj : w1.cell? ⟨g, j, none⟩ = some (.bool c.ord) := by rw [HCL.out j hlt, HT.out j hlt]
          obtain ⟨b, hb⟩ : ∃ b, bitB c.L (j : Int) = b := ⟨_, rfl⟩
          have HBJ := Lib.hid hb
          clear hb c0
          cases b
          all_goals
            go_wp2_with (go_at_call 7; refine (bit_is _ _ _ _ HL.out HBJ.out).mono ?_; rintro e w' ⟨rfl, rfl⟩)
            go_round
            case rel => exact ⟨j + 1, by omega, by go_num⟩
            case measure => simp [intOf]; omega
        · obtain rfl : j = c.n := by omega
          go_wp2
          go_ret
          exact ⟨rfl, HB1.out⟩
    · go_wp2_with (first | (go_at_call 7; refine (bit_is _ _ _ _ HL.out HB0.out).mono ?_; rintro e w' ⟨rfl, rfl⟩) | (go_at_call 6; refine (size_is q _ _ HL.out HQ.out).mono ?_; rintro e w' ⟨rfl, rfl⟩))
      go_ret
      exact ⟨rfl, HB1.out⟩
  · have HB0 : Hid (bitB c.L ((0 : Nat) : Int) = true) := by show _ = _; rw [bitB_nat]; exact hb0
    clear hb0
    go_wp2_with (go_at_call 7; refine (bit_is _ _ _ _ HL.out HB0.out).mono ?_; rintro e w' ⟨rfl, rfl⟩)
    go_ret
    exact ⟨rfl, HB1.out⟩
set_option maxRecDepth 100000 in
set_option maxHeartbeats 1600000 in
theorem generalTrue_bad (n d : Int) (o : Bool) (L : Nat) (A : Option Addr) (nl cap : Nat) (w : World) (hL : L < 4294967296) (hnl : nl ≤ maxLen) (hbad : ¬ (1 ≤ n ∧ n ≤ 7 ∧ 0 ≤ d ∧ d ≤ 2 ∧ L < 2 ^ n.toNat ∧ (L ≠ 0 → 0 < nl))) :
    Calls Try.prog 4 #[.int .i64 n, .int .i64 d, .bool o, .int .u32 L, .slice A nl cap] w fun e w' => e = .returned (.bool true) ∧ Below w.heap.size w w' := by
  have HB := Lib.hid hbad; clear hbad
  have HL := Lib.hid hL; clear hL
  have HN := Lib.hid hnl; clear hnl
  go_enter Try.func4, Try.ntmps4
  go_wp2_with fail
  refine (gen_bad n d o L A nl cap w HL.out HN.out HB.out).mono ?_
  rintro e w1 ⟨x, rfl, hx, rfl⟩
  go_wp2
  go_ret
  exact ⟨rfl, Below.refl _ _⟩
theorem generalTrue_all (n d : Int) (o : Bool) (x : Int) (A : Option Addr) (nl cap : Nat) (f : Nat → Bool) (w : World) (hn : (Lit.int .i64 n).wf = true) (hd : (Lit.int .i64 d).wf = true) (hx : (Lit.int .u32 x).wf = true) (hm : nl ≤ cap ∧ cap ≤ maxLen) (hr : Rd w w.heap.size A nl (fun j => .bool (f j))) :
    Calls Try.prog 4 #[.int .i64 n, .int .i64 d, .bool o, .int .u32 x, .slice A nl cap] w fun e w' => e = .returned (.bool true) ∧ Below w.heap.size w w' := by
  obtain ⟨L, rfl, hL⟩ := u32_nat hx
  by_cases h : 1 ≤ n ∧ n ≤ 7 ∧ 0 ≤ d ∧ d ≤ 2 ∧ L < 2 ^ n.toNat ∧ (L ≠ 0 → 0 < nl)
  · obtain ⟨h1, h2, h3, h4, h5, h6⟩ := h
    obtain ⟨k, rfl⟩ := Int.eq_ofNat_of_zero_le (by omega : 0 ≤ n)
    obtain ⟨d', rfl⟩ := Int.eq_ofNat_of_zero_le (by omega : 0 ≤ d)
    exact generalTrue_good ⟨k, d', o, L, f, nl⟩ ⟨⟨by show 1 ≤ k; omega, by show k ≤ 7; omega⟩, by simpa using h5, by show d' ≤ 2; omega, h6, by show nl ≤ _; have := hm; unfold maxLen at this; omega⟩ A cap w.heap.size w (Nat.le_refl _) hr
  · exact generalTrue_bad n d o L A nl cap w hL (by omega) h
end Go.Proofs.Ytjdibhablkhjnaa
