/- The law QuorumMore, walked. -/
import Derived.Test.YtgjmnnbcclgahaaQuorum1
set_option linter.unusedVariables false
set_option linter.unusedSimpArgs false
namespace Go.Proofs.Ytgjmnnbcclgahaa
open Go.RowKit

theorem or_lt32 {s t : Nat} (hs : s < 4294967296) (ht : t < 4294967296) : s ||| t < 4294967296 := Nat.or_lt_two_pow (n := 32) hs ht
theorem le_or (s t : Nat) : s ≤ s ||| t := Nat.left_le_or
theorem winsB_none (f : Nat → Nat) (s : Nat) : winsB f 0 s = false := rfl
theorem winsB_self {f : Nat → Nat} {m k : Nat} (hk : k < m) (h : f k < 4294967296) : winsB f m (f k) = true := anyTo_iff.2 ⟨k, hk, (sub32_iff h h).2 fun _ h => h⟩
theorem winsB_mono {f : Nat → Nat} {m s t : Nat} (hf : ∀ j, j < m → f j < 4294967296) (hs : s < 4294967296) (ht : t < 4294967296) (h : winsB f m s = true) : winsB f m (s ||| t) = true := by
  obtain ⟨j, hj, hp⟩ := anyTo_iff.1 h
  refine anyTo_iff.2 ⟨j, hj, ?_⟩
  rw [sub32_iff (hf j hj) hs] at hp
  rw [sub32_iff (hf j hj) (or_lt32 hs ht)]
  intro i hi
  simp [hp i hi]

theorem ones_int {n : Nat} (h : n ≤ 6) : ((2 : Int) ^ n - 1) % 4294967296 = ((2 ^ n - 1 : Nat) : Int) := by
  have h2 := pow_small h
  have e : ((2 : Int) ^ n) = ((2 ^ n : Nat) : Int) := by simp
  have h3 := Nat.two_pow_pos n
  rw [e]
  generalize 2 ^ n = p at h2 h3 ⊢
  omega
theorem ones_code {n : Nat} (h : quSize n 1) : quCode n (fun _ => 2 ^ n - 1) 1 (2 ^ n - 1) = 0 := by
  have h3 : 2 ^ 1 ≤ 2 ^ n := Nat.pow_le_pow_right (by omega) (by have := h.1; omega)
  exact quCode_mk h (fun _ _ => ⟨by omega, by omega⟩) (by omega)

set_option maxHeartbeats 800000 in
theorem quorumMore_bad (n : Int) (A : Option Addr) (m cap : Nat) (f : Nat → Nat) (s t : Nat) (w : World) (hm : m ≤ maxLen) (hs : s < 4294967296) (ht : t < 4294967296) (hr : Rd w w.heap.size A m (fun j => .int .u32 (f j : Nat))) (hbad : quCode n f m (s ||| t) ≠ 0) :
    Calls Try.prog 6 #[.int .i64 n, .slice A m cap, .int .u32 s, .int .u32 t] w fun e w' => e = .returned (.bool true) ∧ Below w.heap.size w w' := by
  have HM := Lib.hid hm; clear hm
  have HR := Lib.hid hr; clear hr
  have HU := Lib.hid (u32_or_nat s t hs ht)
  have hb1 : (quCode n f m (s ||| t) == 0) = false := beq_eq_false_iff_ne.2 hbad
  have hb2 : (quCode n f m (s ||| t) != 0) = true := by simpa using hbad
  have HBAD := Lib.hid hbad; clear hbad
  have HQ : ∃ c b, ∀ w1 : World, Below w.heap.size w w1 → Calls Try.prog 17 #[.int .i64 n, .slice A m cap, .int .u32 s] w1 fun e w' => e = .returned (.tuple #[.bool b, .int .i64 c]) ∧ Below w1.heap.size w1 w' := by
    by_cases hc : quCode n f m s = 0
    · exact ⟨0, _, fun w1 hb => quWins_good n A m cap w.heap.size f s w1 hb.size HM.out (HR.out.below hb) hc⟩
    · exact ⟨_, _, fun w1 hb => quWins_bad n A m cap w.heap.size f s w1 hb.size HM.out (HR.out.below hb) hc⟩
  obtain ⟨c, b, HQ⟩ := HQ
  have HQ := Lib.hid HQ
  go_enter Try.func6, Try.ntmps6
  go_wp2_with fail
  refine (HQ.out w (Below.refl _ _)).mono ?_
  rintro e w1 ⟨rfl, hb1⟩
  have HB1 := Lib.hid hb1; clear hb1
  go_wp2_with fail
  rw [HU.out]
  refine (quWins_bad n A m cap w.heap.size f _ w1 HB1.out.size HM.out (HR.out.below HB1.out) HBAD.out).mono ?_
  rintro e w2 ⟨rfl, hb2⟩
  have HB2 := Lib.hid (HB1.out.trans (hb2.mono HB1.out.size)); clear hb2
  go_wp2_with fail
  rw [HU.out]
  refine (setsCheck_any n A m cap w.heap.size f _ w2 HM.out (HR.out.below HB2.out)).mono ?_
  rintro e w2 ⟨rfl, rfl⟩
  go_wp2
  all_goals (go_ret; exact ⟨rfl, HB2.out⟩)

set_option maxHeartbeats 1600000 in
theorem quorumMore_good (n : Nat) (A : Option Addr) (m cap : Nat) (f : Nat → Nat) (s t : Nat) (w : World) (hm : m ≤ maxLen) (hs : s < 4294967296) (ht : t < 4294967296) (hr : Rd w w.heap.size A m (fun j => .int .u32 (f j : Nat))) (hgood : quCode n f m (s ||| t) = 0) :
    Calls Try.prog 6 #[.int .i64 n, .slice A m cap, .int .u32 s, .int .u32 t] w fun e w' => e = .returned (.bool true) ∧ Below w.heap.size w w' := by
  have hm' := hm
  unfold maxLen at hm'
  have HM := Lib.hid hm; clear hm
  have HR := Lib.hid hr; clear hr
  have HU := Lib.hid (u32_or_nat s t hs ht)
  have HG := Lib.hid hgood
  obtain ⟨⟨h1, h6, h20⟩, hf, hl⟩ := quCode_ok hgood
  have h6' : n ≤ 6 := by omega
  have hp := pow_small h6'
  have hf' : ∀ j, j < m → f j < 4294967296 := fun j hj => by have := (hf j hj).2; simp at this; omega
  have HS := Lib.hid (quCode_mk (n := n) (s := s) ⟨h1, h6, h20⟩ hf (by have := le_or s t; simp at hl; omega))
  have HX : Hid (∀ k, k < m → quCode n f m (f k) = 0) := fun k hk => quCode_mk ⟨h1, h6, h20⟩ hf (hf k hk).2
  have HF := Lib.hid hf'
  have HP := Lib.hid (ones_int h6')
  have HO1 := Lib.hid (ones_code ⟨h1, h6, by omega⟩ : quCode n (fun _ => 2 ^ n - 1) 1 (2 ^ n - 1) = 0)
  have HO2 := Lib.hid (winsB_self (f := fun _ => 2 ^ n - 1) (m := 1) (k := 0) (by omega) (by show 2 ^ n - 1 < _; omega))
  have HL := Lib.hid (fun h => winsB_mono (m := m) hf' hs ht h)
  have HZ : Hid (quSize n 0) := ⟨h1, h6, by omega⟩
  have HZ1 : Hid (quSize n 1) := ⟨h1, h6, by omega⟩
  have HSL : Hid (s < 2 ^ n) := by show s < 2 ^ n; have := le_or s t; simp at hl; omega
  clear hf hf' hl hp
  cases ha : winsB f m s
  all_goals cases hb : winsB f m (s ||| t)
  all_goals
    have HA := Lib.hid ha; clear ha
    have HB := Lib.hid hb; clear hb
    first
      | (exfalso; have := HL.out HA.out; rw [HB.out] at this; cases this; done)
      | skip
  all_goals
    go_enter Try.func6, Try.ntmps6
    go_wp2_with fail
    refine (quWins_is _ n A m cap w.heap.size f s w (Nat.le_refl _) HM.out HR.out HS.out HA.out).mono ?_
    rintro e w1 ⟨rfl, hb1⟩
    have HB1 := Lib.hid hb1; clear hb1
    go_wp2_with fail
    rw [HU.out]
    refine (quWins_is _ n A m cap w.heap.size f _ w1 HB1.out.size HM.out (HR.out.below HB1.out) HG.out HB.out).mono ?_
    rintro e w2 ⟨rfl, hb2⟩
    have HB2 := Lib.hid (HB1.out.trans (hb2.mono HB1.out.size)); clear hb2
    go_wp2_with fail
    rw [HU.out]
    refine (int_is (setsCheck_any n A m cap w.heap.size f _ w2 HM.out (HR.out.below HB2.out)) HG.out).mono ?_
    rintro e w2 ⟨rfl, rfl⟩
    go_wp2
    go_loopw [52] (fun i wr => ∃ k : Nat, k ≤ m ∧ i = .int .i64 k ∧ Hid (Below w.heap.size w wr)) (fun i _ => m - (intOf i).toNat)
    case atStart => exact ⟨0, by omega, rfl, HB2.out⟩
    case round =>
      obtain ⟨k, hk, rfl, HBr⟩ := hrel
      by_cases hlt : k < m
      · obtain ⟨ad, rfl, hbl, hc⟩ := HR.out (by omega)
        have hck := ((HBr.out.cell (p := ad.add k) (by rw [addr_block]; exact hbl))).trans (hc k hlt)
        clear hc
        go_wp2_with fail
        refine (quWins_is true n (some ad) m cap w.heap.size f (f k) wr HBr.out.size HM.out (HR.out.below HBr.out) (HX.out k hlt) (winsB_self hlt (HF.out k hlt))).mono ?_
        rintro e w3 ⟨rfl, hb3⟩
        have HB3 := Lib.hid (HBr.out.trans (hb3.mono HBr.out.size)); clear hb3
        go_wp2
        go_roundw
        case rel => exact ⟨k + 1, by omega, by go_num, HB3⟩
        case measure => simp [intOf]; omega
      · go_wp2_with fail
        refine (quWins_is false n none 0 0 w.heap.size (fun _ => 0) s wr HBr.out.size (by unfold maxLen; omega) (Rd.zero _ _ _ _) (quCode_mk HZ.out (fun j hj => absurd hj (by omega)) HSL.out) (winsB_none _ _)).mono ?_
        rintro e w3 ⟨rfl, hb3⟩
        have HB3 := Lib.hid (HBr.out.trans (hb3.mono HBr.out.size)); clear hb3
        go_wp2_with fail
        rw [HP.out]
        refine (quWins_is true n (some ⟨w3.heap.size, 0, none⟩) 1 1 (w3.heap.size + 1) (fun _ => 2 ^ n - 1) (2 ^ n - 1) _ (by simp) (by unfold maxLen; omega) (cell_new _ _ _ _ _ rfl (one_cell _)) HO1.out HO2.out).mono ?_
        rintro e w4 ⟨rfl, hb4⟩
        have HB4 := Lib.hid ((HB3.out.alloc HB3.out.size _).trans (hb4.mono (by have := HB3.out.size; simp; omega))); clear hb4
        go_wp2
        go_ret
        exact ⟨rfl, HB4.out⟩
theorem quorumMore_all (n : Int) (A : Option Addr) (m cap : Nat) (f : Nat → Nat) (s t : Int) (w : World) (_ : (Lit.int .i64 n).wf = true) (hmc : m ≤ cap ∧ cap ≤ maxLen) (_ : ∀ j, j < m → f j < 4294967296) (hr : Rd w w.heap.size A m (fun j => .int .u32 (f j : Nat)))
    (hs : (Lit.int .u32 s).wf = true) (ht : (Lit.int .u32 t).wf = true) :
    Calls Try.prog 6 #[.int .i64 n, .slice A m cap, .int .u32 s, .int .u32 t] w fun e w' => e = .returned (.bool true) ∧ Below w.heap.size w w' := by
  have hm := Nat.le_trans hmc.1 hmc.2
  obtain ⟨s, rfl, hs2⟩ := u32_nat hs
  obtain ⟨t, rfl, ht2⟩ := u32_nat ht
  by_cases hc : quCode n f m (s ||| t) = 0
  · obtain ⟨n, rfl⟩ := Int.eq_ofNat_of_zero_le (by have := (quCode_ok hc).1.1; omega : 0 ≤ n)
    exact quorumMore_good n A m cap f s t w hm hs2 ht2 hr hc
  · exact quorumMore_bad n A m cap f s t w hm hs2 ht2 hr hc
end Go.Proofs.Ytgjmnnbcclgahaa
