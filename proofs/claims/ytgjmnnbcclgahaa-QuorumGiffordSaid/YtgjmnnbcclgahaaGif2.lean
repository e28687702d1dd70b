/- The walk of Votes. -/
import Derived.Test.YtgjmnnbcclgahaaGif1
import Derived.Test.YtgjmnnbcclgahaaBet2
set_option linter.unusedVariables false
set_option linter.unusedSimpArgs false
namespace Go.Proofs.Ytgjmnnbcclgahaa
open Go.RowKit

/-- Of the first i members of k: can none be spared? -/
def LeastIs (v : Nat → Nat) (n M k i : Nat) (y : Bool) : Prop := y = true ↔ ∀ j, j < i → k.testBit j = true → vs v n (clr k j) < M
theorem LeastIs.zero (v : Nat → Nat) (n M k : Nat) : LeastIs v n M k 0 true := ⟨fun _ j hj => absurd hj (by omega), fun _ => rfl⟩
theorem LeastIs.no {v : Nat → Nat} {n M k i : Nat} (h : LeastIs v n M k i false) : LeastIs v n M k (i + 1) false := ⟨fun h => absurd h (by simp), fun h2 => h.2 fun j hj => h2 j (by omega)⟩
theorem LeastIs.yes {v : Nat → Nat} {n M k i : Nat} (h : LeastIs v n M k i true) (hi : k.testBit i = true → vs v n (clr k i) < M) : LeastIs v n M k (i + 1) true :=
  ⟨fun _ j hj hb => by
    rcases Nat.lt_or_ge j i with h1 | h1
    · exact h.1 rfl j h1 hb
    · obtain rfl : j = i := by omega
      exact hi hb, fun _ => rfl⟩
theorem LeastIs.end_ {v : Nat → Nat} {n M k i : Nat} (hb : k.testBit i = true) (hi : ¬ vs v n (clr k i) < M) : LeastIs v n M k (i + 1) false := ⟨fun h => absurd h (by simp), fun h => absurd (h i (by omega) hb) hi⟩
/-- What Votes gives. -/
def VotesGive (n : Nat) (most : Int) (V : Nat → Int) (x : Value) (w' : World) : Prop :=
  (∃ c : Int, c ≠ 0 ∧ x = .tuple #[.slice none 0 0, .int .i64 c]) ∨
  (1 ≤ n ∧ n ≤ 6 ∧ ∃ (v : Nat → Nat) (M : Nat), most = M ∧ 1 ≤ M ∧ (∀ j, j < n → V j = v j ∧ v j ≤ 100) ∧ ∃ A' c', x = .tuple #[.slice A' (vl v n M (2 ^ n)).length c', .int .i64 0] ∧ 0 < (vl v n M (2 ^ n)).length ∧ (vl v n M (2 ^ n)).length ≤ c' ∧
    Rd w' w'.heap.size A' (vl v n M (2 ^ n)).length (fun j => .int .u32 (lf (vl v n M (2 ^ n)) j : Nat)))
set_option maxHeartbeats 1600000 in
theorem votes_good (n : Nat) (A : Option Addr) (cap M : Nat) (v : Nat → Nat) (w : World) (h1 : 1 ≤ n) (h6 : n ≤ 6) (hM : 1 ≤ M) (hv : ∀ j, j < n → v j ≤ 100) (hr : Rd w w.heap.size A n (fun j => .int .i64 (v j : Nat))) :
    Calls Try.prog 22 #[.slice A n cap, .int .i64 M] w (Gives fun x w' => Below w.heap.size w w' ∧ VotesGive n M (fun j => v j) x w') := by
  have HR := Lib.hid hr; clear hr
  have HV := Lib.hid hv
  have HB : Hid (anyTo (fun j => badV ((v j : Nat) : Int)) n = false) := Lib.hid (anyTo_no.2 fun j hj => by have := hv j hj; simp [badV]; omega)
  clear hv
  obtain ⟨p, hp⟩ : ∃ p : Nat, p = 2 ^ n := ⟨_, rfl⟩
  have hE : (2 : Int) ^ n = (p : Int) := by rw [hp]; simp
  have hp64 : p ≤ 64 := by rw [hp]; exact pow_small h6
  have HP := Lib.hid hp; clear hp
  have HL0 := Lib.hid ((Lay.nil w).newB [.slice A n cap] 43 1 rfl w.heap.size rfl)
  obtain ⟨b, hb⟩ : ∃ b, b = w.heap.size := ⟨_, rfl⟩
  go_enter Try.func22, Try.ntmps22
  go_wp2_with fail
  refine at_lay (F := fun W' => Calls _ _ _ W' _) HL0.out ?_
  rw [← hb] at HL0 ⊢
  have HBW : Hid (b = w.heap.size) := Lib.hid hb
  clear hb HL0
  intro W hW
  have HW := Lib.hid hW; clear hW
  have hcb : W.cell? ⟨b, 0, none⟩ = some (.slice A n cap) := HW.out.cellB 0 rfl 0 (by omega)
  refine (contains_Votes false A n cap w.heap.size _ W (by unfold maxLen; omega) (HR.out.below HW.out.bel) HB.out).mono ?_
  rintro e W ⟨rfl, rfl⟩
  clear HB
  go_wp2
  have HL1 : Hid (Lay w W [uRow none 0 0 (lf (vl v n M 0)), blk b 43 1 (ofL [.slice A n cap])]) := Lib.hid (HW.out.lnil _ _ _)
  clear HW
  obtain ⟨iI, hiI, hzI0, hzI1, hzI2⟩ := info_parts infoU32
  go_loopw [8, 29] (fun lv kv wr => ∃ (k m : Nat) (A' : Option Addr) (c' : Nat), k ≤ p ∧ m ≤ k ∧ kv = .int .u32 k ∧ lv = .slice A' m c' ∧ Hid (m = (vl v n M k).length) ∧ Hid (Lay w wr [uRow A' m c' (lf (vl v n M k)), blk b 43 1 (ofL [.slice A n cap])])) (fun _ kv _ => p - (intOf kv).toNat)
  case atStart => exact ⟨0, 0, none, 0, by omega, by omega, rfl, rfl, Lib.hid rfl, HL1⟩
  case round =>
    obtain ⟨k, m, A', c', hk, hmk, rfl, rfl, HM, HL⟩ := hrel
    clear HL1 hcb
    have hcb : wr.cell? ⟨b, 0, none⟩ = some (.slice A n cap) := HL.out.cellB 1 rfl 0 (by omega)
    have HRr := Lib.hid (HR.out.below HL.out.bel)
    by_cases hlt : k < p
    · have HS := Lib.hid (sumC_any v n k b w.heap.size cap A wr h6 HV.out (by omega) hcb HRr.out)
      obtain ⟨q, hq⟩ : ∃ q, q = vs v n k := ⟨_, rfl⟩
      rw [← hq] at HS
      have hq600 : q ≤ 600 := by rw [hq]; exact vs_small h6 HV.out
      have HQ := Lib.hid hq; clear hq
      by_cases hqm : q < M
      · have HN := Lib.hid (vl_no (v := v) (n := n) (most := M) (k := k) (fun h => by have := h.1; rw [← HQ.out] at this; omega))
        have HL2 : Hid (Lay w wr [uRow A' m c' (lf (vl v n M (k + 1))), blk b 43 1 (ofL [.slice A n cap])]) := by rw [HN.out]; exact HL
        have HM2 : Hid (m = (vl v n M (k + 1)).length) := by rw [HN.out]; exact HM
        clear HL
        go_wp2_with (go_at_call 37; refine HS.out.mono ?_; rintro e w6 ⟨rfl, rfl⟩)
        go_roundw
        case rel => exact ⟨k + 1, m, A', c', by omega, by omega, by go_num, rfl, HM2, HL2⟩
        case measure => simp [intOf]; omega
      · go_wp2_with (go_at_call 37; refine HS.out.mono ?_; rintro e w6 ⟨rfl, rfl⟩)
        clear HS
        obtain ⟨w6, rfl⟩ : ∃ w6, w6 = wr := ⟨_, rfl⟩
        clear hcb HRr
        go_loopw [10, 39] (fun bv iv wr => ∃ (i : Nat) (y : Bool), i ≤ n ∧ iv = .int .i64 i ∧ bv = .bool y ∧ Hid (LeastIs v n M k i y) ∧ Hid (Lay w wr [uRow A' m c' (lf (vl v n M k)), blk b 43 1 (ofL [.slice A n cap])])) (fun _ iv _ => n - (intOf iv).toNat)
        case atStart => exact ⟨0, true, by omega, rfl, rfl, Lib.hid (LeastIs.zero _ _ _ _), HL⟩
        case round =>
          obtain ⟨i, y, hi, rfl, rfl, HY, HLr⟩ := hrel
          clear HL
          have hcb : wr.cell? ⟨b, 0, none⟩ = some (.slice A n cap) := HLr.out.cellB 1 rfl 0 (by omega)
          by_cases hlt2 : i < n
          · cases y
            · have HY2 := Lib.hid HY.out.no
              go_wp2
              go_roundw
              case rel => exact ⟨i + 1, false, by omega, by go_num, rfl, HY2, HLr⟩
              case measure => simp [intOf]; omega
            · have hb := bit_num (P := k) (i := i) (by omega)
              have HS2 := Lib.hid (sumC_any v n (clr k i) b w.heap.size cap A wr h6 HV.out (Nat.lt_of_le_of_lt Nat.and_le_left (by omega)) hcb (HR.out.below HLr.out.bel))
              obtain ⟨q2, hq2⟩ : ∃ q, q = vs v n (clr k i) := ⟨_, rfl⟩
              rw [← hq2] at HS2
              have hq600 : q2 ≤ 600 := by rw [hq2]; exact vs_small h6 HV.out
              have HQ2 := Lib.hid hq2; clear hq2
              have hcl := clr_bits (s := k) (i := i) (by omega) (by omega)
              cases ht : k.testBit i
              · have HY2 := Lib.hid (HY.out.yes (fun h => by rw [ht] at h; cases h))
                rw [ht] at hb
                have hb : bits .and .u32 ((k : Int) / 2 ^ i) 1 = 0 := hb
                clear ht hcl HS2
                go_wp2
                go_roundw
                case rel => exact ⟨i + 1, true, by omega, by go_num, rfl, HY2, HLr⟩
                case measure => simp [intOf]; omega
              · rw [ht] at hb
                have hb : bits .and .u32 ((k : Int) / 2 ^ i) 1 = 1 := hb
                have HT := Lib.hid ht
                clear ht
                by_cases hqm2 : q2 < M
                · have HY2 := Lib.hid (HY.out.yes (fun _ => by rw [← HQ2.out]; exact hqm2))
                  go_wp2_with (go_at_call 37; refine HS2.out.mono ?_; rintro e w6 ⟨rfl, rfl⟩)
                  go_roundw
                  case rel => exact ⟨i + 1, true, by omega, by go_num, rfl, HY2, HLr⟩
                  case measure => simp [intOf]; omega
                · have HY2 := Lib.hid (LeastIs.end_ (v := v) (n := n) (M := M) HT.out (by rw [← HQ2.out]; exact hqm2))
                  go_wp2_with (go_at_call 37; refine HS2.out.mono ?_; rintro e w6 ⟨rfl, rfl⟩)
                  go_roundw
                  case rel => exact ⟨i + 1, false, by omega, by go_num, rfl, HY2, HLr⟩
                  case measure => simp [intOf]; omega
          · obtain rfl : i = n := by omega
            cases y
            · have HN := Lib.hid (vl_no (v := v) (n := i) (most := M) (k := k) (fun h => absurd (HY.out.2 h.2) (by simp)))
              have HL2 : Hid (Lay w wr [uRow A' m c' (lf (vl v i M (k + 1))), blk b 43 1 (ofL [.slice A i cap])]) := by rw [HN.out]; exact HLr
              have HM2 : Hid (m = (vl v i M (k + 1)).length) := by rw [HN.out]; exact HM
              clear HLr hcb
              go_wp2
              go_roundw
              case rel => exact ⟨k + 1, m, A', c', by omega, by omega, by go_num, rfl, HM2, HL2⟩
              case measure => simp [intOf]; omega
            · have HN := Lib.hid (vl_yes (v := v) (n := i) (most := M) (k := k) ⟨by rw [← HQ.out]; omega, HY.out.1 rfl⟩)
              have HM2 : Hid (m + 1 = (vl v i M (k + 1)).length) := Lib.hid (by rw [HN.out, List.length_append, ← HM.out]; rfl)
              have HL6 := Lib.hid (HLr.out.alloc (.cells #[.int .u32 (k : Nat)] 23))
              clear HLr hcb
              go_wp2_with (first
                | (at_builtin; refine wpList_ap1 rfl (.tmp 62) (.tmp 64) _ rfl 23 iI _ 4 Try.underlying22 hiI hzI0 hzI1 hzI2 rfl w.heap.size rfl (HL6.out.own 0 _ rfl) rfl (cell_new wr #[.int .u32 (k : Nat)] 23 (n := 1) (fun _ => .int .u32 (k : Nat)) wr.heap.size rfl (one_at rfl)) (fun _ _ => rfl) (fun j => .int .u32 (lf (vl v i M (k + 1)) j : Nat)) (fun j hj => by rw [HN.out, lf_app, if_pos (by rw [← HM.out]; exact hj)]) (fun j hj => by rw [HN.out, lf_app, if_neg (by rw [← HM.out]; omega), if_pos (by rw [← HM.out]; omega)]) (m + 1) rfl (by unfold maxLen; omega) (by omega) HL6.out.size ?_
                   intro A5 c5 w5 ho hg ha
                   have HL7 := Lib.hid (HL6.out.app 0 rfl ho hg ha)
                   clear ho hg ha HL6)
                | fail)
              go_roundw
              case rel => exact ⟨k + 1, m + 1, A5, c5, by omega, by omega, by go_num, rfl, HM2, HL7⟩
              case measure => simp [intOf]; omega
    · obtain rfl : k = p := by omega
      by_cases hm0 : m = 0
      · subst hm0
        go_wp2
        go_ret2
        exact ⟨_, rfl, HL.out.bel, .inl ⟨5, by omega, rfl⟩⟩
      · go_wp2
        go_ret2
        refine ⟨_, rfl, HL.out.bel, .inr ⟨h1, h6, v, M, rfl, hM, fun j hj => ⟨rfl, HV.out j hj⟩, A', c', ?_, ?_, ?_, ?_⟩⟩
        · rw [← HP.out, ← HM.out]; rfl
        · rw [← HP.out, ← HM.out]; omega
        · rw [← HP.out, ← HM.out]; exact (HL.out.own 0 _ rfl).le.1
        · rw [← HP.out, ← HM.out]; exact HL.out.rd1 0 rfl
end Go.Proofs.Ytgjmnnbcclgahaa
