/- The law ForkFair, walked. -/
import Derived.Test.YtgfogcaklcnliaaFkLaw
set_option linter.unusedVariables false
set_option linter.unusedSimpArgs false
namespace Go.Proofs.Ytgfogcaklcnliaa
open Go.RowKit

theorem Good.rround {n : Nat} {l : Lk} {A : Option Addr} {m cap : Nat} {w : World} (h : Good n l A m cap w) :
    Calls Try.prog 12 #[.int .i64 (n : Nat), .slice A m cap] w (Gives fun v w' => v = .bool (isRound n l) ∧ Below w.heap.size w w') :=
  rround_any n l A m cap w.heap.size w h.ok h.hm (Nat.le_refl _) h.rd
theorem forkFair_bad (n many : Int) (A : Option Addr) (m cap : Nat) (w : World) (h : Bad n A m cap w) :
    Calls Try.prog 4 #[.int .i64 n, .slice A m cap, .int .i64 many] w fun e w' => e = .returned (.bool true) ∧ Below w.heap.size w w' := by
  have H := Lib.hid h; clear h
  go_enter Try.func4, Try.ntmps4
  go_wp2_with fail
  refine (badRun H.out).mono ?_
  rintro e w1 ⟨v, rfl, c, rfl, hc, hb⟩
  have HB := Lib.hid hb; clear hb
  go_wp2_with fail
  refine (badForked (H.out.below HB.out)).mono ?_
  rintro e w3 ⟨v, rfl, rfl, hb⟩
  have HB3 := Lib.hid (HB.out.trans (hb.mono HB.out.size)); clear hb
  go_wp2
  go_ret
  exact ⟨rfl, HB3.out⟩
set_option maxHeartbeats 1000000 in
theorem forkFair_out (n : Nat) (l : Lk) (many : Int) (A : Option Addr) (m cap : Nat) (w : World) (h : Good n l A m cap w) (hm : ¬ (0 ≤ many ∧ many ≤ 60) ∨ isRound n l = true) :
    Calls Try.prog 4 #[.int .i64 (n : Nat), .slice A m cap, .int .i64 many] w fun e w' => e = .returned (.bool true) ∧ Below w.heap.size w w' := by
  have H := Lib.hid h; clear h
  have HM := Lib.hid hm; clear hm
  go_enter Try.func4, Try.ntmps4
  go_wp2_with fail
  refine (badRun2 H.out HM.out).mono ?_
  rintro e w1 ⟨v, rfl, c, rfl, hc, hb⟩
  have HB := Lib.hid hb; clear hb
  go_wp2_with fail
  refine (goodForked (H.out.below HB.out)).mono ?_
  rintro e w3 ⟨v, rfl, rfl, hb⟩
  have HB3 := Lib.hid (HB.out.trans (hb.mono HB.out.size)); clear hb
  by_cases hm : 0 ≤ many ∧ many ≤ 60
  · obtain ⟨hm0, hm1⟩ := hm
    have HR : Hid (isRound n l = true) := Lib.hid (HM.out.resolve_left fun h => h ⟨hm0, hm1⟩)
    go_wp2_with fail
    refine (H.out.below HB3.out).rround.mono ?_
    rintro e w4 ⟨v, rfl, rfl, hb⟩
    have HB4 := Lib.hid (HB3.out.trans (hb.mono HB3.out.size)); clear hb
    rw [HR.out]
    go_wp2
    go_ret
    exact ⟨rfl, HB4.out⟩
  · rcases (by omega : many < 0 ∨ (0 ≤ many ∧ 60 < many)) with h1 | ⟨h1, h2⟩
    all_goals
      clear hm
      go_wp2
      go_ret
      exact ⟨rfl, HB3.out⟩
set_option maxRecDepth 100000 in
set_option maxHeartbeats 2000000 in
theorem forkFair_good (n : Nat) (l : Lk) (many : Nat) (A : Option Addr) (m cap : Nat) (w : World) (h : Good n l A m cap w) (hm : many ≤ 60) (hrd : isRound n l = false) :
    Calls Try.prog 4 #[.int .i64 (n : Nat), .slice A m cap, .int .i64 (many : Nat)] w fun e w' => e = .returned (.bool true) ∧ Below w.heap.size w w' := by
  have H := Lib.hid h; clear h
  have HRD := Lib.hid hrd; clear hrd
  have h1 := H.out.ok.h1
  have h6 := H.out.ok.h6
  have h15 := H.out.m15
  have HFA : Hid (∀ j, j < m → (oft n l many (f1 l j) : Int) - oft n l many (f2 l j) ≥ -1 ∧ (oft n l many (f1 l j) : Int) - oft n l many (f2 l j) ≤ 1) := Lib.hid fun j hj => fair H.out.ok many (by rw [← H.out.hm]; exact hj)
  have HLE := Lib.hid (oft_le n l many)
  have HAL : Hid (∀ i, i < n → n ≤ many → 1 ≤ oft n l many i) := Lib.hid fun i hi hr => all_turned H.out.ok (fun hc => by have := (round_iff H.out.ok).2 hc; rw [HRD.out] at this; cases this) hi hr
  have HLT : Hid (∀ j, j < m → f1 l j < n ∧ f2 l j < n) := Lib.hid fun j hj => by
    have := H.out.ok.at_ (j := j) (by rw [← H.out.hm]; exact hj)
    omega
  go_enter Try.func4, Try.ntmps4
  go_wp2_with fail
  refine (goodRun H.out hm HRD.out).mono ?_
  rintro e w1 ⟨v, rfl, A1, c1, g, rfl, hL⟩
  have HL := Lib.hid hL.tail; clear hL
  unfold oftF at HL
  go_wp2_with fail
  refine (goodForked (H.out.below HL.out.bel)).mono ?_
  rintro e w3 ⟨v, rfl, rfl, hb⟩
  have HL3 := Lib.hid (HL.out.keep hb); clear hb HL
  go_wp2_with fail
  refine (H.out.below HL3.out.bel).rround.mono ?_
  rintro e w4 ⟨v, rfl, rfl, hb⟩
  have HL4 := Lib.hid (HL3.out.keep hb); clear hb HL3
  rw [HRD.out]
  generalize oft n l many = O at HFA HLE HAL HL4
  go_wp2
  go_loopw [58] (fun i wr => ∃ k : Nat, k ≤ m ∧ i = .int .i64 k ∧ Hid (Lay w wr [arr g 3 n (fun i => .int .i64 (O i : Nat))])) (fun i _ => m - (intOf i).toNat)
  case atStart => exact ⟨0, by omega, rfl, HL4⟩
  case round =>
    clear HL4
    obtain ⟨k, hk, rfl, HL⟩ := hrel
    have hzz := HL.out.size
    by_cases hlt : k < m
    · obtain ⟨ad, rfl, hbl, c0, c1⟩ := (H.out.rd.below HL.out.bel).rec2 hlt
      obtain ⟨l1, l2⟩ := HLT.out k hlt
      have hbl2 : (ad.add (k * 2)).block < wr.heap.size := by rw [addr_block]; omega
      have hck1 := HL.out.cell1 0 rfl l1
      have hck2 := HL.out.cell1 0 rfl l2
      have hga := (HL.out.at_ 0 rfl).2
      obtain ⟨fa1, fa2⟩ := HFA.out k hlt
      have e1 := HLE.out (f1 l k)
      have e2 := HLE.out (f2 l k)
      obtain ⟨p, hp⟩ : ∃ p, f1 l k = p := ⟨_, rfl⟩
      obtain ⟨q, hq⟩ : ∃ q, f2 l k = q := ⟨_, rfl⟩
      rw [hp] at c0 l1 hck1 fa1 fa2 e1
      rw [hq] at c1 l2 hck2 fa1 fa2 e2
      clear hp hq
      generalize O p = x at hck1 fa1 fa2 e1
      generalize O q = y at hck2 fa1 fa2 e2
      go_wp2
      refine wp_text_all (by kernel_rfl) (by kernel_rfl) (by kernel_rfl) (by repeat' (first | (with_reducible apply tame_then) | (with_reducible apply tame_block) | (with_reducible apply tame_scope) | exact tame_gives | exact tame_body (fun _ _ h => ⟨_, h.1⟩))) ?_
      go_wp2
      refine headed ?_
      go_wp2
      go_roundw
      case rel => exact ⟨k + 1, by omega, by go_num, Lib.hid ((HL.out.alloc _).drew)⟩
      case measure => simp [intOf]; omega
    · obtain rfl : k = m := by omega
      go_wp2
      go_loopw [13] (fun i w5 => ∃ j : Nat, j ≤ n ∧ i = .int .i64 j ∧ w5 = wr) (fun i _ => n - (intOf i).toNat)
      case atStart => exact ⟨0, by omega, rfl, rfl⟩
      case round =>
        obtain ⟨j, hj, rfl, rfl⟩ := hrel
        by_cases hlt : j < n
        · have hck := HL.out.cell1 0 rfl hlt
          have e1 := HLE.out j
          have e2 := HAL.out j hlt
          generalize O j = x at hck e1 e2
          by_cases hnm : n ≤ many
          · have e3 := e2 hnm
            have e4 : ((x : Int) == 0) = false := by simp; omega
            clear e2 e3
            go_wp2
            go_roundw
            case rel => exact ⟨j + 1, by omega, by go_num, by trivial⟩
            case measure => simp [intOf]; omega
          · clear e2
            go_wp2
            go_roundw
            case rel => exact ⟨j + 1, by omega, by go_num, by trivial⟩
            case measure => simp [intOf]; omega
        · obtain rfl : j = n := by omega
          go_wp2
          go_ret
          exact ⟨rfl, HL.out.bel⟩
theorem forkFair_all (n : Int) (A : Option Addr) (m cap : Nat) (p q : Nat → Int) (many : Int) (w : World) (wn : (Lit.int .i64 n).wf = true) (hc : m ≤ cap ∧ cap ≤ maxLen) (hr : Rd w w.heap.size A (m * 2) (recF2 p q)) (wi : (Lit.int .i64 many).wf = true) :
    Calls Try.prog 4 #[.int .i64 n, .slice A m cap, .int .i64 many] w fun e w' => e = .returned (.bool true) ∧ Below w.heap.size w w' := by
  rcases good_or_bad n A m cap p q w hc hr with ⟨n', l, rfl, h⟩ | h
  · by_cases hi : 0 ≤ many ∧ many ≤ 60
    · obtain ⟨h0, h1⟩ := hi
      obtain ⟨k, rfl⟩ := Int.eq_ofNat_of_zero_le h0
      cases hb : isRound n' l
      · exact forkFair_good n' l k A m cap w h (by omega) hb
      · exact forkFair_out n' l k A m cap w h (.inr hb)
    · exact forkFair_out n' l many A m cap w h (.inl hi)
  · exact forkFair_bad n many A m cap w h
end Go.Proofs.Ytgfogcaklcnliaa
