/- The law TokenOne, walked. -/
import Derived.Test.YtihkbkbbllmliaaTkLaw
set_option linter.unusedVariables false
set_option linter.unusedSimpArgs false
namespace Go.Proofs.Ytihkbkbbllmliaa
open Go.RowKit Go.Maps Go.MapKept

set_option maxRecDepth 100000 in
set_option maxHeartbeats 1600000 in
theorem tokenOne_good (n m cap cap1 : Nat) (A A1 : Option Addr) (u : Nat → Int) (M : Mv) (w : World) (hru : Rd w w.heap.size A1 n (fun j => .int .i64 (u j))) (hr : Rd w w.heap.size A (m * 4) (mvF M)) (h1 : 1 ≤ n) (h6 : n ≤ 6) (hm6 : m ≤ 60) (ht : TreeOk n u) :
    Calls Try.prog 6 #[.slice A1 n cap1, .slice A m cap] w fun e w' => e = .returned (.bool true) ∧ Below w.heap.size w w' := by
  have HR := Lib.hid hr; clear hr
  have HRU := Lib.hid hru; clear hru
  have HB : Hid (playedB n m = true ∧ TreeOk n u) := Lib.hid ⟨playedB_iff.2 ⟨by omega, by omega, by omega⟩, ht⟩
  obtain ⟨r, hrt, -⟩ := ht.root
  have HRT := Lib.hid hrt; clear hrt
  have hJ := tkE_J (n := n) (r := r) (v := vN u) (fun i hi => by have := ht.ins i hi; unfold vN; omega) M m
  have hone := inK_one (n := n) (tkE n (vN u) r M m)
  have hand := inK_apart hJ h6
  have h32 := (inK_32 (tkE n (vN u) r M m) h6).1
  go_enter Try.func6, Try.ntmps6
  go_wp2_with fail
  refine (tk_good n w m cap cap1 _ r A A1 u M h1 h6 hm6 (Nat.le_refl _) HRU.out ht HRT.out HR.out).mono ?_
  rintro e w1 ⟨v, rfl, AC, cC, rfl, hL⟩
  generalize inK (tkE n (vN u) r M m) n = a at hone hand h32 ⊢
  generalize wantK (tkE n (vN u) r M m) n = b at hand ⊢
  generalize wayLen n (tkE n (vN u) r M m).way = l
  have HL := Lib.hid (hL.newB [.slice AC m cC, .int .u32 (a : Nat), .int .u32 (b : Nat), .int .i64 (l : Nat)] 26 4 rfl _ rfl)
  clear hL hJ
  obtain ⟨c, hc⟩ : ∃ c, pop a = c := ⟨_, rfl⟩
  rw [hc] at hone
  have HC := Lib.hid hc
  clear hc ht
  go_wp2_with (first
    | (go_at_call 14; refine (treed_any A1 n cap1 w.heap.size m u _ (by unfold maxLen; omega) (HRU.out.below HL.out.bel)).mono ?_; rintro e w3 ⟨b3, rfl, hb3, rfl⟩; obtain rfl := hb3.2 HB.out; clear hb3)
    | (go_at_call 11; refine (size_is c a _ h32 HC.out).mono ?_; rintro e w3 ⟨rfl, rfl⟩)
    | fail)
  go_ret
  exact ⟨rfl, HL.out.bel⟩
theorem tokenOne_bad (n m cap cap1 : Nat) (A A1 : Option Addr) (u : Nat → Int) (w : World) (hn : n ≤ maxLen) (hm : m ≤ maxLen) (hru : Rd w w.heap.size A1 n (fun j => .int .i64 (u j))) (hb : ¬ (playedB n m = true ∧ TreeOk n u)) :
    Calls Try.prog 6 #[.slice A1 n cap1, .slice A m cap] w fun e w' => e = .returned (.bool true) ∧ Below w.heap.size w w' := by
  have HB := Lib.hid hb; clear hb
  have HM := Lib.hid hm
  have HN := Lib.hid hn
  have HRU := Lib.hid hru; clear hru
  go_enter Try.func6, Try.ntmps6
  go_wp2_with fail
  refine (tk_bad n m cap cap1 A A1 u w HN.out HM.out HRU.out HB.out).mono ?_
  rintro e w1 ⟨c, hc, rfl, hb1⟩
  have e1 : (c != 0) = true := by rw [bne_iff_ne]; exact hc
  have HB1 := Lib.hid (hb1.alloc hb1.size (.cells #[.slice none 0 0, .int .u32 0, .int .u32 0, .int .i64 0] 26)); clear hb1
  unfold maxLen at hm
  go_wp2_with (go_at_call 14; refine (treed_any A1 n cap1 w.heap.size m u _ HN.out (HRU.out.below HB1.out)).mono ?_; rintro e w3 ⟨b3, rfl, hb3, rfl⟩; obtain rfl : b3 = false := by (cases b3; rfl; exact absurd (hb3.1 rfl) HB.out))
  go_ret
  exact ⟨rfl, HB1.out⟩
theorem tokenOne_all (A1 : Option Addr) (n cap1 : Nat) (u : Nat → Int) (A : Option Addr) (m cap : Nat) (M : Mv) (w : World) (hnc : n ≤ cap1 ∧ cap1 ≤ maxLen) (_ : ∀ i, i < n → (Lit.int .i64 (u i)).wf = true) (hru : Rd w w.heap.size A1 n (fun j => .int .i64 (u j))) (hmc : m ≤ cap ∧ cap ≤ maxLen) (hr : Rd w w.heap.size A (m * 4) (mvF M)) :
    Calls Try.prog 6 #[.slice A1 n cap1, .slice A m cap] w fun e w' => e = .returned (.bool true) ∧ Below w.heap.size w w' := by
  by_cases hb : playedB n m = true ∧ TreeOk n u
  · obtain ⟨h1, h2, h3⟩ := playedB_iff.1 hb.1
    exact tokenOne_good n m cap cap1 A A1 u M w hru hr (by omega) (by omega) (by omega) hb.2
  · exact tokenOne_bad n m cap cap1 A A1 u w (Nat.le_trans hnc.1 hnc.2) (Nat.le_trans hmc.1 hmc.2) hru hb
end Go.Proofs.Ytihkbkbbllmliaa
