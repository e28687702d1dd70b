/- What keep.Play answers, as the laws read it; the walks of kept, order, writes, PlayCheck. -/
import Derived.Test.YtfdgjbanajodfaaDoorKp5
import Derived.Test.YtfdgjbanajodfaaDoorHas
import Derived.Test.YtfdgjbanajodfaaDoorPhase
set_option linter.unusedVariables false
set_option linter.unusedSimpArgs false
namespace Go.Proofs.YtfdgjbanajodfaaDoor
open Go.RowKit

/-- An answer of Play in memory. -/
structure KpR (w : World) (B : Nat) (AC AP AS : Option Addr) (m n : Nat) (NA : Nat → Option Addr) (NC : Nat → Nat) (a : Nat → Ans) (ap seen : Nat → Nat) : Prop where
  pl : PlR w B AC m NA NC a
  A : Rd w B AP n (fun t => .int .i64 (ap t : Nat))
  S : Rd w B AS 6 (fun t => .int .i64 (seen t : Nat))
theorem KpR.to {w w' : World} {B : Nat} {AC AP AS : Option Addr} {m n : Nat} {NA : Nat → Option Addr} {NC : Nat → Nat} {a : Nat → Ans} {ap seen : Nat → Nat} (h : KpR w B AC AP AS m n NA NC a ap seen) (hb : Below w.heap.size w w') : KpR w' B AC AP AS m n NA NC a ap seen :=
  ⟨h.pl.to hb, h.A.below (hb.mono h.pl.le), h.S.below (hb.mono h.pl.le)⟩
theorem kplay_law (n m cap0 B : Nat) (A0 : Option Addr) (X : Nat → StepX) (w : World) (hn1 : 1 ≤ n) (hn : n ≤ 6) (hm : m ≤ 60) (hB : B ≤ w.heap.size) (hD : ∀ i, i < m → DeedL (X i).deed) (hr : Rd w B A0 (m * 7) (skF X)) :
    Calls Tryd.prog 14 #[.int .i64 n, .slice A0 m cap0] w fun e w' => ∃ AC cC AP cP AS cS NA NC, e = .returned (.tuple #[.agg #[.slice AC m cC, .slice AP n cP, .slice AS 6 cS], .int .i64 0]) ∧ Below w.heap.size w w' ∧
      KpR w' w'.heap.size AC AP AS m n NA NC (kans n X) (kst n X m).ap (kst n X m).seen := by
  refine (kplay_good n m cap0 B A0 X w hn1 hn hm hB hD hr).mono ?_
  rintro e w' ⟨v, rfl, AC, cC, AP, cP, AS, cS, G, VR, rfl, hL, hT⟩
  obtain ⟨NA, NC, h, -⟩ := plR_of hL fun t ht => ((hT t ht).sub (RowsIn.cons _ _)).sub (RowsIn.cons _ _)
  exact ⟨AC, cC, AP, cP, AS, cS, NA, NC, rfl, hL.bel, h, hL.rd1 1 rfl, hL.rd1 2 rfl⟩
theorem check_any (n m : Int) (w : World) : Calls Tryd.prog 15 #[.int .i64 n, .int .i64 m] w fun e w' => e = .returned (.int .i64 (if n < 1 ∨ 6 < n ∨ 60 < m then 1 else 0)) ∧ w' = w := by
  by_cases h1 : n < 1
  · rw [if_pos (.inl h1)]
    go_enter Tryd.func15, Tryd.ntmps15
    go_wp2
    go_ret
    exact ⟨rfl, rfl⟩
  · by_cases h2 : 6 < n
    · rw [if_pos (.inr (.inl h2))]
      go_enter Tryd.func15, Tryd.ntmps15
      go_wp2
      go_ret
      exact ⟨rfl, rfl⟩
    · by_cases h3 : 60 < m
      · rw [if_pos (.inr (.inr h3))]
        go_enter Tryd.func15, Tryd.ntmps15
        go_wp2
        go_ret
        exact ⟨rfl, rfl⟩
      · rw [if_neg (by omega)]
        go_enter Tryd.func15, Tryd.ntmps15
        go_wp2
        go_ret
        exact ⟨rfl, rfl⟩
set_option maxRecDepth 100000 in
set_option maxHeartbeats 3200000 in
theorem kept_any (m n cC cP cS B : Nat) (AC AP AS : Option Addr) (ap seen : Nat → Nat) (w : World) (hm : m ≤ 60) (hn : n ≤ 6) (hB : B ≤ w.heap.size) (hA : Rd w B AP n (fun t => .int .i64 (ap t : Nat))) (hS : Rd w B AS 6 (fun t => .int .i64 (seen t : Nat))) :
    Calls Tryd.prog 16 #[.agg #[.slice AC m cC, .slice AP n cP, .slice AS 6 cS], .int .i64 n, .int .i64 m] w fun e w' => e = .returned (.bool true) ∧ Below w.heap.size w w' := by
  have HA := Lib.hid hA; clear hA
  have HS := Lib.hid hS; clear hS
  obtain ⟨iI, hiI, hzI0, hzI1, hzI2⟩ := info_parts infoInt1
  have HL := Lib.hid ((Lay.nil w).newB [.slice AC m cC, .slice AP n cP, .slice AS 6 cS] 52 3 rfl _ rfl)
  go_enter Tryd.func16, Tryd.ntmps16
  go_upto_region 1 with (fail)
  refine at_lay (F := fun W' => Code.wp _ _ _ _ W') HL.out ?_
  intro W hW
  have HW := Lib.hid hW
  have HAW := Lib.hid (HA.out.below (hW.bel.mono hB))
  have HSW := Lib.hid (HS.out.below (hW.bel.mono hB))
  have hBW : B ≤ W.heap.size := Nat.le_trans hB hW.size
  clear hW HL HA HS
  generalize w.heap.size = t3 at HW ⊢
  have r0 := HW.out.cellB 0 rfl 0 (by omega)
  have r1 := HW.out.cellB 0 rfl 1 (by omega)
  have r2 := HW.out.cellB 0 rfl 2 (by omega)
  simp only [ofL_0, ofL_1, ofL_2] at r0 r1 r2
  go_wp2
  refine wp_phase (fun W => W.cell? ⟨t3, 1, none⟩ = some (.slice AP n cP) ∧ W.cell? ⟨t3, 2, none⟩ = some (.slice AS 6 cS)) [false, true, true, false, true, true, false, false, true] ?A1 (by kernel_rfl) (by decide) (by kernel_rfl) (by repeat' (first | (with_reducible apply tame_then) | (with_reducible apply tame_block) | (with_reducible apply tame_scope) | exact tame_gives | exact tame_body (fun _ _ h => ⟨_, h.1⟩))) ⟨r1, r2⟩ ?head ?tail
  case head =>
    intro W5 ⟨s0, s1⟩
    simp only [pick]
    go_wp2
    exact taken
  case tail =>
    have HN := Lib.hid (HW.out.drew.new #[] 3 1 0 (fun t => .int .i64 (ap t : Nat)) W.heap.size rfl rfl (by unfold maxLen; omega) (fun j hj => absurd hj (by omega)))
    clear r0 r1 r2
    simp only [pick, List.map_cons, List.map_nil, Bool.not_true, Bool.not_false]; refine chain_step ?_
    go_wp2
    refine holds ⟨HN.out.cellB 1 rfl 1 (by omega), HN.out.cellB 1 rfl 2 (by omega)⟩ ?_
    refine chain_step ?_
    go_wp2_with (at_builtin; revert hn)
    intro hn
    refine wpList_ap1 rfl (.tmp 27) (.tmp 29) _ rfl 3 iI _ 8 Tryd.underlying50 hiI hzI0 hzI1 hzI2 rfl w.heap.size (n := 0) rfl (HN.out.own 0 _ rfl) (B := B) (m := n) (g := fun t => .int .i64 (ap t : Nat)) rfl ((HAW.out.drewN 1).alloc hBW _) (fun _ _ => rfl) (fun t => .int .i64 (ap t : Nat)) (fun i hi => absurd hi (by omega)) (fun i hi => by rw [Nat.zero_add]) n (by omega) (by unfold maxLen; omega) (by omega) HN.out.size ?_
    intro A2 c2 w4 ho hg hh
    have H4 := Lib.hid (HN.out.app 0 rfl ho hg hh)
    have HS4 : Hid (Rd w4 B AS 6 (fun t => .int .i64 (seen t : Nat))) := Lib.hid (((HSW.out.drewN 1).alloc hBW _).grown hg (by simp; omega) (fun g e => by have e : some W.heap.size = some g := e; injection e with e; omega))
    clear ho hg hh HN HSW HAW HW
    refine holds ⟨H4.out.cellB 1 rfl 1 (by omega), H4.out.cellB 1 rfl 2 (by omega)⟩ ?_
    refine chain_step ?_
    have HF1 : Hid (∀ j, j < n → (fun t => Value.int .i64 (((if t < n then ap t else seen (t - n)) : Nat) : Int)) j = (fun t => Value.int .i64 (ap t : Nat)) j) := Lib.hid fun j hj => by simp only [if_pos hj]
    have HF2 : Hid (∀ j, j < 6 → (fun t => Value.int .i64 (((if t < n then ap t else seen (t - n)) : Nat) : Int)) (n + j) = (fun t => Value.int .i64 (seen t : Nat)) j) := Lib.hid fun j hj => by
      simp only [if_neg (show ¬ n + j < n by omega), Nat.add_sub_cancel_left]
    go_wp2_with (at_builtin; revert hn)
    intro hn
    refine wpList_ap1 rfl (.tmp 30) (.tmp 32) _ rfl 3 iI _ 8 Tryd.underlying50 hiI hzI0 hzI1 hzI2 rfl w.heap.size (n := n) rfl (H4.out.own 0 _ rfl) (B := B) (m := 6) (g := fun t => .int .i64 (seen t : Nat)) rfl HS4.out (fun _ _ => rfl) (fun t => .int .i64 (((if t < n then ap t else seen (t - n)) : Nat) : Int)) HF1.out HF2.out (n + 6) rfl (by unfold maxLen; omega) (by omega) H4.out.size ?_
    intro A3 c3 w5 ho hg hh
    have H5 := Lib.hid (H4.out.app 0 rfl ho hg hh)
    clear ho hg hh H4 HS4 HF1 HF2
    refine holds ⟨H5.out.cellB 1 rfl 1 (by omega), H5.out.cellB 1 rfl 2 (by omega)⟩ ?_
    refine chain_step ?_
    go_wp2
    refine holds ⟨H5.out.cellB 1 rfl 1 (by omega), H5.out.cellB 1 rfl 2 (by omega)⟩ ?_
    refine chain_end ?_
    go_wp2
    refine headed ?_
    go_wp2
    go_loopw [35] (fun i wr => ∃ k : Nat, k ≤ n + 6 ∧ i = .int .i64 (k : Nat) ∧ wr = w5) (fun i _ => n + 6 - (intOf i).toNat)
    case atStart => exact ⟨0, by omega, rfl, rfl⟩
    case round =>
      obtain ⟨k, hk, rfl, hwr⟩ := hrel
      subst wr
      by_cases hlt : k < n + 6
      · obtain ⟨g3, eA, -, -, hc, -⟩ := (H5.out.own 0 _ rfl).pos (show 0 < n + 6 by omega)
        have eA : A3 = some ⟨g3, 0, none⟩ := eA
        subst eA
        have hck := hc k (by show k < (n + 6) * 1; omega)
        clear hc
        obtain ⟨x, hx⟩ : ∃ x : Nat, (if k < n then ap k else seen (k - n)) = x := ⟨_, rfl⟩
        have hck : w5.cell? ⟨g3, k, none⟩ = some (.int .i64 (x : Nat)) := by rw [← hx]; exact hck
        clear hx
        go_wp2
        go_roundw
        case rel => exact ⟨k + 1, by omega, by go_num, trivial⟩
        case measure => simp [intOf]; omega
      · obtain rfl : k = n + 6 := by omega
        go_wp2
        refine bodyPost_ret (v := .bool true) (by simp [results, Tryd.results16, go_sem]) rfl ?_
        exact ⟨rfl, H5.out.bel⟩
end Go.Proofs.YtfdgjbanajodfaaDoor
